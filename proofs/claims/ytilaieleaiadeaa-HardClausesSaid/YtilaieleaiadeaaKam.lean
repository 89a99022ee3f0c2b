/-
Counting models, in plain words.
-/
import Derived.Test.YtilaieleaiadeaaKal
import Derived.Test.YtilaieleaiadeaaKaf
namespace Go.AW
open Go Go.Proofs TyTry Go.IntWalk
set_option linter.unusedSimpArgs false
set_option linter.unusedVariables false

/-- How many lists of truth values of a length have a property. -/
def cntP : Nat → (List Bool → Bool) → Nat
  | 0, p => if p [] then 1 else 0
  | n + 1, p => cntP n (fun a => p (a ++ [false])) + cntP n fun a => p (a ++ [true])
theorem cntP_congr : ∀ (n : Nat) {p q : List Bool → Bool}, (∀ a, a.length = n → p a = q a) → cntP n p = cntP n q
  | 0, p, q, h => by rw [cntP, cntP, h [] rfl]
  | n + 1, p, q, h => by
    rw [cntP, cntP, cntP_congr n fun a ha => h (a ++ [false]) (by simp [ha]), cntP_congr n fun a ha => h (a ++ [true]) (by simp [ha])]
theorem cntP_add : ∀ (n : Nat) (p q r : List Bool → Bool), (∀ a, a.length = n → p a = (q a || r a)) → (∀ a, a.length = n → (q a && r a) = false) → cntP n p = cntP n q + cntP n r
  | 0, p, q, r, h, hd => by
    have h1 := h [] rfl
    have h2 := hd [] rfl
    simp only [cntP, h1]
    revert h2
    cases q [] <;> cases r [] <;> simp
  | n + 1, p, q, r, h, hd => by
    simp only [cntP]
    rw [cntP_add n _ (fun a => q (a ++ [false])) (fun a => r (a ++ [false])) (fun a ha => h _ (by simp [ha])) (fun a ha => hd _ (by simp [ha])),
      cntP_add n _ (fun a => q (a ++ [true])) (fun a => r (a ++ [true])) (fun a ha => h _ (by simp [ha])) (fun a ha => hd _ (by simp [ha]))]
    omega
theorem cntP_zero (n : Nat) {p : List Bool → Bool} (h : ∀ a, a.length = n → p a = false) : cntP n p = 0 := by
  induction n generalizing p with
  | zero => rw [cntP, h [] rfl]; rfl
  | succ n ih => rw [cntP, ih fun a ha => h _ (by simp [ha]), ih fun a ha => h _ (by simp [ha])]
theorem cntP_pos : ∀ (n : Nat) {p : List Bool → Bool}, 0 < cntP n p ↔ ∃ a, a.length = n ∧ p a = true
  | 0, p => by
    rw [cntP]
    constructor
    · intro h
      split at h
      · exact ⟨[], rfl, by assumption⟩
      · omega
    · rintro ⟨a, ha, hp⟩
      obtain rfl := List.length_eq_zero_iff.1 ha
      simp [hp]
  | n + 1, p => by
    rw [cntP]
    constructor
    · intro h
      by_cases h1 : 0 < cntP n fun a => p (a ++ [false])
      · obtain ⟨a, ha, hp⟩ := (cntP_pos n).1 h1
        exact ⟨_, by simp [ha], hp⟩
      · obtain ⟨a, ha, hp⟩ := (cntP_pos n (p := fun a => p (a ++ [true]))).1 (by omega)
        exact ⟨_, by simp [ha], hp⟩
    · rintro ⟨a, ha, hp⟩
      have hne : a ≠ [] := by intro e; subst e; simp at ha
      have he := List.dropLast_concat_getLast hne
      have hl : a.dropLast.length = n := by simp [ha]
      cases hb : a.getLast hne with
      | false =>
        have := (cntP_pos n (p := fun a => p (a ++ [false]))).2 ⟨a.dropLast, hl, by rw [hb] at he; rw [he]; exact hp⟩
        omega
      | true =>
        have := (cntP_pos n (p := fun a => p (a ++ [true]))).2 ⟨a.dropLast, hl, by rw [hb] at he; rw [he]; exact hp⟩
        omega
theorem cntP_mono (n : Nat) {p q : List Bool → Bool} (h : ∀ a, a.length = n → p a = true → q a = true) : cntP n p ≤ cntP n q := by
  induction n generalizing p q with
  | zero =>
    have := h [] rfl
    simp only [cntP]
    cases hp : p [] <;> cases hq : q [] <;> simp_all
  | succ n ih =>
    have h1 := ih (p := fun a => p (a ++ [false])) (q := fun a => q (a ++ [false])) fun a ha hp => h _ (by simp [ha]) hp
    have h2 := ih (p := fun a => p (a ++ [true])) (q := fun a => q (a ++ [true])) fun a ha hp => h _ (by simp [ha]) hp
    simp only [cntP]; omega
theorem cntP_le (n : Nat) (p : List Bool → Bool) : cntP n p ≤ 2 ^ n := by
  induction n generalizing p with
  | zero => simp only [cntP]; split <;> simp
  | succ n ih =>
    have h1 := ih fun a => p (a ++ [false])
    have h2 := ih fun a => p (a ++ [true])
    simp only [cntP, Nat.pow_succ]; omega
/-- The models that have some literals true. -/
def cntM (n : Nat) (list : List (List Int)) (tr : List Int) : Nat := cntP n fun a => satC list a && agr tr a
theorem litB_last {a : List Bool} {b : Bool} {n : Nat} (ha : a.length = n) {x : Int} (hx : LitOk (n + 1) x) : litB (a ++ [b]) x = if x = n + 1 then b else if x = -(n + 1 : Int) then !b else litB a x := by
  obtain ⟨h0, h1, h2⟩ := hx
  unfold litB
  by_cases hp : x > 0
  · rw [if_pos hp]
    by_cases e : x = n + 1
    · rw [if_pos e]
      have : (x - 1).toNat = n := by omega
      rw [this, List.getD_eq_getElem?_getD, List.getElem?_append_right (by omega), ha]; simp
    · rw [if_neg e, if_neg (by omega), if_pos hp, List.getD_eq_getElem?_getD, List.getElem?_append_left (by omega), ← List.getD_eq_getElem?_getD]
  · rw [if_neg hp, if_neg (by omega)]
    by_cases e : x = -(n + 1 : Int)
    · rw [if_pos e]
      have : (-x - 1).toNat = n := by omega
      rw [this, List.getD_eq_getElem?_getD, List.getElem?_append_right (by omega), ha]; simp
    · rw [if_neg e, if_neg hp, List.getD_eq_getElem?_getD, List.getElem?_append_left (by omega), ← List.getD_eq_getElem?_getD]
/-- So many truth values agree with literals. -/
theorem cnt_agr : ∀ (n : Nat) (tr : List Int), TrOk n tr → cntP n (agr tr) = 2 ^ (n - tr.length)
  | 0, tr, h => by
    have : tr = [] := by
      cases tr with
      | nil => rfl
      | cons x t => have := h.lit x (by simp); have := this.1; have := (h.lit x (by simp)).2; omega
    subst this; rfl
  | n + 1, tr, h => by
    have hlen := h.len
    -- the others
    have key : ∀ (w : Int) (b : Bool), (w = n + 1 ∧ b = true) ∨ (w = -(n + 1 : Int) ∧ b = false) → w ∈ tr → cntP (n + 1) (agr tr) = 2 ^ (n + 1 - tr.length) := by
      intro w b hw hm
      have hmn := h.opp w hm
      have htr' : TrOk n (tr.erase w) := by
        refine ⟨h.nd.erase w, fun x hx => ?_, fun x hx hn => h.opp x (List.mem_of_mem_erase hx) (List.mem_of_mem_erase hn)⟩
        have hx2 := (h.nd.mem_erase_iff).1 hx
        obtain ⟨a1, a2, a3⟩ := h.lit x hx2.2
        have a4 : x ≠ -w := fun e => hmn (e ▸ hx2.2)
        have a5 := hx2.1
        exact ⟨a1, by omega, by omega⟩
      have ih := cnt_agr n _ htr'
      rw [List.length_erase_of_mem hm] at ih
      have hag : ∀ (a : List Bool) (b' : Bool), a.length = n → agr tr (a ++ [b']) = (agr (tr.erase w) a && (b' == b)) := by
        intro a b' ha
        rw [Bool.eq_iff_iff]
        simp only [agr, List.all_eq_true, Bool.and_eq_true, beq_iff_eq]
        constructor
        · intro hall
          refine ⟨fun x hx => ?_, ?_⟩
          · have hx2 := (h.nd.mem_erase_iff).1 hx
            have := hall x hx2.2
            have a4 : x ≠ -w := fun e => hmn (e ▸ hx2.2)
            have a5 := hx2.1
            rw [litB_last ha (h.lit x hx2.2), if_neg (by omega), if_neg (by omega)] at this
            exact this
          · have := hall w hm
            rw [litB_last ha (h.lit w hm)] at this
            rcases hw with ⟨e1, e2⟩ | ⟨e1, e2⟩
            · rw [if_pos e1] at this; rw [this, e2]
            · rw [if_neg (by omega), if_pos e1] at this; rw [e2]; simpa using this
        · rintro ⟨hall, hb⟩ x hx
          rw [litB_last ha (h.lit x hx)]
          by_cases e : x = w
          · subst e
            rcases hw with ⟨e1, e2⟩ | ⟨e1, e2⟩
            · rw [if_pos e1, hb, e2]
            · rw [if_neg (by omega), if_pos e1, hb, e2]; rfl
          · have a4 : x ≠ -w := fun e => hmn (e ▸ hx)
            rw [if_neg (by omega), if_neg (by omega)]
            exact hall x ((h.nd.mem_erase_iff).2 ⟨e, hx⟩)
      rw [cntP]
      have hpos : 0 < tr.length := List.length_pos_of_mem hm
      have e3 : n + 1 - tr.length = n - (tr.length - 1) := by omega
      rw [e3]
      rcases hw with ⟨e1, rfl⟩ | ⟨e1, rfl⟩
      · have q1 : cntP n (fun a => agr tr (a ++ [false])) = 0 := cntP_zero n fun a ha => by rw [hag a false ha]; simp
        have q2 : cntP n (fun a => agr tr (a ++ [true])) = cntP n (agr (tr.erase w)) := cntP_congr n fun a ha => by rw [hag a true ha]; simp
        rw [q1, q2, ih]; omega
      · have q1 : cntP n (fun a => agr tr (a ++ [true])) = 0 := cntP_zero n fun a ha => by rw [hag a true ha]; simp
        have q2 : cntP n (fun a => agr tr (a ++ [false])) = cntP n (agr (tr.erase w)) := cntP_congr n fun a ha => by rw [hag a false ha]; simp
        rw [q1, q2, ih]; omega
    by_cases h1 : (n + 1 : Int) ∈ tr
    · exact key _ true (.inl ⟨rfl, rfl⟩) h1
    · by_cases h2 : -(n + 1 : Int) ∈ tr
      · exact key _ false (.inr ⟨rfl, rfl⟩) h2
      · have htr' : TrOk n tr := by
          refine ⟨h.nd, fun x hx => ?_, h.opp⟩
          obtain ⟨a1, a2, a3⟩ := h.lit x hx
          have a4 : x ≠ (n + 1 : Int) := fun e => h1 (e ▸ hx)
          have a5 : x ≠ -(n + 1 : Int) := fun e => h2 (e ▸ hx)
          exact ⟨a1, by omega, by omega⟩
        have ih := cnt_agr n tr htr'
        have hag : ∀ (a : List Bool) (b' : Bool), a.length = n → agr tr (a ++ [b']) = agr tr a := by
          intro a b' ha
          unfold agr
          rw [Bool.eq_iff_iff, List.all_eq_true, List.all_eq_true]
          refine forall_congr' fun x => forall_congr' fun hx => ?_
          have a4 : x ≠ (n + 1 : Int) := fun e => h1 (e ▸ hx)
          have a5 : x ≠ -(n + 1 : Int) := fun e => h2 (e ▸ hx)
          rw [litB_last ha (h.lit x hx), if_neg a4, if_neg a5]
        have hl := htr'.len
        rw [cntP, cntP_congr n (q := agr tr) fun a ha => hag a false ha, cntP_congr n (q := agr tr) fun a ha => hag a true ha, ih, show n + 1 - tr.length = (n - tr.length) + 1 by omega, Nat.pow_succ]
        omega
/-- One number, true or false. -/
theorem cntM_split {n : Nat} {list : List (List Int)} {tr : List Int} {x : Int} (hx : x ≠ 0) : cntM n list tr = cntM n list (tr ++ [x]) + cntM n list (tr ++ [-x]) := by
  refine cntP_add n _ _ _ (fun a _ => ?_) (fun a _ => ?_)
  · rw [agr_app, agr_app]
    simp only [agr, List.all_cons, List.all_nil, Bool.and_true]
    rw [litB_neg hx]
    cases satC list a <;> cases (tr.all (litB a)) <;> cases litB a x <;> rfl
  · rw [agr_app, agr_app]
    simp only [agr, List.all_cons, List.all_nil, Bool.and_true]
    rw [litB_neg hx]
    cases satC list a <;> cases (tr.all (litB a)) <;> cases litB a x <;> rfl
theorem cntM_set {n : Nat} {list : List (List Int)} {tr tr' : List Int} {x : Int} (h : SetPost n list tr x true tr') : cntM n list (tr ++ [x]) = cntM n list tr' := by
  obtain ⟨e, rfl⟩ := h.ext
  obtain ⟨h1, h2, h3⟩ := h.yes rfl
  refine cntP_congr n fun a _ => ?_
  rw [Bool.eq_iff_iff, Bool.and_eq_true, Bool.and_eq_true, agr_app, Bool.and_eq_true]
  constructor
  · rintro ⟨a1, a2, a3⟩
    exact ⟨a1, h3 a a1 a2 (by simpa [agr] using a3)⟩
  · rintro ⟨a1, a2⟩
    rw [agr_app, Bool.and_eq_true] at a2
    refine ⟨a1, a2.1, ?_⟩
    have := agr_mem (t := tr ++ e) (by rw [agr_app, a2.1, a2.2]; rfl) h1
    simpa [agr] using this
theorem cntM_no {n : Nat} {list : List (List Int)} {tr tr' : List Int} {x : Int} (h : SetPost n list tr x false tr') : cntM n list (tr ++ [x]) = 0 := by
  refine cntP_zero n fun a _ => ?_
  rw [Bool.and_eq_false_iff]
  by_cases h1 : satC list a = true
  · right
    rw [agr_app, Bool.and_eq_false_iff]
    by_cases h2 : agr tr a = true
    · right
      cases h3 : litB a x with
      | false => simp [agr, h3]
      | true => exact (h.no rfl a h1 h2 h3).elim
    · exact .inl (by simpa using h2)
  · exact .inl (by simpa using h1)
theorem good_sat {n : Nat} {list : List (List Int)} {tr : List Int} (h : ∀ i < list.length, goodOf list tr i ≠ 0) {a : List Bool} (ha : agr tr a = true) : satC list a = true := by
  rw [satC, List.all_eq_true]
  intro l hl
  obtain ⟨i, hi⟩ := List.getElem?_of_mem hl
  have hlt := (List.getElem?_eq_some_iff.1 hi).1
  have := h i hlt
  rw [goodOf, getD_of2 hi] at this
  cases hf : (l.filter fun y => tr.contains y) with
  | nil => rw [hf] at this; simp at this
  | cons y r =>
    have hy : y ∈ (l.filter fun y => tr.contains y) := by rw [hf]; simp
    rw [List.mem_filter] at hy
    rw [List.any_eq_true]
    exact ⟨y, hy.1, agr_mem ha (by simpa using hy.2)⟩
theorem cntM_all {n : Nat} {list : List (List Int)} {tr : List Int} (htr : TrOk n tr) (h : ∀ i < list.length, goodOf list tr i ≠ 0) : cntM n list tr = 2 ^ (n - tr.length) := by
  rw [← cnt_agr n tr htr]
  refine cntP_congr n fun a _ => ?_
  cases ha : agr tr a with
  | false => simp
  | true => rw [good_sat (n := n) h ha]; rfl
theorem open_zero {list : List (List Int)} {tr : List Int} (h : zeros (goodL list tr) = 0) : ∀ i < list.length, goodOf list tr i ≠ 0 := by
  intro i hi hg
  have h1 : (0 : Int) ∈ goodL list tr := by
    have := goodL_get (list := list) (tr := tr) hi
    rw [hg] at this
    exact List.mem_of_getElem? this
  unfold zeros at h
  have : (0 : Int) ∈ (goodL list tr).filter fun x => x == 0 := List.mem_filter.2 ⟨h1, rfl⟩
  have h2 := List.length_pos_of_mem this
  omega
theorem open_some {list : List (List Int)} {tr : List Int} (h : zeros (goodL list tr) ≠ 0) : ∃ i < list.length, goodOf list tr i = 0 := by
  unfold zeros at h
  cases hf : (goodL list tr).filter fun x => x == 0 with
  | nil => rw [hf] at h; simp at h
  | cons y r =>
    have hy : y ∈ (goodL list tr).filter fun x => x == 0 := by rw [hf]; simp
    rw [List.mem_filter] at hy
    obtain ⟨h1, h2⟩ := hy
    rw [goodL, List.mem_map] at h1
    obtain ⟨i, hi, e⟩ := h1
    have h2 : y = 0 := by simpa using h2
    exact ⟨i, List.mem_range.1 hi, by omega⟩
/-- The truth values that a full search finds. -/
def modelOf (n : Nat) (tr : List Int) : List Bool := (valL n tr).map fun x => decide (x > 0)
theorem modelOf_len (n : Nat) (tr : List Int) : (modelOf n tr).length = n := by simp [modelOf, valL]
theorem modelOf_agr {n : Nat} {tr : List Int} (h : TrOk n tr) : agr tr (modelOf n tr) = true := by
  rw [agr, List.all_eq_true]
  intro x hx
  obtain ⟨h0, h1, h2⟩ := h.lit x hx
  unfold litB
  by_cases hp : x > 0
  · rw [if_pos hp]
    have hv : valOf tr (x - 1).toNat = 1 := by
      have e : (((x - 1).toNat : Nat) : Int) + 1 = x := by omega
      rw [valOf, e]; simp [hx]
    have hlt : (x - 1).toNat < n := by omega
    rw [modelOf, List.getD_eq_getElem?_getD, List.getElem?_map, valL_get hlt, hv]; rfl
  · rw [if_neg hp]
    have hn := h.opp x hx
    have hv : valOf tr (-x - 1).toNat = -1 := by
      have e : (((-x - 1).toNat : Nat) : Int) + 1 = -x := by omega
      rw [valOf, e]; simp [hx, hn]
    have hlt : (-x - 1).toNat < n := by omega
    rw [modelOf, List.getD_eq_getElem?_getD, List.getElem?_map, valL_get hlt, hv]; rfl
end Go.AW
/-
The document's search for models: a clause is looked through.
-/
namespace Go.AW
open Go Go.Proofs TyTry Go.IntWalk
set_option linter.unusedSimpArgs false
set_option linter.unusedVariables false
set_option maxRecDepth 10000
set_option maxHeartbeats 1000000

/-- The document's search: its objects. -/
def RS (vars : Nat) (list : List (List Int)) (tr : List Int) (left : Int) : List Ob := [.cells 1 (ints (valL vars tr)), .cells 3 [[.sl 1 (tups list), .ref 0 0 vars, .i .i64 left]]]
theorem RS_ok (vars : Nat) (list : List (List Int)) (tr : List Int) (left : Int) : okO (RS vars list tr left) = true := by
  simp [okO, RS, Ob.ltk, AV.ltk, ints]
theorem literal_spec {vars : Nat} {list : List (List Int)} {tr : List Int} {left : Int} (hv : vars ≤ 20000) (htr : TrOk vars tr) {x : Int} (hx : LitOk vars x) :
    ACallsQ Try.prog 86 [.ptr 1 0 0, .i .i64 x] (RS vars list tr left) (.i .i64 (isL tr x)) := by
  have hok := RS_ok vars list tr left
  have hk : (RS vars list tr left)[1]? = some (.cells 3 [[.sl 1 (tups list), .ref 0 0 vars, .i .i64 left]]) := rfl
  have hvv : (RS vars list tr left)[0]? = some (.cells 1 (ints (valL vars tr))) := rfl
  have hvl := valL_len vars tr
  obtain ⟨x0, x1, x2⟩ := hx
  refine ACalls_of' (n := 25) (rs := [.tmp 4]) (show Try.prog.funcs[86]? = some Try.f86 by kernel_rfl) rfl rfl rfl (by simp) (by decide +kernel) ?_
  repeat (first | refine nav ?_ | refine bo ?_)
  (refine wr fun K R hK hR => ?_; simp (maxSteps := 10000000) only [go_sem]; (try go_ints); (repeat refine And.intro side ?_); (first | refine hK _ ?_ | refine hR _ _ ?_); clear hK hR K R)
  repeat (first | refine nav ?_ | refine bo ?_)
  (refine wr fun K R hK hR => ?_; simp (maxSteps := 10000000) only [go_sem]; (try go_ints); (repeat refine And.intro side ?_); (first | refine hK _ ?_ | refine hR _ _ ?_); clear hK hR K R)
  repeat (first | refine nav ?_ | refine bo ?_)
  refine W_cond (by simp only [go_sem] <;> exact rfl) (fun hb => ?_) (fun hb => ?_)
  · have hb : x > 0 := by simpa using hb
    obtain ⟨v, rfl⟩ : ∃ v : Nat, x = (v : Int) + 1 := ⟨(x - 1).toNat, by omega⟩
    have hv := valL_get (n := vars) (tr := tr) (v := v) (by omega)
    repeat (first | refine nav ?_ | refine bo ?_)
    (refine wr fun K R hK hR => ?_; simp (maxSteps := 10000000) only [go_sem, hk, hvv, Nat.add_sub_cancel, ints_get hv, hvl]; (try go_ints); (try simp only [go_sem, hk, hvv, Nat.add_sub_cancel, ints_get hv, hvl]); (repeat refine And.intro side ?_); (first | refine hK _ ?_ | refine hR _ _ ?_); clear hK hR K R)
    repeat (first | refine nav ?_ | refine bo ?_)
    refine endQ_quiet0 (by simp only [go_sem] <;> exact rfl) (Le.of_eq ?_) (by assumption) rfl
    rw [isL_val]
  · have hb : ¬ x > 0 := by simpa using hb
    obtain ⟨v, rfl⟩ : ∃ v : Nat, x = -((v : Int) + 1) := ⟨(-x - 1).toNat, by omega⟩
    have hv := valL_get (n := vars) (tr := tr) (v := v) (by omega)
    have hb2 : -1 ≤ valOf tr v ∧ valOf tr v ≤ 1 := by unfold valOf; split <;> (try split) <;> omega
    repeat (first | refine nav ?_ | refine bo ?_)
    have e2 : (0 - -((v : Int) + 1) - 1).toNat = v := by omega
    (refine wr fun K R hK hR => ?_; simp (maxSteps := 10000000) only [go_sem, hk, hvv, e2, ints_get hv, hvl]; (try go_ints); (try simp only [go_sem, hk, hvv, e2, ints_get hv, hvl]); (repeat refine And.intro side ?_); (first | refine hK _ ?_ | refine hR _ _ ?_); clear hK hR K R)
    repeat (first | refine nav ?_ | refine bo ?_)
    refine endQ_quiet0 (by simp only [go_sem] <;> exact rfl) (Le.of_eq ?_) (by assumption) rfl
    rw [isL_neg htr]
    have h3 : valOf tr v = -1 ∨ valOf tr v = 0 ∨ valOf tr v = 1 := by omega
    rcases h3 with h3 | h3 | h3 <;> rw [h3] <;> rfl

structure SC where
  op : Int
  many : Int
  met : Bool
def stp (tr : List Int) (s : SC) (x : Int) : SC := if isL tr x = 1 then { s with met := true } else if isL tr x = 0 then { s with op := x, many := if s.many = 0 ∨ x ≠ s.op then s.many + 1 else s.many } else s
def scan (tr : List Int) (l : List Int) : SC := l.foldl (stp tr) ⟨0, 0, false⟩
structure ScP (tr : List Int) (l : List Int) (s : SC) : Prop where
  many : 0 ≤ s.many ∧ s.many ≤ l.length
  met : s.met = l.any fun x => isL tr x == 1
  zero : s.many = 0 ↔ ∀ x ∈ l, isL tr x ≠ 0
  one : s.many = 1 → s.op ∈ l ∧ isL tr s.op = 0 ∧ ∀ x ∈ l, isL tr x = 0 → x = s.op
theorem ScP.step {tr l : List Int} {s : SC} (h : ScP tr l s) (x : Int) : ScP tr (l ++ [x]) (stp tr s x) := by
  obtain ⟨⟨h1, h1'⟩, h2, h3, h4⟩ := h
  unfold stp
  split
  · rename_i hx
    refine ⟨⟨h1, by simp; omega⟩, by simp [hx], ?_, fun h => ?_⟩
    · rw [h3]
      constructor
      · intro h y hy
        rcases List.mem_append.1 hy with q | q
        · exact h y q
        · rw [List.mem_singleton.1 q, hx]; decide
      · exact fun h y hy => h y (by simp [hy])
    · obtain ⟨a, b, c⟩ := h4 h
      refine ⟨by simp [a], b, fun y hy h0 => ?_⟩
      rcases List.mem_append.1 hy with q | q
      · exact c y q h0
      · rw [List.mem_singleton.1 q, hx] at h0; omega
  · rename_i hx1
    have hf : (isL tr x == 1) = false := by simpa using hx1
    split
    · rename_i hx
      refine ⟨⟨?_, ?_⟩, ?_, ?_, fun h => ?_⟩
      · show 0 ≤ (if s.many = 0 ∨ x ≠ s.op then s.many + 1 else s.many)
        split <;> omega
      · show (if s.many = 0 ∨ x ≠ s.op then s.many + 1 else s.many) ≤ _
        rw [List.length_append, List.length_singleton]
        split <;> omega
      · rw [List.any_append, ← h2, List.any_cons, List.any_nil, hf]; simp
      · constructor
        · intro h
          have h : (if s.many = 0 ∨ x ≠ s.op then s.many + 1 else s.many) = 0 := h
          split at h <;> omega
        · intro h
          exact absurd hx (h x (by simp))
      · have h : (if s.many = 0 ∨ x ≠ s.op then s.many + 1 else s.many) = 1 := h
        refine ⟨by simp, hx, fun y hy h0 => ?_⟩
        show y = x
        rcases List.mem_append.1 hy with q | q
        · split at h
          · rename_i hc
            exact absurd h0 ((h3.1 (by omega)) y q)
          · rename_i hc
            have := (h4 h).2.2 y q h0
            rw [this]
            exact (Classical.byContradiction fun hne => hc (.inr hne)).symm
        · exact List.mem_singleton.1 q
    · rename_i hx
      refine ⟨⟨h1, by simp; omega⟩, by simp [hf, ← h2], ?_, fun h => ?_⟩
      · rw [h3]
        constructor
        · intro h y hy
          rcases List.mem_append.1 hy with q | q
          · exact h y q
          · rw [List.mem_singleton.1 q]; exact hx
        · exact fun h y hy => h y (by simp [hy])
      · obtain ⟨a, b, c⟩ := h4 h
        refine ⟨by simp [a], b, fun y hy h0 => ?_⟩
        rcases List.mem_append.1 hy with q | q
        · exact c y q h0
        · rw [List.mem_singleton.1 q] at h0; exact absurd h0 hx
theorem scan_take {tr l : List Int} {j : Nat} {x : Int} (h : l[j]? = some x) : scan tr (l.take (j + 1)) = stp tr (scan tr (l.take j)) x := by
  rw [List.take_add_one, h, scan, List.foldl_append]
  rfl
theorem scan_ok (tr l : List Int) : ScP tr l (scan tr l) := by
  have key : ∀ j ≤ l.length, ScP tr (l.take j) (scan tr (l.take j)) := by
    intro j
    induction j with
    | zero => intro _; exact ⟨by simp [scan], by simp [scan], by simp [scan], fun h => by simp [scan] at h⟩
    | succ j ih =>
      intro hj
      have hl : l[j]? = some l[j] := List.getElem?_eq_getElem (by omega)
      have := (ih (by omega)).step l[j]
      rw [← scan_take hl] at this
      have e : l.take (j + 1) = l.take j ++ [l[j]] := by rw [List.take_add_one, hl]; rfl
      rw [← e] at this
      exact this
  have := key l.length (Nat.le_refl _)
  rwa [List.take_length] at this
/-- What follows from a clause that was looked through. -/
theorem scan_false {n : Nat} {list : List (List Int)} {tr l : List Int} (htr : TrOk n tr) (hlit : ∀ x ∈ l, LitOk n x) (hl : l ∈ list) (hm : (scan tr l).met = false) (h0 : (scan tr l).many = 0) : cntM n list tr = 0 := by
  have h := scan_ok tr l
  refine cntP_zero _ fun a _ => ?_
  cases hs : satC list a with
  | false => rfl
  | true =>
    cases ha : agr tr a with
    | false => rfl
    | true =>
      exfalso
      obtain ⟨x, hx, hx2⟩ := List.any_eq_true.1 (List.all_eq_true.1 hs l hl)
      have h1 : isL tr x ≠ 1 := by
        intro e
        rw [h.met] at hm
        have := List.any_eq_false.1 hm x hx
        simp [e] at this
      have h2 := h.zero.1 h0 x hx
      rcases isL_cases htr x with q | q | q
      · exact h1 q.1
      · have := agr_mem ha q.2.1
        rw [litB_neg (hlit x hx).1, hx2] at this
        cases this
      · exact h2 q.1
theorem scan_one {n : Nat} {list : List (List Int)} {tr l : List Int} (htr : TrOk n tr) (hlit : ∀ x ∈ l, LitOk n x) (hl : l ∈ list) (hm : (scan tr l).met = false) (h1 : (scan tr l).many = 1) :
    LitOk n (scan tr l).op ∧ (scan tr l).op ∉ tr ∧ -(scan tr l).op ∉ tr ∧ cntM n list (tr ++ [(scan tr l).op]) = cntM n list tr := by
  have h := scan_ok tr l
  obtain ⟨a1, a2, a3⟩ := h.one h1
  obtain ⟨b1, b2⟩ : (scan tr l).op ∉ tr ∧ -(scan tr l).op ∉ tr := by
    rcases isL_cases htr (scan tr l).op with q | q | q
    · rw [q.1] at a2; cases a2
    · rw [q.1] at a2; cases a2
    · exact q.2
  refine ⟨hlit _ a1, b1, b2, cntP_congr _ fun a _ => ?_⟩
  cases hs : satC list a with
  | false => rfl
  | true =>
    rw [agr_app]
    cases ha : agr tr a with
    | false => rfl
    | true =>
      obtain ⟨x, hx, hx2⟩ := List.any_eq_true.1 (List.all_eq_true.1 hs l hl)
      have : x = (scan tr l).op := by
        refine a3 x hx ?_
        rcases isL_cases htr x with q | q | q
        · rw [h.met] at hm
          have := List.any_eq_false.1 hm x hx
          simp [q.1] at this
        · have := agr_mem ha q.2.1
          rw [litB_neg (hlit x hx).1, hx2] at this
          cases this
        · exact q.1
      simp [agr, ← this, hx2]
end Go.AW
/-
The search for models: a number is made true, and what follows from it.
-/
namespace Go.AW
open Go Go.Proofs TyTry Go.IntWalk
set_option linter.unusedSimpArgs false
set_option linter.unusedVariables false
set_option maxRecDepth 10000
set_option maxHeartbeats 1000000

section
variable {o o1 : List Ob} {K : Nat} {d : IdS} {c : Env} {ta : AV} {s : SV}
/-- Objects that the search does not own come and go. -/
theorem RepG.others {o0 : List Ob} {ta0 : AV} {s0 : SV} (h0 : RepG o0 K d c ta0 s0) (h : RepG o K d c ta s) {Q : Nat} (hQ : o0.length ≤ Q) (hta : ∀ l, ta ≠ .ref Q 0 l) (hlen : o.length ≤ o1.length) (hpre : ∀ j X, o[j]? = some X → j ≠ Q → o1[j]? = some X) (hok : okO o1 = true) : RepG o1 K d c ta s := by
  have lK := (List.getElem?_eq_some_iff.1 h0.k).1
  have lM := (List.getElem?_eq_some_iff.1 h0.m).1
  have lL := (List.getElem?_eq_some_iff.1 h0.l).1
  have lG := (List.getElem?_eq_some_iff.1 h0.g).1
  have lV := (List.getElem?_eq_some_iff.1 h0.v).1
  refine ⟨hok, hpre _ _ h.k (by omega), hpre _ _ h.m (by omega), hpre _ _ h.l (by omega), hpre _ _ h.g (by omega), hpre _ _ h.v (by omega), h.lg, h.lv, h.gv, h.ll, h.gl, h.vl, ?_, fun x => ?_, ⟨ltk_mono hlen _ h.md.1, h.md.2⟩⟩
  · rcases h.t with ⟨a, b⟩ | ⟨T, ex, a, b, t1⟩
    · exact .inl ⟨a, b⟩
    · exact .inr ⟨T, ex, a, hpre _ _ b (fun e => hta _ (by rw [a, e])), t1⟩
  · rcases h.inn x with q | ⟨I, r1, r2, r3⟩
    · exact .inl q
    · refine .inr ⟨I, r1, hpre _ _ r2 ?_, r3⟩
      rcases h0.inn x with ⟨q, _⟩ | ⟨I', q1, q2, _⟩
      · rw [q] at r1; cases r1
      · rw [q1] at r1
        simp only [Option.some.injEq, AV.ref.injEq] at r1
        have := (List.getElem?_eq_some_iff.1 q2).1
        omega
theorem RepG.push (h : RepG o K d c ta s) (X : List Ob) (hok : okO (o ++ X) = true) : RepG (o ++ X) K d c ta s := by
  refine RepG.others h h (Q := o.length) (Nat.le_refl _) (fun l e => ?_) (by simp) (fun j X hj _ => app_get _ hj) hok
  rcases h.t with ⟨a, _⟩ | ⟨T, ex, a, b, _⟩
  · rw [a] at e; cases e
  · rw [a] at e
    simp only [AV.ref.injEq] at e
    have := (List.getElem?_eq_some_iff.1 b).1
    omega
end
theorem set1_spec {o : List Ob} {K B : Nat} {d : IdS} {c : Env} {ta : AV} {s : SV} (h : RepG o K d c ta s) (hc : EnvOk c) {tr : List Int} (htr : TrOk c.vars tr) (hs : s.val = valL c.vars tr) (hB : o[B]? = some (.cells 1 [[.ptr K 0 0]])) {x : Int} (hx : LitOk c.vars x) :
    ACallsQ Try.prog 100 [.i .i64 x, .ptr B 0 0] o (.b (isL tr x == 0)) := by
  have ho := h.ok
  have lK := (List.getElem?_eq_some_iff.1 h.k).1
  refine ACalls_of' (n := 8) (rs := [.tmp 3]) (show Try.prog.funcs[100]? = some Try.f100 by kernel_rfl) rfl rfl rfl (by simp) (by decide +kernel) ?_
  repeat (first | refine nav ?_ | refine bo ?_)
  (refine wr fun K R hK hR => ?_; simp (maxSteps := 10000000) only [go_sem]; (try go_ints); (repeat refine And.intro side ?_); (first | refine hK _ ?_ | refine hR _ _ ?_); clear hK hR K R)
  repeat (first | refine nav ?_ | refine bo ?_)
  (refine wr fun K R hK hR => ?_; simp (maxSteps := 10000000) only [go_sem, hB]; (try go_ints); (try simp only [go_sem, hB]); (repeat refine And.intro side ?_); (first | refine hK _ ?_ | refine hR _ _ ?_); clear hK hR K R)
  refine RL_callQ (is_spec h hc htr hs hx) (by simp only [go_sem] <;> exact rfl) rfl rfl (by simp) (by simp only [go_sem] <;> exact LeA.refl _) ho (by simp [AV.ltk]; omega) rfl ?_
  (refine rr fun K R hK hR => ?_; simp (maxSteps := 10000000) only [go_sem]; (try go_ints); (repeat refine And.intro side ?_); (first | refine hK _ ?_ | refine hR _ _ ?_); clear hK hR K R)
  repeat (first | refine nav ?_ | refine bo ?_)
  refine endQ_quiet0 (by simp only [go_sem] <;> exact rfl) (Le.of_eq ?_) (by assumption) rfl
  rfl
/-- What holds each time the queue is asked. -/
structure SetInv (o0 : List Ob) (K B : Nat) (d : IdS) (c : Env) (tr : List Int) (x : Int) (br cnt : Int) (md : AV) (exh : Bool) (o : List Ob) (ta : AV) (tr1 : List Int) (Q : Nat) (pre q : List Int) : Prop where
  rep : RepG o K d c ta (canon c tr1 br md cnt exh)
  ok : TrOk c.vars tr1
  ext : ∃ e, tr1 = tr ++ e
  has : x ∈ tr1 ∨ x ∈ q
  lit : ∀ z ∈ q, LitOk c.vars z
  imp : ∀ a, satC c.list a = true → agr tr a = true → litB a x = true → agr tr1 a = true ∧ ∀ z ∈ q, litB a z = true
  hB : o[B]? = some (.cells 1 [[.ptr K 0 0]])
  taB : ∀ l, ta ≠ .ref B 0 l
  hQ : o[Q]? = some (.cells 1 (ints (pre ++ q)))
  taQ : ∀ l, ta ≠ .ref Q 0 l
  nB : o0.length ≤ B
  nQ : o0.length ≤ Q
  ne : Q ≠ B
  len : o0.length ≤ o.length
theorem isD_call {K B : Nat} {o : List Ob} (h : o[B]? = some (.cells 1 [[.ptr K 0 0]])) : B < o.length := (List.getElem?_eq_some_iff.1 h).1
theorem set_spec {o : List Ob} {K : Nat} {d : IdS} {c : Env} {ta : AV} {tr : List Int} {br cnt : Int} {md : AV} {exh : Bool} (h : RepG o K d c ta (canon c tr br md cnt exh)) (hc : EnvOk c) (htr : TrOk c.vars tr) (hq : Quiet c.list tr) {x : Int} (hx : LitOk c.vars x) :
    ACalls Try.prog 82 [.ptr K 0 0, .i .i64 x] o fun r o' => ∃ b tr' ta', r = .b b ∧ SetPost c.vars c.list tr x b tr' ∧ RepG o' K d c ta' (canon c tr' br md cnt exh) ∧ o.length ≤ o'.length := by
  have hok := h.ok
  have lK := (List.getElem?_eq_some_iff.1 h.k).1
  have hcv := hc.vars
  have hnz : ∀ l ∈ c.list, ∀ y ∈ l, y ≠ 0 := fun l hl y hy => (hc.lit l hl y hy).1
  have hokB : okO (o ++ [Ob.cells 1 [[.ptr K 0 0]]]) = true := okO_app hok (by simp [Ob.ltk, AV.ltk]; omega)
  have hB := h.push [Ob.cells 1 [[.ptr K 0 0]]] hokB
  refine ACalls_of' (n := 92) (rs := [.tmp 4]) (show Try.prog.funcs[82]? = some Try.f82 by kernel_rfl) rfl rfl rfl (by simp) (by decide +kernel) ?_
  repeat (first | refine nav ?_ | refine bo ?_)
  (refine wr fun K R hK hR => ?_; simp (maxSteps := 10000000) only [go_sem]; (try go_ints); (repeat refine And.intro side ?_); (first | refine hK _ ?_ | refine hR _ _ ?_); clear hK hR K R)
  repeat (first | refine nav ?_ | refine bo ?_)
  (refine wr fun K R hK hR => ?_; simp (maxSteps := 10000000) only [go_sem]; (try go_ints); (repeat refine And.intro side ?_); (first | refine hK _ ?_ | refine hR _ _ ?_); clear hK hR K R)
  refine RL_callQ (is_spec hB hc htr rfl hx) (by simp only [go_sem] <;> exact rfl) rfl rfl (by simp) (by simp only [go_sem] <;> exact LeA.refl _) hokB (by simp [AV.ltk]; omega) rfl ?_
  (refine rr fun K R hK hR => ?_; simp (maxSteps := 10000000) only [go_sem]; (try go_ints); (repeat refine And.intro side ?_); (first | refine hK _ ?_ | refine hR _ _ ?_); clear hK hR K R)
  repeat (first | refine nav ?_ | refine bo ?_)
  refine W_cond (by simp only [go_sem] <;> exact rfl) (fun hb => ?_) (fun hb => ?_)
  · have hb : isL tr x ≠ 0 := by simpa using hb
    repeat (first | refine nav ?_ | refine bo ?_)
    (refine wr fun K R hK hR => ?_; simp (maxSteps := 10000000) only [go_sem]; (try go_ints); (repeat refine And.intro side ?_); (first | refine hK _ ?_ | refine hR _ _ ?_); clear hK hR K R)
    refine RL_callQ (is_spec hB hc htr rfl hx) (by simp only [go_sem] <;> exact rfl) rfl rfl (by simp) (by simp only [go_sem] <;> exact LeA.refl _) hokB (by simp [AV.ltk]; omega) rfl ?_
    (refine rr fun K R hK hR => ?_; simp (maxSteps := 10000000) only [go_sem]; (try go_ints); (repeat refine And.intro side ?_); (first | refine hK _ ?_ | refine hR _ _ ?_); clear hK hR K R)
    repeat (first | refine nav ?_ | refine bo ?_)
    refine endQ_all (by simp only [go_sem] <;> exact rfl) (Le.refl _) (by simp) hokB rfl ⟨_, tr, ta, rfl, ?_, hB, by simp⟩
    rcases isL_cases htr x with ⟨e, h1, h2⟩ | ⟨e, h1, h2⟩ | ⟨e, _⟩
    · rw [e]
      exact ⟨htr, ⟨[], by simp⟩, fun _ => ⟨h1, hq, fun a _ h _ => h⟩, fun h => by simp at h⟩
    · rw [e]
      refine ⟨htr, ⟨[], by simp⟩, fun h => by simp at h, fun _ a _ ha hl => ?_⟩
      have := agr_mem ha h1
      rw [litB_neg hx.1, hl] at this
      cases this
    · exact absurd e hb
  · have hb : isL tr x = 0 := by simpa using hb
    repeat (first | refine nav ?_ | refine bo ?_)
    (refine W_reg [1000000] fun K R hK hR => ?_; simp (maxSteps := 10000000) only [go_sem]; (try go_ints); (repeat refine And.intro side ?_); (first | refine hK _ ?_ | refine hR _ _ ?_); clear hK hR K R)
    repeat (first | refine nav ?_ | refine bo ?_)
    rcases isL_cases htr x with ⟨e, _⟩ | ⟨e, _⟩ | ⟨_, hxt, hnx⟩
    · omega
    · omega
    have hokQ : okO (o ++ [Ob.cells 1 [[.ptr K 0 0]], .cells 1 [[.i .i64 x]]]) = true := okO_app hok (by simp [Ob.ltk, AV.ltk]; omega)
    have hr0 := h.push [Ob.cells 1 [[.ptr K 0 0]], .cells 1 [[.i .i64 x]]] hokQ
    have hta : ∀ j l, o.length ≤ j → ta ≠ .ref j 0 l := by
      intro j l hj e
      have := h.taOk
      rw [e] at this
      simp [AV.ltk] at this
      omega
    refine W_for 19 92 [1, 5, 7, 8] (fun m t o1 => ∃ (ta1 : AV) (tr1 : List Int) (Q : Nat) (pre q : List Int), SetInv o K o.length d c tr x br cnt md exh o1 ta1 tr1 Q pre q ∧ Quiet c.list tr1 ∧ t 5 = .ref Q pre.length q.length ∧ m = (c.vars - tr1.length) * 200001 + q.length ∧ q.length ≤ 1 + 200000 * tr1.length) ((c.vars - tr.length) * 200001 + 1)
      ⟨ta, tr, o.length + 1, [], [x], ⟨hr0, htr, ⟨[], by simp⟩, .inr (by simp), by simpa using hx, fun a h1 h2 h3 => ⟨h2, by simpa using h3⟩, by simp, fun l => hta _ l (Nat.le_refl _), by simp [ints], fun l => hta _ l (by omega), Nat.le_refl _, by omega, by omega, by simp⟩, hq, by simp only [go_sem] <;> rfl, rfl, by simp⟩ ?_
    clear hr0 hokQ hB hokB
    rintro m t o1 ⟨ta1, tr1, Q, pre, q, hi, hq1, h5, rfl, hqb⟩
    have hrl := hi.ok.len
    cases q with
    | nil =>
      repeat (first | refine nav ?_ | refine bo ?_)
      (refine wr fun K R hK hR => ?_; simp (maxSteps := 10000000) only [go_sem, h5]; (try go_ints); (try simp only [go_sem, h5]); (repeat refine And.intro side ?_); (first | refine hK _ ?_ | refine hR _ _ ?_); clear hK hR K R)
      repeat (first | refine nav ?_ | refine bo ?_)
      refine W_cond (b := false) (by simp only [go_sem] <;> first | rfl | simp) (fun hb => by cases hb) (fun _ => ?_)
      repeat (first | refine nav ?_ | refine bo ?_)
      (refine wr fun K R hK hR => ?_; simp (maxSteps := 10000000) only [go_sem]; (try go_ints); (repeat refine And.intro side ?_); (first | refine hK _ ?_ | refine hR _ _ ?_); clear hK hR K R)
      repeat (first | refine nav ?_ | refine bo ?_)
      refine endQ_all (by simp only [go_sem] <;> exact rfl) (Le.refl _) hi.len hi.rep.ok rfl ⟨_, tr1, ta1, rfl, ⟨hi.ok, hi.ext, fun _ => ⟨?_, hq1, fun a h1 h2 h3 => (hi.imp a h1 h2 h3).1⟩, fun h => by cases h⟩, hi.rep, hi.len⟩
      have := hi.has
      simpa using this
    | cons y q =>
      have hly := hi.lit y (by simp)
      obtain ⟨y0, y1, y2⟩ := id hly
      have hgq : (pre ++ y :: q)[pre.length]? = some y := by simp
      have hok1 := hi.rep.ok
      have lK1 : K < o1.length := (List.getElem?_eq_some_iff.1 hi.rep.k).1
      repeat (first | refine nav ?_ | refine bo ?_)
      (refine wr fun K R hK hR => ?_; simp (maxSteps := 10000000) only [go_sem, h5]; (try go_ints); (try simp only [go_sem, h5]); (repeat refine And.intro side ?_); (first | refine hK _ ?_ | refine hR _ _ ?_); clear hK hR K R)
      repeat (first | refine nav ?_ | refine bo ?_)
      refine W_cond (b := true) (by simp only [go_sem] <;> first | rfl | (simp; done) | (simp; omega)) (fun _ => ?_) (fun hb => by cases hb)
      repeat (first | refine nav ?_ | refine bo ?_)
      (refine W_dreg (by decide +kernel) [] [0, 1, 2, 3, 4, 5, 6] [[], [0], [0, 1], [], [3], [1, 0, 2], [2, 0, 1, 5, 3, 4]] (by decide +kernel) rfl fun K R hK hR => ?_; simp only [List.filterMap_cons, List.filterMap_nil, List.getElem?_cons_zero, List.getElem?_cons_succ, List.cons_append, List.nil_append]; simp (maxSteps := 10000000) only [go_sem, h5, hi.hQ, ints_get hgq]; (try go_ints); (try simp only [go_sem, h5, hi.hQ, ints_get hgq]); (repeat refine And.intro side ?_); (first | refine hK _ ?_ | refine hR _ _ ?_); clear hK hR K R)
      repeat (first | refine nav ?_ | refine bo ?_)
      (refine wr fun K R hK hR => ?_; simp (maxSteps := 10000000) only [go_sem, hi.hB]; (try go_ints); (try simp only [go_sem, hi.hB]); (repeat refine And.intro side ?_); (first | refine hK _ ?_ | refine hR _ _ ?_); clear hK hR K R)
      refine RL_callQ (is_spec hi.rep hc hi.ok rfl hly) (by simp only [go_sem] <;> exact rfl) rfl rfl (by simp) (by simp only [go_sem] <;> exact LeA.refl _) hok1 (by simp [AV.ltk]; omega) rfl ?_
      (refine rr fun K R hK hR => ?_; simp (maxSteps := 10000000) only [go_sem]; (try go_ints); (repeat refine And.intro side ?_); (first | refine hK _ ?_ | refine hR _ _ ?_); clear hK hR K R)
      repeat (first | refine nav ?_ | refine bo ?_)
      refine W_cond (by simp only [go_sem] <;> exact rfl) (fun hb => ?_) (fun hb => ?_)
      · have hb : isL tr1 y ≠ 0 := by simpa using hb
        repeat (first | refine nav ?_ | refine bo ?_)
        (refine wr fun K R hK hR => ?_; simp (maxSteps := 10000000) only [go_sem, hi.hB]; (try go_ints); (try simp only [go_sem, hi.hB]); (repeat refine And.intro side ?_); (first | refine hK _ ?_ | refine hR _ _ ?_); clear hK hR K R)
        refine RL_callQ (is_spec hi.rep hc hi.ok rfl hly) (by simp only [go_sem] <;> exact rfl) rfl rfl (by simp) (by simp only [go_sem] <;> exact LeA.refl _) hok1 (by simp [AV.ltk]; omega) rfl ?_
        (refine rr fun K R hK hR => ?_; simp (maxSteps := 10000000) only [go_sem]; (try go_ints); (repeat refine And.intro side ?_); (first | refine hK _ ?_ | refine hR _ _ ?_); clear hK hR K R)
        repeat (first | refine nav ?_ | refine bo ?_)
        refine W_cond (by simp only [go_sem] <;> exact rfl) (fun hb => ?_) (fun hb => ?_)
        · have hb : isL tr1 y < 0 := by simpa using hb
          rcases isL_cases hi.ok y with ⟨e, _⟩ | ⟨e, hy1, hy2⟩ | ⟨e, _⟩
          · omega
          · repeat (first | refine nav ?_ | refine bo ?_)
            (refine wr fun K R hK hR => ?_; simp (maxSteps := 10000000) only [go_sem]; (try go_ints); (repeat refine And.intro side ?_); (first | refine hK _ ?_ | refine hR _ _ ?_); clear hK hR K R)
            repeat (first | refine nav ?_ | refine bo ?_)
            refine endQ_all (by simp only [go_sem] <;> exact rfl) (Le.refl _) hi.len hok1 rfl ⟨_, tr1, ta1, rfl, ⟨hi.ok, hi.ext, fun h => by simp at h, fun _ a h1 h2 h3 => ?_⟩, hi.rep, hi.len⟩
            obtain ⟨i1, i2⟩ := hi.imp a h1 h2 h3
            have e1 := agr_mem i1 hy1
            have e2 := i2 y (by simp)
            rw [litB_neg hly.1, e2] at e1
            cases e1
          · omega
        · have hb : ¬ isL tr1 y < 0 := by simpa using hb
          rcases isL_cases hi.ok y with ⟨e, hy1, hy2⟩ | ⟨e, _⟩ | ⟨e, _⟩
          · repeat (first | refine nav ?_ | refine bo ?_)
            refine forQ_normal ((c.vars - tr1.length) * 200001 + q.length) (by simp only [List.length_cons]; omega) ⟨ta1, tr1, Q, pre ++ [y], q, ⟨hi.rep, hi.ok, hi.ext, ?_, fun z hz => hi.lit z (by simp [hz]), fun a h1 h2 h3 => ⟨(hi.imp a h1 h2 h3).1, fun z hz => (hi.imp a h1 h2 h3).2 z (by simp [hz])⟩, hi.hB, hi.taB, by rw [List.append_assoc]; exact hi.hQ, hi.taQ, hi.nB, hi.nQ, hi.ne, hi.len⟩, hq1, ?_, rfl, by simp only [List.length_cons] at hqb; omega⟩
            · rcases hi.has with h1 | h1
              · exact .inl h1
              · rcases List.mem_cons.1 h1 with rfl | h1
                · exact .inl hy1
                · exact .inr h1
            · simp only [go_sem] <;> simp
          · omega
          · omega
      · have hb : isL tr1 y = 0 := by simpa using hb
        rcases isL_cases hi.ok y with ⟨e, _⟩ | ⟨e, _⟩ | ⟨_, hyt, hny⟩
        · omega
        · omega
        have hok2 := hi.ok.snoc hly hyt hny
        have hlen2 := hok2.len
        have lQ : Q < o1.length := (List.getElem?_eq_some_iff.1 hi.hQ).1
        have lB : o.length < o1.length := (List.getElem?_eq_some_iff.1 hi.hB).1
        repeat (first | refine nav ?_ | refine bo ?_)
        (refine wr fun K R hK hR => ?_; simp (maxSteps := 10000000) only [go_sem, hi.hB]; (try go_ints); (try simp only [go_sem, hi.hB]); (repeat refine And.intro side ?_); (first | refine hK _ ?_ | refine hR _ _ ?_); clear hK hR K R)
        refine RL_callE (put_spec hi.rep hc hi.ok (by omega) hly hyt hny) (fun r o' ⟨e1, ta', e2, e3, _⟩ => ⟨e3.1, by rw [e1]; rfl, e2.ok⟩) (by simp only [go_sem] <;> exact rfl) rfl rfl (by simp) (by simp only [go_sem] <;> exact LeA.refl _) hok1 (by simp [AV.ltk]; omega) ?_
        rintro r o2 ⟨rfl, ta2, hr2, hf2, l2, rfl⟩
        (refine rr fun K R hK hR => ?_; simp (maxSteps := 10000000) only [go_sem]; (try go_ints); (repeat refine And.intro side ?_); (first | refine hK _ ?_ | refine hR _ _ ?_); clear hK hR K R)
        have lL := (List.getElem?_eq_some_iff.1 h.l).1
        have lG := (List.getElem?_eq_some_iff.1 h.g).1
        have lV := (List.getElem?_eq_some_iff.1 h.v).1
        have hB2 : o2[o.length]? = _ := (hf2.2 o.length lB (by omega) (by omega) (by omega) (by omega) hi.taB).trans hi.hB
        have hQ2 : o2[Q]? = _ := (hf2.2 Q lQ (by have := hi.nQ; omega) (by have := hi.nQ; omega) (by have := hi.nQ; omega) (by have := hi.nQ; omega) hi.taQ).trans hi.hQ
        have hlist := hc.list
        have hcl := fun j => good_bd hc (tr1 ++ [y]) j
        have hext2 : ∃ e, tr1 ++ [y] = tr ++ e := by
          obtain ⟨e, he⟩ := hi.ext
          exact ⟨e ++ [y], by rw [he, List.append_assoc]⟩
        have himp2 : ∀ a, satC c.list a = true → agr tr a = true → litB a x = true → agr (tr1 ++ [y]) a = true ∧ ∀ z ∈ q, litB a z = true := fun a h1 h2 h3 => by
          obtain ⟨i1, i2⟩ := hi.imp a h1 h2 h3
          refine ⟨?_, fun z hz => i2 z (by simp [hz])⟩
          rw [agr_app, i1]
          simpa [agr] using i2 y (by simp)
        have hhas2 : x ∈ tr1 ++ [y] ∨ x ∈ q := by
          rcases hi.has with h1 | h1
          · exact .inl (by simp [h1])
          · rcases List.mem_cons.1 h1 with rfl | h1
            · exact .inl (by simp)
            · exact .inr h1
        have hpq : ∀ i < c.list.length, c.list.getD i [] ≠ [] → goodOf c.list (tr1 ++ [y]) i = 0 → (i : Int) ∉ innOf c.list (-y) → leftOf c.list (tr1 ++ [y]) i ≠ 0 := by
          intro i hi1 hne hg hn
          have e1 := good_put (n := 0) (list := c.list) hyt i
          have e2 := left_put (list := c.list) hyt i
          have e3 := innOf_count c.list (-y) i hi1
          rw [List.count_eq_zero.2 hn] at e3
          have := hq1 i hi1 hne (by omega)
          omega
        have hI2 : SetInv o K o.length d c tr x br cnt md exh o2 (.ref (o1.length + 1) 0 l2) (tr1 ++ [y]) Q (pre ++ [y]) q :=
          ⟨hr2, hok2, hext2, hhas2, fun z hz => hi.lit z (by simp [hz]), himp2, hB2, fun l e => by simp only [AV.ref.injEq] at e; omega, by rw [List.append_assoc]; exact hQ2, fun l e => by simp only [AV.ref.injEq] at e; omega, hi.nB, hi.nQ, hi.ne, by have := hf2.1; omega⟩
        have hta2 : ∀ j l, (AV.ref (o1.length + 1) 0 l2) = .ref j 0 l → j ≠ o.length := fun j l e => by simp only [AV.ref.injEq] at e; omega
        generalize AV.ref (o1.length + 1) 0 l2 = ta2 at hI2 hr2 hta2
        have hsum := hc.sum (-y)
        have hinn : ∀ z, innOf c.list (-y) = z → ∀ i ∈ z, ∃ j : Nat, i = j ∧ j < c.list.length := fun z hz i hi => by
          rw [← hz] at hi
          obtain ⟨j, e1, e2, _⟩ := innOf_mem hi
          exact ⟨j, e1, e2⟩
        clear hf2 hB2 hQ2 hext2 himp2 hhas2
        repeat (first | refine nav ?_ | refine bo ?_)
        refine W_joinS 38 47 [] (fun t o' => o' = o2 ∧ t 44 = ivOf c.es (-y) ∧ t 45 = .i .i64 ((innOf c.list (-y)).length : Nat) ∧ t 46 = .i .i64 0) ?_ ?_
        · rcases hr2.inn (-y) with ⟨hm, h⟩ | ⟨I, hm, hI, _⟩
          · (refine wr fun K R hK hR => ?_; simp (maxSteps := 10000000) only [go_sem, hI2.hB, hr2.k, rowK, hr2.m, Int.zero_sub, hm]; (try go_ints); (try simp only [go_sem, hI2.hB, hr2.k, rowK, hr2.m, Int.zero_sub, hm]); (repeat refine And.intro side ?_); (first | refine hK _ ?_ | refine hR _ _ ?_); clear hK hR K R)
            exact ⟨_, rfl, rfl, by simp only [go_sem, ivOf, hm], by simp only [go_sem, h] <;> rfl, by simp only [go_sem]⟩
          · (refine wr fun K R hK hR => ?_; simp (maxSteps := 10000000) only [go_sem, hI2.hB, hr2.k, rowK, hr2.m, Int.zero_sub, hm]; (try go_ints); (try simp only [go_sem, hI2.hB, hr2.k, rowK, hr2.m, Int.zero_sub, hm]); (repeat refine And.intro side ?_); (first | refine hK _ ?_ | refine hR _ _ ?_); clear hK hR K R)
            exact ⟨_, rfl, rfl, by simp only [go_sem, ivOf, hm], by simp only [go_sem], by simp only [go_sem]⟩
        rintro t7 o2' ⟨rfl, h44, h45, h46⟩
        generalize hisx : innOf c.list (-y) = js at h45 hsum hpq
        have hinn := hinn js hisx
        repeat (first | refine nav ?_ | refine bo ?_)
        refine W_for 46 92 [5, 7, 8] (fun m t o3 => ∃ (Q : Nat) (pre q2 : List Int) (k : Nat), SetInv o K o.length d c tr x br cnt md exh o3 ta2 (tr1 ++ [y]) Q pre q2 ∧ t 5 = .ref Q pre.length q2.length ∧ t 46 = .i .i64 k ∧ m = js.length - k ∧ k ≤ js.length ∧ q2.length ≤ q.length + k ∧ ∀ i < c.list.length, goodOf c.list (tr1 ++ [y]) i = 0 → (i : Int) ∈ js.take k → leftOf c.list (tr1 ++ [y]) i ≠ 0) js.length
          ⟨Q, pre ++ [y], q, 0, hI2, by simp only [go_sem] <;> simp, by simp only [go_sem, h46] <;> rfl, by omega, Nat.zero_le _, by omega, fun i _ _ hm => by simp at hm⟩ ?_
        clear hI2 h46 hr2
        rintro m t3 o3 ⟨Q, pre2, q2, k, hI2, h5', h46, rfl, hk, hql, hpk⟩
        have hr3 := hI2.rep
        have hok3 := hr3.ok
        repeat (first | refine nav ?_ | refine bo ?_)
        (refine wr fun K R hK hR => ?_; simp (maxSteps := 10000000) only [go_sem, h46, h45]; (try go_ints); (try simp only [go_sem, h46, h45]); (repeat refine And.intro side ?_); (first | refine hK _ ?_ | refine hR _ _ ?_); clear hK hR K R)
        repeat (first | refine nav ?_ | refine bo ?_)
        refine W_cond (by simp only [go_sem] <;> exact rfl) (fun hb => ?_) (fun hb => ?_)
        · simp at hb
          obtain ⟨i, hig⟩ : ∃ i, js[k]? = some i := ⟨_, List.getElem?_eq_getElem hb⟩
          obtain ⟨j, rfl, hj⟩ := hinn i (List.mem_of_getElem? hig)
          have hin := hr3.inn (-y)
          unfold InAt at hin
          rw [hisx] at hin
          rcases hin with ⟨_, q2⟩ | ⟨I, hm, hI, _⟩
          · subst q2; simp at hb
          have hiv : ivOf c.es (-y) = .ref I 0 js.length := by rw [ivOf, hm]
          have hgg := goodL_get (list := c.list) (tr := tr1 ++ [y]) hj
          have hlg := leftL_get (list := c.list) (tr := tr1 ++ [y]) hj
          obtain ⟨b1, b2⟩ := hcl j
          have htk : js.take (k + 1) = js.take k ++ [(j : Int)] := by
            rw [List.take_succ_eq_append_getElem hb, (List.getElem?_eq_some_iff.1 hig).2]
          have hstep : (goodOf c.list (tr1 ++ [y]) j = 0 → leftOf c.list (tr1 ++ [y]) j ≠ 0) → ∀ i < c.list.length, goodOf c.list (tr1 ++ [y]) i = 0 → (i : Int) ∈ js.take (k + 1) → leftOf c.list (tr1 ++ [y]) i ≠ 0 := fun hj2 i h1 h2 h3 => by
            rw [htk, List.mem_append, List.mem_singleton] at h3
            rcases h3 with h3 | h3
            · exact hpk i h1 h2 h3
            · have : i = j := by omega
              subst this; exact hj2 h2
          repeat (first | refine nav ?_ | refine bo ?_)
          (refine wr fun K R hK hR => ?_; simp (maxSteps := 10000000) only [go_sem, h46, h44, hiv, hI, ints_get hig]; (try go_ints); (try simp only [go_sem, h46, h44, hiv, hI, ints_get hig]); (repeat refine And.intro side ?_); (first | refine hK _ ?_ | refine hR _ _ ?_); clear hK hR K R)
          repeat (first | refine nav ?_ | refine bo ?_)
          (refine wr fun K R hK hR => ?_; simp (maxSteps := 10000000) only [go_sem, hI2.hB, hr3.k, rowK, hr3.g, canon, ints_get hgg, goodL_len]; (try go_ints); (try simp only [go_sem, hI2.hB, hr3.k, rowK, hr3.g, canon, ints_get hgg, goodL_len]); (repeat refine And.intro side ?_); (first | refine hK _ ?_ | refine hR _ _ ?_); clear hK hR K R)
          repeat (first | refine nav ?_ | refine bo ?_)
          refine W_cond (by simp only [go_sem] <;> exact rfl) (fun hc1 => ?_) (fun hc1 => ?_)
          · have hc1 : goodOf c.list (tr1 ++ [y]) j > 0 := by simpa using hc1
            repeat (first | refine nav ?_ | refine bo ?_)
            (refine wr fun K R hK hR => ?_; simp (maxSteps := 10000000) only [go_sem, h46]; (try go_ints); (try simp only [go_sem, h46]); (repeat refine And.intro side ?_); (first | refine hK _ ?_ | refine hR _ _ ?_); clear hK hR K R)
            refine forQ_normal (js.length - (k + 1)) (by omega) ⟨Q, pre2, q2, k + 1, hI2, ?_, ?_, rfl, by omega, by omega, hstep (fun h => by omega)⟩
            · simp only [go_sem, h5']
            · simp only [go_sem] <;> simp
          · have hc1 : goodOf c.list (tr1 ++ [y]) j = 0 := by
              have : ¬ (goodOf c.list (tr1 ++ [y]) j : Int) > 0 := by simpa using hc1
              omega
            repeat (first | refine nav ?_ | refine bo ?_)
            (refine wr fun K R hK hR => ?_; simp (maxSteps := 10000000) only [go_sem, hI2.hB, hr3.k, rowK, hr3.l, canon, ints_get hlg, leftL_len]; (try go_ints); (try simp only [go_sem, hI2.hB, hr3.k, rowK, hr3.l, canon, ints_get hlg, leftL_len]); (repeat refine And.intro side ?_); (first | refine hK _ ?_ | refine hR _ _ ?_); clear hK hR K R)
            repeat (first | refine nav ?_ | refine bo ?_)
            refine W_cond (by simp only [go_sem] <;> exact rfl) (fun hc2 => ?_) (fun hc2 => ?_)
            · have hc2 : leftOf c.list (tr1 ++ [y]) j = 0 := by
                have : (leftOf c.list (tr1 ++ [y]) j : Int) = 0 := by simpa using hc2
                omega
              repeat (first | refine nav ?_ | refine bo ?_)
              (refine wr fun K R hK hR => ?_; simp (maxSteps := 10000000) only [go_sem]; (try go_ints); (repeat refine And.intro side ?_); (first | refine hK _ ?_ | refine hR _ _ ?_); clear hK hR K R)
              repeat (first | refine nav ?_ | refine bo ?_)
              refine endQ_all (by simp only [go_sem] <;> exact rfl) (Le.refl _) hI2.len hok3 rfl ⟨_, _, ta2, rfl, ⟨hI2.ok, hI2.ext, fun h => by simp at h, fun _ a h1 h2 h3 => ?_⟩, hr3, hI2.len⟩
              exact no_left hj hnz hc2 h1 (hI2.imp a h1 h2 h3).1
            · have hc2 : leftOf c.list (tr1 ++ [y]) j ≠ 0 := by
                have : (leftOf c.list (tr1 ++ [y]) j : Int) ≠ 0 := by simpa using hc2
                omega
              have hstep := hstep (fun _ => hc2)
              repeat (first | refine nav ?_ | refine bo ?_)
              (refine wr fun K R hK hR => ?_; simp (maxSteps := 10000000) only [go_sem, hI2.hB, hr3.k, rowK, hr3.l, canon, ints_get hlg, leftL_len]; (try go_ints); (try simp only [go_sem, hI2.hB, hr3.k, rowK, hr3.l, canon, ints_get hlg, leftL_len]); (repeat refine And.intro side ?_); (first | refine hK _ ?_ | refine hR _ _ ?_); clear hK hR K R)
              repeat (first | refine nav ?_ | refine bo ?_)
              refine W_cond (by simp only [go_sem] <;> exact rfl) (fun hc3 => ?_) (fun hc3 => ?_)
              · have hc3 : leftOf c.list (tr1 ++ [y]) j = 1 := by
                  have : (leftOf c.list (tr1 ++ [y]) j : Int) = 1 := by simpa using hc3
                  omega
                have hlav : c.lav = .own 1 (tups c.list) := by
                  rcases hc.lav with h | ⟨_, h⟩
                  · exact h
                  · rw [h] at hj; simp at hj
                obtain ⟨l, hl⟩ : ∃ l, c.list[j]? = some l := ⟨_, List.getElem?_eq_getElem hj⟩
                have hlm := List.mem_of_getElem? hl
                have hll := hc.len l hlm
                have hlD : c.list.getD j [] = l := getD_of2 hl
                have hidx := indexInt_spec (oc := o3) (f := 100) (caps := [.ptr o.length 0 0]) hok3 (by simp [AV.ltk]; exact isD_call hI2.hB) rfl (fun z => isL (tr1 ++ [y]) z == 0) l (by omega) (fun z hz => set1_spec hr3 hc hI2.ok rfl hI2.hB (hc.lit l hlm z hz))
                obtain ⟨z0, hz0, hz1⟩ := open_left hI2.ok hc1 hc2
                rw [hlD] at hz0
                have hany := idxI_any (fun z => isL (tr1 ++ [y]) z == 0) l 0 (by omega)
                have hsome : (l.any fun z => isL (tr1 ++ [y]) z == 0) = true := by
                  rw [List.any_eq_true]; exact ⟨z0, hz0, by rw [hz1]; rfl⟩
                rw [hsome, decide_eq_true_eq] at hany
                obtain ⟨p, hp⟩ := Int.eq_ofNat_of_zero_le hany
                obtain ⟨_, z, hz, hzp⟩ := idxI_get (fun z => isL (tr1 ++ [y]) z == 0) l 0 p hp
                rw [Nat.sub_zero] at hz
                have hzl := (List.getElem?_eq_some_iff.1 hz).1
                rw [hp] at hidx
                have hzm := List.mem_of_getElem? hz
                have hz0 : isL (tr1 ++ [y]) z = 0 := by simpa using hzp
                have hlQ3 : Q < o3.length := (List.getElem?_eq_some_iff.1 hI2.hQ).1
                have hQ3 := fun l => app_get l hI2.hQ
                have hq2l : q2.length ≤ 10000000000 := by
                  simp only [List.length_cons] at hqb
                  have : tr1.length ≤ 20000 := by omega
                  omega
                have hro : rowsOk false [[AV.i .i64 z]] = true := rfl
                repeat (first | refine nav ?_ | refine bo ?_)
                (refine wr fun K R hK hR => ?_; simp (maxSteps := 10000000) only [go_sem, hI2.hB, hr3.k, rowK, hlav, tups_get hl]; (try go_ints); (try simp only [go_sem, hI2.hB, hr3.k, rowK, hlav, tups_get hl]); (repeat refine And.intro side ?_); (first | refine hK _ ?_ | refine hR _ _ ?_); clear hK hR K R)
                repeat (first | refine nav ?_ | refine bo ?_)
                (refine wr fun K R hK hR => ?_; simp (maxSteps := 10000000) only [go_sem]; (try go_ints); (repeat refine And.intro side ?_); (first | refine hK _ ?_ | refine hR _ _ ?_); clear hK hR K R)
                refine RL_callQ hidx (by simp only [go_sem] <;> exact rfl) rfl rfl (by simp) (by simp only [go_sem] <;> exact LeA.refl _) hok3 (by simp [AV.ltk, AV.ltks]; exact isD_call hI2.hB) rfl ?_
                (refine RL_reg [1000000] fun K R hK hR => ?_; simp (maxSteps := 10000000) only [go_sem, h5', ints_get hz, hQ3, hro]; (try go_ints); (repeat refine And.intro (by first | exact side | (simp [ints]; omega)) ?_); (first | refine hK _ ?_ | refine hR _ _ ?_); clear hK hR K R)
                have hd1 : ((ints (pre2 ++ q2)).drop pre2.length).take q2.length = ints q2 := by
                  rw [ints, List.map_append, List.drop_left' (by simp), List.take_of_length_le (by simp)]; rfl
                have hi1 : ints q2 ++ [[.i .i64 z]] = ints (q2 ++ [z]) := by simp [ints]
                simp only [hd1, hi1]
                have hnzt : z ∉ tr1 ++ [y] ∧ -z ∉ tr1 ++ [y] := by
                  rcases isL_cases hI2.ok z with ⟨e, _⟩ | ⟨e, _⟩ | ⟨_, e⟩
                  · omega
                  · omega
                  · exact e
                have hpre4 : ∀ j X, o3[j]? = some X → j ≠ Q → ((o3 ++ [Ob.cells 1 [[.i .i64 z]]]).set Q .dead ++ [Ob.cells 1 (ints (q2 ++ [z]))])[j]? = some X := fun j X hj hn => app_get _ (by rw [List.getElem?_set_ne (Ne.symm hn)]; exact app_get _ hj)
                have hok4 : okO ((o3 ++ [Ob.cells 1 [[.i .i64 z]]]).set Q .dead ++ [Ob.cells 1 (ints (q2 ++ [z]))]) = true := okO_app (okO_set (okO_app hok3 rfl) rfl) (by simp [Ob.ltk, AV.ltk, ints])
                have hl4 : o3.length ≤ ((o3 ++ [Ob.cells 1 [[.i .i64 z]]]).set Q .dead ++ [Ob.cells 1 (ints (q2 ++ [z]))]).length := by simp; omega
                have hta3 := hr3.taOk
                have hI3 : SetInv o K o.length d c tr x br cnt md exh ((o3 ++ [Ob.cells 1 [[.i .i64 z]]]).set Q .dead ++ [Ob.cells 1 (ints (q2 ++ [z]))]) ta2 (tr1 ++ [y]) (o3.length + 1) [] (q2 ++ [z]) := by
                  refine ⟨RepG.others h hr3 hI2.nQ hI2.taQ hl4 hpre4 hok4, hI2.ok, hI2.ext, hI2.has.imp id fun h => by simp [h], fun w hw => ?_, fun a h1 h2 h3 => ?_, hpre4 _ _ hI2.hB (Ne.symm hI2.ne), hI2.taB, by simp, fun l e => ?_, hI2.nB, by have := hI2.len; omega, by have := isD_call hI2.hB; omega, by have := hI2.len; omega⟩
                  · rw [List.mem_append, List.mem_singleton] at hw
                    rcases hw with hw | rfl
                    · exact hI2.lit w hw
                    · exact hc.lit l hlm _ hzm
                  · obtain ⟨i1, i2⟩ := hI2.imp a h1 h2 h3
                    refine ⟨i1, fun w hw => ?_⟩
                    rw [List.mem_append, List.mem_singleton] at hw
                    rcases hw with hw | rfl
                    · exact i2 w hw
                    · exact one_left hj hnz hc3 (by rw [hlD]; exact hzm) hnzt.2 h1 i1
                  · rw [e] at hta3
                    simp [AV.ltk] at hta3
                    omega
                repeat (first | refine nav ?_ | refine bo ?_)
                (refine wr fun K R hK hR => ?_; simp (maxSteps := 10000000) only [go_sem, h46]; (try go_ints); (try simp only [go_sem, h46]); (repeat refine And.intro side ?_); (first | refine hK _ ?_ | refine hR _ _ ?_); clear hK hR K R)
                refine forQ_normal (js.length - (k + 1)) (by omega) ⟨o3.length + 1, [], q2 ++ [z], k + 1, hI3, ?_, ?_, rfl, by omega, by simp; omega, hstep⟩
                · simp only [go_sem] <;> simp
                · simp only [go_sem] <;> simp
              · repeat (first | refine nav ?_ | refine bo ?_)
                (refine wr fun K R hK hR => ?_; simp (maxSteps := 10000000) only [go_sem, h46]; (try go_ints); (try simp only [go_sem, h46]); (repeat refine And.intro side ?_); (first | refine hK _ ?_ | refine hR _ _ ?_); clear hK hR K R)
                refine forQ_normal (js.length - (k + 1)) (by omega) ⟨Q, pre2, q2, k + 1, hI2, ?_, ?_, rfl, by omega, by omega, hstep⟩
                · simp only [go_sem, h5']
                · simp only [go_sem] <;> simp
        · simp at hb
          obtain rfl : js.length = k := by omega
          rw [List.take_length] at hpk
          rw [mix_mix (lo := 38) (lo' := 19) rfl, mix_mix (lo := 46) (lo' := 19) rfl]
          repeat (first | refine nav ?_ | refine bo ?_)
          have hlen3 : (tr1 ++ [y]).length = tr1.length + 1 := by simp
          refine forQ_normal ((c.vars - (tr1 ++ [y]).length) * 200001 + q2.length) (by
            rw [hlen3] at hlen2 ⊢
            simp only [List.length_cons]
            have : c.vars - tr1.length = (c.vars - (tr1.length + 1)) + 1 := by omega
            rw [this, Nat.add_mul]
            omega) ⟨ta2, tr1 ++ [y], Q, pre2, q2, hI2, fun i h1 hne h2 => ?_, ?_, rfl, by rw [hlen3]; simp only [List.length_cons] at hqb; omega⟩
          · by_cases hm : (i : Int) ∈ js
            · exact hpk i h1 h2 hm
            · exact hpq i h1 hne h2 hm
          · simp only [go_sem, h5']
end Go.AW
/-
The search for models: its end, and what is found.
-/
namespace Go.AW
open Go Go.Proofs TyTry Go.IntWalk
set_option linter.unusedSimpArgs false
set_option linter.unusedVariables false
set_option maxRecDepth 10000
set_option maxHeartbeats 1000000

theorem over_spec {o : List Ob} {K : Nat} {d : IdS} {c : Env} {ta : AV} {s : SV} (h : RepG o K d c ta s) :
    ACallsQ Try.prog 84 [.ptr K 0 0] o (.b (s.exh || (c.first && decide (s.cnt > 0)) || decide (s.cnt > 1099511627776))) := by
  have ho := h.ok
  refine ACalls_of' (n := 27) (rs := [.tmp 2]) (show Try.prog.funcs[84]? = some Try.f84 by kernel_rfl) rfl rfl rfl (by simp) (by decide +kernel) ?_
  repeat (first | refine nav ?_ | refine bo ?_)
  (refine wr fun K R hK hR => ?_; simp (maxSteps := 10000000) only [go_sem]; (try go_ints); (repeat refine And.intro side ?_); (first | refine hK _ ?_ | refine hR _ _ ?_); clear hK hR K R)
  repeat (first | refine nav ?_ | refine bo ?_)
  (refine wr fun K R hK hR => ?_; simp (maxSteps := 10000000) only [go_sem, h.k, rowK]; (try go_ints); (try simp only [go_sem, h.k, rowK]); (repeat refine And.intro side ?_); (first | refine hK _ ?_ | refine hR _ _ ?_); clear hK hR K R)
  repeat (first | refine nav ?_ | refine bo ?_)
  refine endQ_quiet0 (by simp only [go_sem] <;> exact rfl) (Le.of_eq ?_) (by assumption) rfl
  rfl
def capF : Int := 1099511627777
def foundC (free : Nat) (cnt : Int) : Int := min (cnt + (2 ^ free : Nat)) capF
def mdP (n : Nat) (tr : List Int) (k : Nat) : List Bool := (List.range n).map fun v => decide (v < k) && decide (valOf tr v > 0)
theorem mdP_len (n : Nat) (tr : List Int) (k : Nat) : (mdP n tr k).length = n := by simp [mdP]
theorem mdP_zero (n : Nat) (tr : List Int) : mdP n tr 0 = List.replicate n false := by
  apply List.ext_getElem?
  intro i
  by_cases h : i < n <;> simp [mdP, h, List.getElem?_replicate]
theorem mdP_full (n : Nat) (tr : List Int) : mdP n tr n = modelOf n tr := by
  unfold mdP modelOf valL
  rw [List.map_map]
  refine List.map_congr_left fun x hx => ?_
  simp [List.mem_range.1 hx]
theorem mdP_set (n : Nat) (tr : List Int) (k : Nat) (hk : k < n) : (mdP n tr k).set k (decide (valOf tr k > 0)) = mdP n tr (k + 1) := by
  apply List.ext_getElem?
  intro i
  rw [List.getElem?_set]
  by_cases hi : i < n
  · by_cases e : k = i
    · subst e; simp [mdP, hi]
    · have : (i < k + 1) = (i < k) := by apply propext; omega
      simp [mdP, hi, e, this]
  · have : k ≠ i := by omega
    simp [mdP, hi, this]
theorem found_spec {o : List Ob} {K : Nat} {d : IdS} {c : Env} {ta : AV} {tr : List Int} {br cnt : Int} {exh : Bool} (h : RepG o K d c ta (canon c tr br .nsl cnt exh)) (hc : EnvOk c) (htr : TrOk c.vars tr) (hcnt : 0 ≤ cnt ∧ cnt ≤ capF) :
    ACalls Try.prog 83 [.ptr K 0 0] o fun r o' => r = .tup [] ∧ ∃ md', RepG o' K d c ta (canon c tr br md' (foundC (c.vars - tr.length) cnt) exh) ∧ o.length ≤ o'.length ∧
      (c.first = false → md' = .nsl) ∧ (c.first = true → ∃ J, md' = .ref J 0 c.vars ∧ o'[J]? = some (.cells 1 (bools (modelOf c.vars tr))) ∧ o.length ≤ J) := by
  have hok := h.ok
  have hcv := hc.vars
  have hlk := lav_ltk hc
  have hrl := htr.len
  have lK := (List.getElem?_eq_some_iff.1 h.k).1
  have hcap : capF = 1099511627777 := rfl
  refine ACalls_of' (n := 71) (rs := []) (show Try.prog.funcs[83]? = some Try.f83 by kernel_rfl) rfl rfl rfl (by simp) (by decide +kernel) ?_
  repeat (first | refine nav ?_ | refine bo ?_)
  refine W_joinS 5 16 [2] (fun t o' => o' = o ∧ t 2 = .i .i64 ((c.vars : Int) - tr.length)) ?_ ?_
  · rcases h.t with ⟨rfl, ht0⟩ | ⟨T, ex, rfl, hT, _⟩
    · have ht0 : tr = [] := ht0
      subst ht0
      (refine W_dreg (by decide +kernel) [] [0, 1, 2, 3, 4, 5, 6, 7, 8, 9, 10, 11] [[], [0], [0, 1], [1, 0, 2], [2, 0, 1, 3], [], [5], [5, 6], [6, 5, 7], [7, 5, 6, 8], [8, 6, 5, 7, 9, 3, 1, 0, 2, 4], [4, 2, 0, 1, 3, 9, 7, 5, 6, 8, 10]] (by decide +kernel) rfl fun K R hK hR => ?_; simp only [List.filterMap_cons, List.filterMap_nil, List.getElem?_cons_zero, List.getElem?_cons_succ, List.cons_append, List.nil_append]; simp (maxSteps := 10000000) only [go_sem, h.k, rowK, canon]; (try go_ints); (try simp only [go_sem, h.k, rowK, canon]); (repeat refine And.intro side ?_); (first | refine hK _ ?_ | refine hR _ _ ?_); clear hK hR K R)
      exact ⟨_, rfl, rfl, by simp only [go_sem] <;> simp⟩
    · (refine W_dreg (by decide +kernel) [] [0, 1, 2, 3, 4, 5, 6, 7, 8, 9, 10, 11] [[], [0], [0, 1], [1, 0, 2], [2, 0, 1, 3], [], [5], [5, 6], [6, 5, 7], [7, 5, 6, 8], [8, 6, 5, 7, 9, 3, 1, 0, 2, 4], [4, 2, 0, 1, 3, 9, 7, 5, 6, 8, 10]] (by decide +kernel) rfl fun K R hK hR => ?_; simp only [List.filterMap_cons, List.filterMap_nil, List.getElem?_cons_zero, List.getElem?_cons_succ, List.cons_append, List.nil_append]; simp (maxSteps := 10000000) only [go_sem, h.k, rowK, canon]; (try go_ints); (try simp only [go_sem, h.k, rowK, canon]); (repeat refine And.intro side ?_); (first | refine hK _ ?_ | refine hR _ _ ?_); clear hK hR K R)
      exact ⟨_, rfl, rfl, by simp only [go_sem]⟩
  rintro t o1 ⟨e1, h2⟩
  rw [e1]
  clear e1 o1
  repeat (first | refine nav ?_ | refine bo ?_)
  (refine wr fun K R hK hR => ?_; simp (maxSteps := 10000000) only [go_sem, h2]; (try go_ints); (try simp only [go_sem, h2]); (repeat refine And.intro side ?_); (first | refine hK _ ?_ | refine hR _ _ ?_); clear hK hR K R)
  refine seqQ_normal ?_
  refine W_joinS 18 32 [] (fun t o' => RepG o' K d c ta (canon c tr br .nsl (foundC (c.vars - tr.length) cnt) exh) ∧ o'.length = o.length) ?_ ?_
  · refine W_cond (by simp only [go_sem] <;> exact rfl) (fun hb => ?_) (fun hb => ?_)
    · have hb : (c.vars : Int) - tr.length > 40 := by simpa using hb
      have hfc : foundC (c.vars - tr.length) cnt = 1099511627777 := by
        unfold foundC
        have : 2 ^ 41 ≤ 2 ^ (c.vars - tr.length) := Nat.pow_le_pow_right (by omega) (by omega)
        omega
      rw [hfc]
      repeat (first | refine nav ?_ | refine bo ?_)
      (refine wr fun K R hK hR => ?_; simp (maxSteps := 10000000) only [go_sem, h.k, rowK, canon]; (try go_ints); (try simp only [go_sem, h.k, rowK, canon]); (repeat refine And.intro side ?_); (first | refine hK _ ?_ | refine hR _ _ ?_); clear hK hR K R)
      exact ⟨_, rfl, h.setK hlk h.taOk (s' := canon c tr br .nsl 1099511627777 exh) rfl rfl rfl rfl ⟨rfl, rfl, rfl⟩, by simp⟩
    · have hb : ¬ (c.vars : Int) - tr.length > 40 := by simpa using hb
      obtain ⟨free, hfree⟩ : ∃ free, c.vars - tr.length = free := ⟨_, rfl⟩
      have hf40 : free ≤ 40 := by omega
      have hint : (c.vars : Int) - tr.length = (free : Int) := by omega
      have hp2 : 2 ^ free ≤ 2 ^ 40 := Nat.pow_le_pow_right (by omega) hf40
      rw [hfree]
      rw [hint] at h2
      have hval : (if 1099511627777 < RowKit.wrap64 (cnt + RowKit.wrap64 (1 * 2 ^ min free 64)) then (1099511627777 : Int) else RowKit.wrap64 (cnt + RowKit.wrap64 (1 * 2 ^ min free 64))) = foundC free cnt := by
        have e : min free 64 = free := by omega
        have e2 : (2 : Int) ^ free = ((2 ^ free : Nat) : Int) := by simp
        unfold foundC
        rw [e, Int.one_mul, e2]
        generalize (2 ^ free : Nat) = p at hp2
        rw [wrap64_in (p : Int) (by omega), wrap64_in _ (by omega)]
        split <;> omega
      (refine W_dreg (by decide +kernel) [] [0, 1, 2, 3, 4, 5, 6, 7, 8, 9, 10, 11] [[], [], [1], [1, 2], [2, 1, 3], [], [5], [5, 6, 3, 1, 2, 4], [4, 2, 1, 3, 6, 5, 7], [8, 7, 6, 5, 4, 3, 2, 1, 0], [0, 1, 2, 3, 4, 5, 6, 7, 8, 9], [9, 8, 7, 6, 5, 4, 3, 2, 1, 0, 10]] (by decide +kernel) rfl fun K R hK hR => ?_; simp only [List.filterMap_cons, List.filterMap_nil, List.getElem?_cons_zero, List.getElem?_cons_succ, List.cons_append, List.nil_append]; simp (maxSteps := 10000000) only [go_sem, h2, h.k, rowK, canon]; (try go_ints); (try simp only [go_sem, h2, h.k, rowK, canon]); (repeat refine And.intro side ?_); (first | refine hK _ ?_ | refine hR _ _ ?_); clear hK hR K R)
      rw [hval]
      exact ⟨_, rfl, h.setK hlk h.taOk (s' := canon c tr br .nsl (foundC free cnt) exh) rfl rfl rfl rfl ⟨rfl, rfl, rfl⟩, by simp⟩
  rintro t2 o2 ⟨hr2, hl2⟩
  generalize foundC (c.vars - tr.length) cnt = cnt2 at hr2
  have hok2 := hr2.ok
  repeat (first | refine nav ?_ | refine bo ?_)
  cases hfi : c.first with
  | false =>
    (refine wr fun K R hK hR => ?_; simp (maxSteps := 10000000) only [go_sem, hr2.k, rowK, canon, hfi]; (try go_ints); (try simp only [go_sem, hr2.k, rowK, canon, hfi]); (repeat refine And.intro side ?_); (first | refine hK _ ?_ | refine hR _ _ ?_); clear hK hR K R)
    repeat (first | refine nav ?_ | refine bo ?_)
    refine W_cond (b := false) (by simp only [go_sem, hfi]) (fun hb => by cases hb) (fun _ => ?_)
    repeat (first | refine nav ?_ | refine bo ?_)
    refine endQ_alln (by simp only [go_sem] <;> exact rfl) (Le.refl _) (show o.length ≤ o2.length by omega) hok2 rfl ⟨rfl, .nsl, hr2, show o.length ≤ o2.length by omega, fun _ => rfl, fun h => by cases h⟩
  | true =>
    (refine W_reg [1000000] fun K R hK hR => ?_; simp (maxSteps := 10000000) only [go_sem, hr2.k, rowK, canon, hfi]; (try go_ints); (try simp only [go_sem, hr2.k, rowK, canon, hfi]); (repeat refine And.intro side ?_); (first | refine hK _ ?_ | refine hR _ _ ?_); clear hK hR K R)
    repeat (first | refine nav ?_ | refine bo ?_)
    refine W_cond (b := true) (by simp only [go_sem, hfi]) (fun _ => ?_) (fun hb => by cases hb)
    repeat (first | refine nav ?_ | refine bo ?_)
    have hk3 := fun l => app_get l hr2.k
    simp only [rowK, canon] at hk3
    have hi0 : List.replicate c.vars [AV.b false] = bools (mdP c.vars tr 0) := by rw [mdP_zero]; simp [bools]
    have hok3 : okO (o2 ++ [Ob.cells 1 (bools (mdP c.vars tr 0))]) = true := okO_app hok2 (by simp [Ob.ltk, AV.ltk, bools])
    have hr3 := hr2.push [Ob.cells 1 (bools (mdP c.vars tr 0))] hok3
    have hr4 := hr3.setK hlk hr3.taOk (s' := canon c tr br (.ref o2.length 0 c.vars) cnt2 exh) rfl rfl rfl rfl ⟨by simp [canon, AV.ltk], rfl, rfl⟩
    have hK2 : K < o2.length := by omega
    have hJ4 : ((o2 ++ [Ob.cells 1 (bools (mdP c.vars tr 0))]).set K (.cells 13 [rowK c d ta (canon c tr br (.ref o2.length 0 c.vars) cnt2 exh)]))[o2.length]? = some (.cells 1 (bools (mdP c.vars tr 0))) := by
      rw [List.getElem?_set_ne (by omega)]; simp
    have hta : ∀ l, ta ≠ .ref o2.length 0 l := by
      intro l e
      have := hr2.taOk
      rw [e] at this
      simp [AV.ltk] at this
    refine W_joinS 43 52 [] (fun t o3 => RepG o3 K d c ta (canon c tr br (.ref o2.length 0 c.vars) cnt2 exh) ∧ o3[o2.length]? = some (.cells 1 (bools (mdP c.vars tr 0))) ∧ o2.length < o3.length) ?_ ?_
    · (refine wr fun K R hK hR => ?_; simp (maxSteps := 10000000) only [go_sem, hr2.k, rowK, canon, hk3, hi0]; (try go_ints); (try simp only [go_sem, hr2.k, rowK, canon, hk3, hi0]); (repeat refine And.intro side ?_); (first | refine hK _ ?_ | refine hR _ _ ?_); clear hK hR K R)
      exact ⟨_, rfl, hr4, hJ4, by simp⟩
    clear hr3 hr4 hJ4 hok3 hi0 hk3
    rintro t3 o3 ⟨hr3, hJ3, hl3⟩
    repeat (first | refine nav ?_ | refine bo ?_)
    (refine wr fun K R hK hR => ?_; simp (maxSteps := 10000000) only [go_sem, hr3.k, rowK, canon]; (try go_ints); (try simp only [go_sem, hr3.k, rowK, canon]); (repeat refine And.intro side ?_); (first | refine hK _ ?_ | refine hR _ _ ?_); clear hK hR K R)
    repeat (first | refine nav ?_ | refine bo ?_)
    refine W_for 57 71 [3, 4] (fun m t o4 => ∃ k : Nat, RepG o4 K d c ta (canon c tr br (.ref o2.length 0 c.vars) cnt2 exh) ∧ o4[o2.length]? = some (.cells 1 (bools (mdP c.vars tr k))) ∧ o2.length < o4.length ∧ t 57 = .i .i64 k ∧ m = c.vars - k ∧ k ≤ c.vars) c.vars
      ⟨0, hr3, hJ3, hl3, by simp only [go_sem] <;> rfl, by omega, Nat.zero_le _⟩ ?_
    clear hr3 hJ3 hl3 o3
    rintro m t4 o3 ⟨k, hr3, hJ3, hl3, h57, rfl, hk⟩
    repeat (first | refine nav ?_ | refine bo ?_)
    (refine wr fun K R hK hR => ?_; simp (maxSteps := 10000000) only [go_sem, h57]; (try go_ints); (try simp only [go_sem, h57]); (repeat refine And.intro side ?_); (first | refine hK _ ?_ | refine hR _ _ ?_); clear hK hR K R)
    repeat (first | refine nav ?_ | refine bo ?_)
    refine W_cond (by simp only [go_sem] <;> exact rfl) (fun hb => ?_) (fun hb => ?_)
    · simp at hb
      have hv := valL_get (tr := tr) hb
      have hvl := valL_len c.vars tr
      obtain ⟨mv, hmv⟩ : ∃ v, (mdP c.vars tr k)[k]? = some v := ⟨_, List.getElem?_eq_getElem (by rw [mdP_len]; omega)⟩
      have hml := mdP_len c.vars tr k
      have hset := mdP_set c.vars tr k hb
      have hv3 := hr3.v
      simp only [canon] at hv3
      repeat (first | refine nav ?_ | refine bo ?_)
      (refine wr fun K R hK hR => ?_; simp (maxSteps := 10000000) only [go_sem, h57, hr3.v, canon, ints_get hv]; (try go_ints); (try simp only [go_sem, h57, hr3.v, canon, ints_get hv]); (repeat refine And.intro side ?_); (first | refine hK _ ?_ | refine hR _ _ ?_); clear hK hR K R)
      repeat (first | refine nav ?_ | refine bo ?_)
      (refine wr fun K R hK hR => ?_; simp (maxSteps := 10000000) only [go_sem, hr3.k, rowK, canon, hJ3, bools_get hmv, hml, bools_set, hset]; (try go_ints); (try simp only [go_sem, hr3.k, rowK, canon, hJ3, bools_get hmv, hml, bools_set, hset]); (repeat refine And.intro side ?_); (first | refine hK _ ?_ | refine hR _ _ ?_); clear hK hR K R)
      repeat (first | refine nav ?_ | refine bo ?_)
      (refine wr fun K R hK hR => ?_; simp (maxSteps := 10000000) only [go_sem, h57]; (try go_ints); (try simp only [go_sem, h57]); (repeat refine And.intro side ?_); (first | refine hK _ ?_ | refine hR _ _ ?_); clear hK hR K R)
      have hs : ∀ (X : Ob) (j : Nat), (o3.set o2.length X)[j]? = if j = o2.length then some X else o3[j]? := fun X j => set_get hJ3
      refine forQ_normal (c.vars - (k + 1)) (by omega) ⟨k + 1, RepG.others hr2 hr3 (Q := o2.length) (Nat.le_refl _) hta (by simp) (fun j X hj hn => by rw [hs, if_neg hn]; exact hj) (okO_set hr3.ok (bools_ltk _ _)), by rw [hs, if_pos rfl], by simpa using hl3, ?_⟩
      ((try simp only [go_sem]); (repeat' refine And.intro ?_ ?_) <;> (try first | with_reducible rfl | omega | with_reducible assumption | (simp; done)))
    · simp at hb
      obtain rfl : c.vars = k := by omega
      rw [mdP_full] at hJ3
      repeat (first | refine nav ?_ | refine bo ?_)
      refine endQ_alln (by simp only [go_sem] <;> exact rfl) (Le.refl _) (show o.length ≤ o3.length by omega) hr3.ok rfl ⟨rfl, _, hr3, show o.length ≤ o3.length by omega, fun h => Bool.noConfusion h, fun _ => ⟨_, rfl, hJ3, by omega⟩⟩
end Go.AW
/-
The search for models: the search itself.
-/
namespace Go.AW
open Go Go.Proofs TyTry Go.IntWalk
set_option linter.unusedSimpArgs false
set_option linter.unusedVariables false
set_option maxRecDepth 10000
set_option maxHeartbeats 2000000

/-- What a search brings, where M models were to be found. -/
structure RP (c : Env) (K : Nat) (d : IdS) (o : List Ob) (ta : AV) (M B : Nat) (br cnt br' cnt' : Int) (md' : AV) (exh' : Bool) : Prop where
  b0 : br ≤ br'
  b1 : br' ≤ br + B
  b2 : br' ≤ 200001
  ex : exh' = decide (br' > 200000)
  c0 : 0 ≤ cnt' ∧ cnt' ≤ capF
  no : c.first = false → md' = .nsl ∧ (exh' = false → cnt' = min (cnt + M) capF)
  yes : c.first = true → (cnt' = 0 → md' = .nsl) ∧ (exh' = false → (0 < cnt' ↔ 0 < M)) ∧
    (0 < cnt' → ∃ J a, md' = .ref J 0 c.vars ∧ o[J]? = some (.cells 1 (bools a)) ∧ a.length = c.vars ∧ satC c.list a = true ∧ J ≠ K ∧ J ≠ d.L ∧ J ≠ d.G ∧ J ≠ d.V ∧ ∀ l, ta ≠ .ref J 0 l)
section
variable {c : Env} {K : Nat} {d : IdS} {o o1 o2 : List Ob} {ta ta1 ta2 : AV} {M M1 M2 B B1 B2 : Nat} {br cnt br1 cnt1 br2 cnt2 : Int} {md1 md2 : AV} {exh1 exh2 : Bool}
theorem RP.comb (h1 : RP c K d o1 ta1 M1 B1 br cnt br1 cnt1 md1 exh1) (hn : exh1 = false) (hc1 : cnt1 ≤ 1099511627776) (hf : c.first = true → cnt1 = 0) (h2 : RP c K d o2 ta2 M2 B2 br1 cnt1 br2 cnt2 md2 exh2) : RP c K d o2 ta2 (M1 + M2) (B1 + B2) br cnt br2 cnt2 md2 exh2 := by
  have hcap : capF = 1099511627777 := rfl
  refine ⟨Int.le_trans h1.b0 h2.b0, ?_, h2.b2, h2.ex, h2.c0, fun hfi => ⟨(h2.no hfi).1, fun he => ?_⟩, fun hfi => ⟨(h2.yes hfi).1, fun he => ?_, (h2.yes hfi).2.2⟩⟩
  · have a := h1.b1; have b := h2.b1; omega
  · have a := (h1.no hfi).2 hn; have b := (h2.no hfi).2 he; omega
  · have a := (h1.yes hfi).2.1 hn; have b := (h2.yes hfi).2.1 he
    have e := hf hfi
    constructor
    · intro h; have := b.1 h; omega
    · intro h
      refine b.2 ?_
      have : ¬ 0 < M1 := fun h => by have := a.2 h; omega
      omega
theorem RP.over (h : RP c K d o1 ta1 M1 B1 br cnt br1 cnt1 md1 exh1) (ho : (exh1 || (c.first && decide (cnt1 > 0)) || decide (cnt1 > 1099511627776)) = true) (hM : M1 ≤ M) (hB : B1 ≤ B) : RP c K d o1 ta1 M B br cnt br1 cnt1 md1 exh1 := by
  have hcap : capF = 1099511627777 := rfl
  refine ⟨h.b0, by have := h.b1; omega, h.b2, h.ex, h.c0, fun hfi => ⟨(h.no hfi).1, fun he => ?_⟩, fun hfi => ⟨(h.yes hfi).1, fun he => ?_, (h.yes hfi).2.2⟩⟩
  · have a := (h.no hfi).2 he
    rw [he, hfi] at ho
    simp only [Bool.false_and, Bool.or_false, Bool.false_or, decide_eq_true_eq] at ho
    omega
  · have a := (h.yes hfi).2.1 he
    rw [he, hfi] at ho
    simp only [Bool.true_and, Bool.false_or, Bool.or_eq_true, decide_eq_true_eq] at ho
    have h1 : 0 < cnt1 := by omega
    have h2 := a.1 h1
    exact ⟨fun _ => by omega, fun _ => h1⟩
theorem RP.more (h : RP c K d o1 ta1 M B1 br cnt br1 cnt1 md1 exh1) (hB : B1 ≤ B) : RP c K d o1 ta1 M B br cnt br1 cnt1 md1 exh1 :=
  ⟨h.b0, by have := h.b1; omega, h.b2, h.ex, h.c0, h.no, h.yes⟩
theorem RP.objs (h : RP c K d o1 ta1 M B br cnt br1 cnt1 md1 exh1) (hJ : ∀ J, J < o1.length → J ≠ K → J ≠ d.L → J ≠ d.G → J ≠ d.V → (∀ l, ta1 ≠ .ref J 0 l) → o2[J]? = o1[J]? ∧ ∀ l, ta2 ≠ .ref J 0 l) : RP c K d o2 ta2 M B br cnt br1 cnt1 md1 exh1 := by
  refine ⟨h.b0, h.b1, h.b2, h.ex, h.c0, h.no, fun hfi => ⟨(h.yes hfi).1, (h.yes hfi).2.1, fun hp => ?_⟩⟩
  obtain ⟨J, a, e1, e2, e3, e4, n1, n2, n3, n4, n5⟩ := (h.yes hfi).2.2 hp
  obtain ⟨q1, q2⟩ := hJ J (List.getElem?_eq_some_iff.1 e2).1 n1 n2 n3 n4 n5
  exact ⟨J, a, e1, q1.trans e2, e3, e4, n1, n2, n3, n4, q2⟩
end
theorem open_var {c : Env} (hc : EnvOk c) {tr : List Int} (htr : TrOk c.vars tr) (hq : Quiet c.list tr) (hne : ∀ l ∈ c.list, l ≠ []) (h : zeros (goodL c.list tr) ≠ 0) : ∃ w < c.vars, valOf tr w = 0 := by
  obtain ⟨i, hi, hg⟩ := open_some h
  have hl : c.list.getD i [] = c.list[i] := by simp [hi]
  obtain ⟨z, hz, hz0⟩ := open_left htr hg (hq i hi (by rw [hl]; exact hne _ (List.getElem_mem hi)) hg)
  rw [hl] at hz
  obtain ⟨z0, z1, z2⟩ := hc.lit _ (List.getElem_mem hi) z hz
  by_cases hp : z > 0
  · refine ⟨(z - 1).toNat, by omega, ?_⟩
    rw [← isL_val, show (((z - 1).toNat : Nat) : Int) + 1 = z by omega]; exact hz0
  · refine ⟨(-z - 1).toNat, by omega, ?_⟩
    have e := isL_neg htr (v := (-z - 1).toNat)
    rw [show -((((-z - 1).toNat : Nat) : Int) + 1) = z by omega, hz0] at e
    omega
theorem run_spec {K : Nat} {d : IdS} {c : Env} (hc : EnvOk c) (hne : ∀ l ∈ c.list, l ≠ []) : ∀ (N v : Nat) (tr : List Int) (o : List Ob) (ta : AV) (br cnt : Int), c.vars - v < N → v ≤ c.vars → RepG o K d c ta (canon c tr br .nsl cnt false) → TrOk c.vars tr → Quiet c.list tr →
    (∀ u < v, valOf tr u ≠ 0) → 0 ≤ br → br ≤ 200000 → 0 ≤ cnt → cnt ≤ 1099511627776 → (c.first = true → cnt = 0) →
    ACalls Try.prog 65 [.ptr K 0 0, .i .i64 v] o fun r o' => r = .tup [] ∧ ∃ ta' br' cnt' md' exh', RepG o' K d c ta' (canon c tr br' md' cnt' exh') ∧ RP c K d o' ta' (cntM c.vars c.list tr) (2 ^ (c.vars - v) - 1) br cnt br' cnt' md' exh' ∧ o.length ≤ o'.length
  | 0, _, _, _, _, _, _, h, _, _, _, _, _, _, _, _, _, _ => by omega
  | N + 1, v, tr, o, ta, br, cnt, hN, hv, h, htr, hq, hass, hb0, hb1, hc0, hc1, hfc => by
    have ih := run_spec (K := K) (d := d) hc hne N
    have hok := h.ok
    have lK := (List.getElem?_eq_some_iff.1 h.k).1
    have lL := (List.getElem?_eq_some_iff.1 h.l).1
    have lG := (List.getElem?_eq_some_iff.1 h.g).1
    have lV := (List.getElem?_eq_some_iff.1 h.v).1
    have hcv := hc.vars
    have hlk := lav_ltk hc
    have hrl := htr.len
    have hcap : capF = 1099511627777 := rfl
    have hzb := zeros_bd (goodL c.list tr)
    rw [goodL_len] at hzb
    have hll := hc.list
    refine ACalls_of' (n := 68) (rs := []) (show Try.prog.funcs[65]? = some Try.f65 by kernel_rfl) rfl rfl rfl (by simp) (by decide +kernel) ?_
    repeat (first | refine nav ?_ | refine bo ?_)
    (refine wr fun K R hK hR => ?_; simp (maxSteps := 10000000) only [go_sem, h.k, rowK, canon]; (try go_ints); (try simp only [go_sem, h.k, rowK, canon]); (repeat refine And.intro side ?_); (first | refine hK _ ?_ | refine hR _ _ ?_); clear hK hR K R)
    repeat (first | refine nav ?_ | refine bo ?_)
    refine W_cond (by simp only [go_sem] <;> exact rfl) (fun hb => ?_) (fun hb => ?_)
    · have hb : zeros (goodL c.list tr) = 0 := by simpa using hb
      have hop := open_zero hb
      repeat (first | refine nav ?_ | refine bo ?_)
      (refine wr fun K R hK hR => ?_; simp (maxSteps := 10000000) only [go_sem]; (try go_ints); (repeat refine And.intro side ?_); (first | refine hK _ ?_ | refine hR _ _ ?_); clear hK hR K R)
      refine RL_callE (found_spec h hc htr ⟨hc0, by omega⟩) (fun r o' ⟨e1, md', e2, e3, _⟩ => ⟨e3, by rw [e1]; rfl, e2.ok⟩) (by simp only [go_sem] <;> exact rfl) rfl rfl (by simp) (by simp only [go_sem] <;> exact LeA.refl _) hok (by simp [AV.ltk]; omega) ?_
      rintro r o2 ⟨rfl, md', hr2, hl2, hno, hyes⟩
      (refine rr fun K R hK hR => ?_; simp (maxSteps := 10000000) only [go_sem]; (try go_ints); (repeat refine And.intro side ?_); (first | refine hK _ ?_ | refine hR _ _ ?_); clear hK hR K R)
      repeat (first | refine nav ?_ | refine bo ?_)
      have hM := cntM_all (list := c.list) htr hop
      have hpos : 1 ≤ 2 ^ (c.vars - tr.length) := Nat.one_le_two_pow
      refine endQ_all (by simp only [go_sem] <;> exact rfl) (Le.refl _) hl2 hr2.ok rfl ⟨rfl, ta, br, _, md', false, hr2, ?_, hl2⟩
      rw [hM]
      refine ⟨Int.le_refl _, by omega, by omega, by simp; omega, ?_, fun hfi => ⟨hno hfi, fun _ => rfl⟩, fun hfi => ⟨fun h0 => ?_, fun _ => ⟨fun _ => by omega, fun _ => ?_⟩, fun _ => ?_⟩⟩
      · unfold foundC; omega
      · unfold foundC at h0; omega
      · unfold foundC; omega
      · obtain ⟨J, e1, e2, e3⟩ := hyes hfi
        have e3 : o.length ≤ J := e3
        refine ⟨J, _, e1, e2, modelOf_len _ _, good_sat (n := c.vars) hop (modelOf_agr htr), by omega, by omega, by omega, by omega, fun l e => ?_⟩
        have := h.taOk
        rw [e] at this
        simp [AV.ltk] at this
        omega
    · have hb : zeros (goodL c.list tr) ≠ 0 := by simpa using hb
      obtain ⟨w, hw1, hw2⟩ := open_var hc htr hq hne hb
      have hvw : v ≤ w := Nat.le_of_not_lt fun h => hass w h hw2
      have hcl := h.k
      repeat (first | refine nav ?_ | refine bo ?_)
      refine W_for 14 24 [1] (fun m t o' => ∃ u : Nat, o' = o ∧ t 1 = .i .i64 u ∧ v ≤ u ∧ u ≤ w ∧ (∀ z < u, valOf tr z ≠ 0) ∧ m = c.vars - u) (c.vars - v) ⟨v, rfl, by simp only [go_sem] <;> rfl, Nat.le_refl _, hvw, hass, rfl⟩ ?_
      rintro m t o1 ⟨u, e1, h1, hu1, hu2, hu3, rfl⟩
      rw [e1]
      clear e1 o1
      have huv : u < c.vars := by omega
      have hvg := valL_get (tr := tr) huv
      have hvl := valL_len c.vars tr
      have hvb : -1 ≤ valOf tr u ∧ valOf tr u ≤ 1 := by unfold valOf; split <;> (try split) <;> omega
      repeat (first | refine nav ?_ | refine bo ?_)
      (refine wr fun K R hK hR => ?_; simp (maxSteps := 10000000) only [go_sem, h1, h.k, rowK, h.v, canon, ints_get hvg]; (try go_ints); (try simp only [go_sem, h1, h.k, rowK, h.v, canon, ints_get hvg]); (repeat refine And.intro side ?_); (first | refine hK _ ?_ | refine hR _ _ ?_); clear hK hR K R)
      repeat (first | refine nav ?_ | refine bo ?_)
      refine W_cond (by simp only [go_sem] <;> exact rfl) (fun hb => ?_) (fun hb => ?_)
      · have hb : valOf tr u ≠ 0 := by simpa using hb
        have huw : u ≠ w := fun e => hb (by rw [e]; exact hw2)
        repeat (first | refine nav ?_ | refine bo ?_)
        (refine wr fun K R hK hR => ?_; simp (maxSteps := 10000000) only [go_sem, h1]; (try go_ints); (try simp only [go_sem, h1]); (repeat refine And.intro side ?_); (first | refine hK _ ?_ | refine hR _ _ ?_); clear hK hR K R)
        repeat (first | refine nav ?_ | refine bo ?_)
        refine forQ_normal (c.vars - (u + 1)) (by omega) ⟨u + 1, rfl, ?_, by omega, by omega, fun z hz => ?_, rfl⟩
        · simp only [go_sem] <;> simp
        · rcases Nat.lt_succ_iff_lt_or_eq.1 hz with hz | rfl
          · exact hu3 z hz
          · exact hb
      · have hb : valOf tr u = 0 := by simpa using hb
        have hxn : (u : Int) + 1 ∉ tr ∧ -((u : Int) + 1) ∉ tr := by
          unfold valOf at hb
          by_cases q1 : (u : Int) + 1 ∈ tr
          · simp [q1] at hb
          · by_cases q2 : -((u : Int) + 1) ∈ tr
            · simp [q1, q2] at hb
            · exact ⟨q1, q2⟩
        clear hvb hvg
        obtain ⟨B, hB⟩ : ∃ B, 2 ^ (c.vars - (u + 1)) - 1 = B := ⟨_, rfl⟩
        have hBB : 1 + 2 * B ≤ 2 ^ (c.vars - v) - 1 := by
          have q1 : 2 ^ (c.vars - u) ≤ 2 ^ (c.vars - v) := Nat.pow_le_pow_right (by omega) (by omega)
          have q2 : 2 ^ (c.vars - u) = 2 ^ (c.vars - (u + 1)) * 2 := by rw [← Nat.pow_succ]; congr 1; omega
          have q3 : 1 ≤ 2 ^ (c.vars - (u + 1)) := Nat.one_le_two_pow
          omega
        obtain ⟨xs, hxs⟩ : ∃ xs : Nat → Int, xs = fun i => if i = 0 then (u : Int) + 1 else 0 - (u : Int) - 1 := ⟨_, rfl⟩
        obtain ⟨Mi, hMi⟩ : ∃ Mi : Nat → Nat, Mi = fun i => if i = 0 then 0 else if i = 1 then cntM c.vars c.list (tr ++ [(u : Int) + 1]) else cntM c.vars c.list tr := ⟨_, rfl⟩
        have hM2 : Mi 2 = cntM c.vars c.list tr := by rw [hMi]; rfl
        have hMs : ∀ i < 2, Mi (i + 1) = Mi i + cntM c.vars c.list (tr ++ [xs i]) := by
          intro i hi
          rw [hMi, hxs]
          match i, hi with
          | 0, _ => simp
          | 1, _ =>
            simp only [Nat.reduceAdd, Nat.reduceEqDiff, if_false, if_true]
            rw [cntM_split (x := (u : Int) + 1) (by omega), show -((u : Int) + 1) = 0 - (u : Int) - 1 by omega]
        have hMle : ∀ i ≤ 2, Mi i ≤ cntM c.vars c.list tr := by
          intro i hi
          rw [← hM2]
          match i, hi with
          | 0, _ => have := hMs 0 (by omega); have := hMs 1 (by omega); simp only [Nat.zero_add, Nat.reduceAdd] at *; omega
          | 1, _ => have := hMs 1 (by omega); simp only [Nat.reduceAdd] at *; omega
          | 2, _ => exact Nat.le_refl _
        have hxl : ∀ i, LitOk c.vars (xs i) ∧ (xs i = (u : Int) + 1 ∨ xs i = -((u : Int) + 1)) := by
          intro i
          rw [hxs]
          simp only
          split
          · exact ⟨⟨by omega, by omega, by omega⟩, .inl rfl⟩
          · exact ⟨⟨by omega, by omega, by omega⟩, .inr (by omega)⟩
        repeat (first | refine nav ?_ | refine bo ?_)
        refine W_joinS 24 31 [] (fun t o1 => RepG o1 K d c ta (canon c tr (br + 1) .nsl cnt false) ∧ o1.length = o.length) ?_ ?_
        · (refine wr fun K R hK hR => ?_; simp (maxSteps := 10000000) only [go_sem, h.k, rowK, canon]; (try go_ints); (try simp only [go_sem, h.k, rowK, canon]); (repeat refine And.intro side ?_); (first | refine hK _ ?_ | refine hR _ _ ?_); clear hK hR K R)
          exact ⟨_, rfl, h.setK hlk h.taOk (s' := canon c tr (br + 1) .nsl cnt false) rfl rfl rfl rfl ⟨rfl, rfl, rfl⟩, by simp⟩
        rintro t2 o1 ⟨hr1, hl1⟩
        repeat (first | refine nav ?_ | refine bo ?_)
        (refine wr fun K R hK hR => ?_; simp (maxSteps := 10000000) only [go_sem, hr1.k, rowK, canon]; (try go_ints); (try simp only [go_sem, hr1.k, rowK, canon]); (repeat refine And.intro side ?_); (first | refine hK _ ?_ | refine hR _ _ ?_); clear hK hR K R)
        refine seqQ_normal ?_
        refine W_joinS 36 39 [] (fun t o2 => RepG o2 K d c ta (canon c tr (br + 1) .nsl cnt (decide (br + 1 > 200000))) ∧ o2.length = o.length) ?_ ?_
        · refine W_cond (by simp only [go_sem] <;> exact rfl) (fun hb => ?_) (fun hb => ?_)
          · have hb2 : br + 1 > 200000 := by simpa using hb
            rw [decide_eq_true hb2]
            repeat (first | refine nav ?_ | refine bo ?_)
            (refine wr fun K R hK hR => ?_; simp (maxSteps := 10000000) only [go_sem, hr1.k, rowK, canon]; (try go_ints); (try simp only [go_sem, hr1.k, rowK, canon]); (repeat refine And.intro side ?_); (first | refine hK _ ?_ | refine hR _ _ ?_); clear hK hR K R)
            exact ⟨_, rfl, hr1.setK hlk hr1.taOk (s' := canon c tr (br + 1) .nsl cnt true) rfl rfl rfl rfl ⟨rfl, rfl, rfl⟩, by simpa using hl1⟩
          · have hb2 : ¬ br + 1 > 200000 := by simpa using hb
            rw [decide_eq_false hb2]
            repeat (first | refine nav ?_ | refine bo ?_)
            exact ⟨_, rfl, hr1, hl1⟩
        clear hr1 hl1 o1
        rintro t3 o2 ⟨hr2, hl2⟩
        repeat (first | refine nav ?_ | refine bo ?_)
        (refine wr fun K R hK hR => ?_; simp (maxSteps := 10000000) only [go_sem, h1]; (try go_ints); (try simp only [go_sem, h1]); (repeat refine And.intro side ?_); (first | refine hK _ ?_ | refine hR _ _ ?_); clear hK hR K R)
        repeat (first | refine nav ?_ | refine bo ?_)
        refine W_for 46 68 [5, 6] (fun m t o3 => ∃ (i : Nat) (ta1 : AV) (br1 cnt1 : Int) (md1 : AV) (exh1 : Bool), RepG o3 K d c ta1 (canon c tr br1 md1 cnt1 exh1) ∧ RP c K d o3 ta1 (Mi i) (1 + i * B) br cnt br1 cnt1 md1 exh1 ∧ t 46 = .i .i64 i ∧ m = 2 - i ∧ i ≤ 2 ∧ o.length ≤ o3.length) 2
          ⟨0, ta, br + 1, cnt, .nsl, decide (br + 1 > 200000), hr2, ⟨by omega, by omega, by omega, rfl, ⟨hc0, by omega⟩, fun _ => ⟨rfl, fun _ => by rw [hMi]; simp only [if_true]; omega⟩, fun hfi => ⟨fun _ => rfl, fun _ => by rw [hMi, hfc hfi]; simp, fun h0 => by have := hfc hfi; omega⟩⟩, by simp only [go_sem] <;> rfl, rfl, by omega, by omega⟩ ?_
        clear hr2 hl2 o2
        rintro m t4 o3 ⟨i, ta1, br1, cnt1, md1, exh1, hr3, hrp, h46, rfl, hi, hl3⟩
        have hok3 := hr3.ok
        have lK3 : K < o3.length := by omega
        repeat (first | refine nav ?_ | refine bo ?_)
        (refine wr fun K R hK hR => ?_; simp (maxSteps := 10000000) only [go_sem, h46]; (try go_ints); (try simp only [go_sem, h46]); (repeat refine And.intro side ?_); (first | refine hK _ ?_ | refine hR _ _ ?_); clear hK hR K R)
        repeat (first | refine nav ?_ | refine bo ?_)
        refine W_cond (by simp only [go_sem] <;> exact rfl) (fun hb => ?_) (fun hb => ?_)
        · simp at hb
          have hb : i < 2 := by omega
          obtain ⟨hxo, hxc⟩ := hxl i
          have hgx : ([[AV.i .i64 ((u : Int) + 1)], [AV.i .i64 (0 - (u : Int) - 1)]] : List (List AV)).getD i [] = [.i .i64 (xs i)] := by
            rw [hxs]
            match i, hb with
            | 0, _ => rfl
            | 1, _ => rfl
          have hMs := hMs i hb
          generalize xs i = x at hxo hxc hgx hMs
          repeat (first | refine nav ?_ | refine bo ?_)
          (refine wr fun K R hK hR => ?_; simp (maxSteps := 10000000) only [go_sem, h46, hgx]; (try go_ints); (try simp only [go_sem, h46, hgx]); (repeat refine And.intro side ?_); (first | refine hK _ ?_ | refine hR _ _ ?_); clear hK hR K R)
          repeat (first | refine nav ?_ | refine bo ?_)
          (refine wr fun K R hK hR => ?_; simp (maxSteps := 10000000) only [go_sem]; (try go_ints); (repeat refine And.intro side ?_); (first | refine hK _ ?_ | refine hR _ _ ?_); clear hK hR K R)
          refine RL_callQ (over_spec hr3) (by simp only [go_sem] <;> exact rfl) rfl rfl (by simp) (by simp only [go_sem] <;> exact LeA.refl _) hok3 (by simp [AV.ltk]; omega) rfl ?_
          (refine rr fun K R hK hR => ?_; simp (maxSteps := 10000000) only [go_sem]; (try go_ints); (repeat refine And.intro side ?_); (first | refine hK _ ?_ | refine hR _ _ ?_); clear hK hR K R)
          repeat (first | refine nav ?_ | refine bo ?_)
          refine W_cond (by simp only [go_sem] <;> exact rfl) (fun hov => ?_) (fun hov => ?_)
          · have hov : (exh1 || (c.first && decide (cnt1 > 0)) || decide (cnt1 > 1099511627776)) = true := hov
            repeat (first | refine nav ?_ | refine bo ?_)
            refine endQ_all (by simp only [go_sem] <;> exact rfl) (Le.refl _) hl3 hok3 rfl ⟨rfl, ta1, br1, cnt1, md1, exh1, hr3, (hrp.over hov (hMle i hi) ?_), hl3⟩
            have : i * B ≤ 2 * B := Nat.mul_le_mul_right _ hi
            omega
          · have hov : (exh1 || (c.first && decide (cnt1 > 0)) || decide (cnt1 > 1099511627776)) = false := hov
            simp only [Bool.or_eq_false_iff, decide_eq_false_iff_not] at hov
            obtain ⟨⟨he1, hfc1⟩, hcb⟩ := hov
            subst he1
            have hcb : cnt1 ≤ 1099511627776 := by omega
            have hc00 := hrp.c0
            have hfc1 : c.first = true → cnt1 = 0 := fun hfi => by
              rw [hfi, Bool.true_and, decide_eq_false_iff_not] at hfc1
              omega
            have hmd1 : md1 = .nsl := by
              cases hfi : c.first with
              | false => exact (hrp.no hfi).1
              | true => exact (hrp.yes hfi).1 (hfc1 hfi)
            subst hmd1
            have hbr1 : br1 ≤ 200000 := by
              have := hrp.ex
              have := of_decide_eq_false this.symm
              omega
            have hbr0 := hrp.b0
            repeat (first | refine nav ?_ | refine bo ?_)
            refine W_joinS 52 57 [6] (fun t o' => o' = o3 ∧ t 6 = .i .i64 (tr.length : Nat)) ?_ ?_
            · rcases hr3.t with ⟨rfl, ht0⟩ | ⟨T, ex, rfl, hT, _⟩
              · have ht0 : tr = [] := ht0
                subst ht0
                (refine wr fun K R hK hR => ?_; simp (maxSteps := 10000000) only [go_sem, hr3.k, rowK, canon]; (try go_ints); (try simp only [go_sem, hr3.k, rowK, canon]); (repeat refine And.intro side ?_); (first | refine hK _ ?_ | refine hR _ _ ?_); clear hK hR K R)
                exact ⟨_, rfl, rfl, by simp only [go_sem] <;> simp⟩
              · (refine wr fun K R hK hR => ?_; simp (maxSteps := 10000000) only [go_sem, hr3.k, rowK, canon]; (try go_ints); (try simp only [go_sem, hr3.k, rowK, canon]); (repeat refine And.intro side ?_); (first | refine hK _ ?_ | refine hR _ _ ?_); clear hK hR K R)
                exact ⟨_, rfl, rfl, by simp only [go_sem]⟩
            rintro t5 o3' ⟨e3, h6⟩
            rw [e3]
            clear e3 o3'
            repeat (first | refine nav ?_ | refine bo ?_)
            (refine wr fun K R hK hR => ?_; simp (maxSteps := 10000000) only [go_sem]; (try go_ints); (repeat refine And.intro side ?_); (first | refine hK _ ?_ | refine hR _ _ ?_); clear hK hR K R)
            refine RL_callE (set_spec hr3 hc htr hq hxo) (fun r o' ⟨b, tr', ta', e1, _, e2, e3⟩ => ⟨e3, by rw [e1]; rfl, e2.ok⟩) (by simp only [go_sem] <;> exact rfl) rfl rfl (by simp) (by simp only [go_sem] <;> exact LeA.refl _) hok3 (by simp [AV.ltk]; omega) ?_
            rintro r o4 ⟨b, tr', ta', rfl, hsp, hr4, hl4⟩
            have hok4 := hr4.ok
            have hsl := hsp.ok.len
            have hl4 : o3.length ≤ o4.length := hl4
            (refine rr fun K R hK hR => ?_; simp (maxSteps := 10000000) only [go_sem]; (try go_ints); (repeat refine And.intro side ?_); (first | refine hK _ ?_ | refine hR _ _ ?_); clear hK hR K R)
            repeat (first | refine nav ?_ | refine bo ?_)
            refine W_joinS 60 64 [] (fun t o5 => ∃ ta2 br2 cnt2 md2 exh2, RepG o5 K d c ta2 (canon c tr' br2 md2 cnt2 exh2) ∧ RP c K d o5 ta2 (cntM c.vars c.list (tr ++ [x])) B br1 cnt1 br2 cnt2 md2 exh2 ∧ o.length ≤ o5.length) ?_ ?_
            · cases b with
              | true =>
                obtain ⟨s1, s2, s3⟩ := hsp.yes rfl
                refine W_cond (b := true) (by simp only [go_sem]) (fun _ => ?_) (fun hb => by cases hb)
                repeat (first | refine nav ?_ | refine bo ?_)
                (refine wr fun K R hK hR => ?_; simp (maxSteps := 10000000) only [go_sem, h1]; (try go_ints); (try simp only [go_sem, h1]); (repeat refine And.intro side ?_); (first | refine hK _ ?_ | refine hR _ _ ?_); clear hK hR K R)
                have hru := ih (u + 1) tr' o4 ta' br1 cnt1 (by omega) (by omega) hr4 hsp.ok s2 (fun z hz => ?_) (by omega) hbr1 (by omega) hcb hfc1
                · rw [hB, ← cntM_set hsp] at hru
                  refine RL_callE hru (fun r o' ⟨e1, ta', br', cnt', md', exh', e2, e3, e4⟩ => ⟨e4, by rw [e1]; rfl, e2.ok⟩) (by simp only [go_sem] <;> exact rfl) rfl rfl (by simp) (by simp only [go_sem] <;> first | exact LeA.refl _ | exact Le.refl _) hok4 (by simp [AV.ltk]; omega) ?_
                  rintro r o5 ⟨rfl, ta2, br2, cnt2, md2, exh2, hr5, hrp5, hl5⟩
                  have hl5 : o4.length ≤ o5.length := hl5
                  (refine rr fun K R hK hR => ?_; simp (maxSteps := 10000000) only [go_sem]; (try go_ints); (repeat refine And.intro side ?_); (first | refine hK _ ?_ | refine hR _ _ ?_); clear hK hR K R)
                  exact ⟨_, rfl, ta2, br2, cnt2, md2, exh2, hr5, hrp5, show o.length ≤ o5.length by omega⟩
                · obtain ⟨e, he⟩ := hsp.ext
                  have hmono : ∀ y, y ∈ tr → y ∈ tr' := fun y hy => by rw [he]; simp [hy]
                  rcases Nat.lt_succ_iff_lt_or_eq.1 hz with hz | rfl
                  · have h0 := hu3 z hz
                    intro h2
                    refine h0 ?_
                    unfold valOf at h2 ⊢
                    by_cases q1 : (z : Int) + 1 ∈ tr'
                    · simp [q1] at h2
                    · by_cases q2 : -((z : Int) + 1) ∈ tr'
                      · simp [q1, q2] at h2
                      · have p1 : (z : Int) + 1 ∉ tr := fun h => q1 (hmono _ h)
                        have p2 : -((z : Int) + 1) ∉ tr := fun h => q2 (hmono _ h)
                        simp [p1, p2]
                  · intro h2
                    unfold valOf at h2
                    rcases hxc with rfl | rfl
                    · simp [s1] at h2
                    · have hn := hsp.ok.opp _ s1
                      rw [Int.neg_neg] at hn
                      simp [s1, hn] at h2
              | false =>
                refine W_cond (b := false) (by simp only [go_sem]) (fun hb => by cases hb) (fun _ => ?_)
                repeat (first | refine nav ?_ | refine bo ?_)
                refine ⟨_, rfl, ta', br1, cnt1, .nsl, false, hr4, ?_, show o.length ≤ o4.length by omega⟩
                rw [cntM_no hsp]
                exact ⟨Int.le_refl _, by omega, by omega, hrp.ex, hc00, fun _ => ⟨rfl, fun _ => by omega⟩, fun hfi => ⟨fun _ => rfl, fun _ => by have := hfc1 hfi; omega, fun h0 => by have := hfc1 hfi; omega⟩⟩
            rintro t6 o5 ⟨ta2, br2, cnt2, md2, exh2, hr5, hrp5, hl5⟩
            have hok5 := hr5.ok
            obtain ⟨e, he⟩ := hsp.ext
            have hlt : tr.length ≤ tr'.length := by rw [he]; simp
            have hund := undo_spec hr5 hc hsp.ok (by omega) hlt
            rw [show tr'.take tr.length = tr by rw [he]; simp] at hund
            repeat (first | refine nav ?_ | refine bo ?_)
            (refine wr fun K R hK hR => ?_; simp (maxSteps := 10000000) only [go_sem, h6]; (try go_ints); (try simp only [go_sem, h6]); (repeat refine And.intro side ?_); (first | refine hK _ ?_ | refine hR _ _ ?_); clear hK hR K R)
            refine RL_callE hund (fun r o' ⟨e1, ta', e2, e3, _⟩ => ⟨e3.1, by rw [e1]; rfl, e2.ok⟩) (by simp only [go_sem] <;> exact rfl) rfl rfl (by simp) (by simp only [go_sem] <;> exact LeA.refl _) hok5 (by simp [AV.ltk]; omega) ?_
            rintro r o6 ⟨rfl, ta3, hr6, hf6, hta6⟩
            have hl6 : o5.length ≤ o6.length := hf6.1
            (refine rr fun K R hK hR => ?_; simp (maxSteps := 10000000) only [go_sem]; (try go_ints); (repeat refine And.intro side ?_); (first | refine hK _ ?_ | refine hR _ _ ?_); clear hK hR K R)
            rw [mix_mix (lo := 52) (lo' := 46) rfl]
            simp only [mix_upd, inL, Nat.reduceLeDiff, Nat.reduceLT, decide_true, Bool.true_and, Bool.and_true, Bool.true_or, if_true]
            rw [mix_mix (lo := 60) (lo' := 46) rfl]
            simp only [mix_upd, inL, Nat.reduceLeDiff, Nat.reduceLT, decide_true, Bool.true_and, Bool.and_true, Bool.true_or, if_true]
            repeat (first | refine nav ?_ | refine bo ?_)
            (refine wr fun K R hK hR => ?_; simp (maxSteps := 10000000) only [go_sem, h46]; (try go_ints); (try simp only [go_sem, h46]); (repeat refine And.intro side ?_); (first | refine hK _ ?_ | refine hR _ _ ?_); clear hK hR K R)
            have hrp6 : RP c K d o6 ta3 (cntM c.vars c.list (tr ++ [x])) B br1 cnt1 br2 cnt2 md2 exh2 := hrp5.objs fun J j0 j1 j2 j3 j4 j5 => ⟨hf6.2 J j0 j1 j2 j3 j4 j5, fun l e => by obtain ⟨l', e'⟩ := hta6 J l e; exact j5 l' e'⟩
            have hcomb := hrp.comb rfl hcb hfc1 hrp6
            rw [← hMs] at hcomb
            refine forQ_normal (2 - (i + 1)) (by omega) ⟨i + 1, ta3, br2, cnt2, md2, exh2, hr6, ?_, ?_, rfl, by omega, by omega⟩
            · rw [Nat.add_mul, Nat.one_mul, ← Nat.add_assoc]; exact hcomb
            · simp only [go_sem] <;> simp
        · simp at hb
          obtain rfl : i = 2 := by omega
          rw [hM2] at hrp
          repeat (first | refine nav ?_ | refine bo ?_)
          refine endQ_alln (by simp only [go_sem] <;> exact rfl) (Le.refl _) hl3 hok3 rfl ⟨rfl, ta1, br1, cnt1, md1, exh1, hr3, hrp.more (by omega), hl3⟩
end Go.AW
/-
AW, part Zu: regions in any order, by what holds after each set of operations.
-/
namespace Go.AW
open Go
set_option linter.unusedSimpArgs false
set_option linter.unusedVariables false
section
variable {P : Program} {n : Nat} {Q : Exit → St → Prop} {s : St}

theorem wpAny_of_I {ops : Array Oper} (I : (Nat → Bool) → St → Prop) (hac : ∀ i, i < ops.size → ∀ k ∈ dirs ops i, k < i)
    (hst : ∀ d s i o, ops[i]? = some o → d i = false → (∀ k ∈ dirs ops i, d k = true) → I d s → o.guard = none ∧ OpW P n o s (I (fun j => d j || j == i)))
    (hend : ∀ d s, (∀ i < ops.size, d i = true) → I d s → Q .normal s) {g : G} (hn : g.n = n) :
    ∀ (fuel : Nat) (rem : List Nat) (listed : Array Bool) (s : St) (a : Act) (w : World), rem.length = fuel → rem.Sublist (List.range ops.size) → listed.size = ops.size →
      (∀ i, i < ops.size → (listed.getD i true = false ↔ i ∈ rem)) → I (fun j => !rem.contains j) s → At g s a w → wpAny P .any ops (QL g Q) fuel listed a w := by
  intro fuel
  induction fuel with
  | zero =>
    intro rem listed s a w hl hsub hsz hli hD hat
    have : rem = [] := List.eq_nil_of_length_eq_zero hl
    subst this
    refine ⟨?_, s, hend _ _ (fun i _ => rfl) hD, hat⟩
    unfold Region.ready
    rw [List.filter_eq_nil_iff]
    intro i hi
    have := (hli i (List.mem_range.1 hi))
    simp only [List.not_mem_nil, iff_false, Bool.not_eq_false] at this
    simp [this]
  | succ fuel ih =>
    intro rem listed s a w hl hsub hsz hli hD hat
    have hmem : ∀ i, i ∈ rem → i < ops.size := fun i hi => List.mem_range.1 (hsub.subset hi)
    have hdir : ∀ (i : Nat), i ∈ Region.ready .any ops listed → i < ops.size ∧ i ∈ rem ∧ ∀ k ∈ dirs ops i, k ∉ rem := by
      intro i hi
      rw [mem_ready] at hi
      obtain ⟨h1, o, ho, h2⟩ := hi
      have hlt := (Array.getElem?_eq_some_iff.1 ho).1
      refine ⟨hlt, (hli i hlt).1 h1, fun k hk hkr => ?_⟩
      unfold dirs at hk
      rw [ho] at hk
      simp only [List.mem_map, List.mem_filter, Array.mem_toList_iff] at hk
      obtain ⟨e, ⟨he, hb⟩, rfl⟩ := hk
      have h3 := h2 e he hb
      have h4 := (hli e.on (hmem _ hkr)).2 hkr
      rw [Array.getD_eq_getD_getElem?] at h3 h4
      cases hq : listed[e.on]? with
      | none => rw [hq] at h4; simp at h4
      | some b => rw [hq] at h3 h4; simp at h3 h4; rw [h3] at h4; cases h4
    have hnd : rem.Nodup := (List.nodup_range).sublist hsub
    have hso : rem.Pairwise (· < ·) := (List.pairwise_lt_range).sublist hsub
    refine ⟨fun hno => ?_, fun i hi => ?_⟩
    · exfalso
      match rem, hl with
      | i :: rest, _ =>
        have hi : i < ops.size := hmem i (by simp)
        have : i ∈ Region.ready .any ops listed := by
          rw [mem_ready]
          refine ⟨(hli i hi).2 (by simp), ops[i], by simp [hi], fun e he hb => ?_⟩
          have hk : e.on ∈ dirs ops i := by
            unfold dirs
            rw [show ops[i]? = some ops[i] by simp [hi]]
            simp only [List.mem_map, List.mem_filter, Array.mem_toList_iff]
            exact ⟨e, ⟨he, hb⟩, rfl⟩
          have hne := hac i hi _ hk
          have hlt2 : e.on < ops.size := by omega
          cases hq : listed.getD e.on true with
          | false =>
            have hin := (hli _ hlt2).1 hq
            rw [List.pairwise_cons] at hso
            rcases List.mem_cons.1 hin with h | h
            · omega
            · have := hso.1 e.on h; omega
          | true =>
            rw [Array.getD_eq_getD_getElem?] at hq ⊢
            have h4 : e.on < listed.size := by rw [hsz]; exact hlt2
            rw [Array.getElem?_eq_getElem h4] at hq ⊢
            simpa using hq
        rw [hno] at this; cases this
    · obtain ⟨hlt, hir, hdn⟩ := hdir i hi
      have ho : ops[i]? = some ops[i] := by simp [hlt]
      obtain ⟨hg, hop⟩ := hst _ s i _ ho (by simp [List.contains_iff_mem, hir]) (fun k hk => by simpa using hdn k hk) hD
      unfold wpOp
      simp only [ho]
      have hw : Region.wanted ops[i] (yielded ops a.tmps) = true := by simp [Region.wanted, hg]
      simp only [hw, if_true]
      refine .inl (Oper.wp_q (Oper.wp_mono (fun a' w' ⟨s', h1, h2⟩ => ?_) (hop g a w hn hat)))
      have hmer : ∀ j, j ∈ rem.erase i ↔ j ≠ i ∧ j ∈ rem := fun j => hnd.mem_erase_iff
      refine ih (rem.erase i) _ s' a' w' ?_ (List.erase_sublist.trans hsub) (by simp [hsz]) ?_ ?_ h2
      · rw [List.length_erase_of_mem hir]; omega
      · intro j hj
        by_cases hji : j = i
        · subst hji
          rw [hmer]
          simp [hsz, hj]
        · rw [getD_set_ne true (fun e => hji e.symm), hli j hj, hmer]
          simp [hji]
      · have : (fun j => !(rem.erase i).contains j) = fun j => !rem.contains j || j == i := by
          funext j
          by_cases hji : j = i
          · subst hji
            simp [List.contains_iff_mem, hmer]
          · have h1 : (j ∈ rem.erase i) = (j ∈ rem) := by rw [hmer]; simp [hji]
            simp [hji, h1]
        rw [this]; exact h1

/-- A region in any order: what holds after each set of operations. -/
theorem W_drawInv {id : Nat} {l : List Oper} (hm : P.follows .mixedOrders = true) (I : (Nat → Bool) → St → Prop) (hac : ((List.range l.length).all fun i => (dirs l.toArray i).all fun k => decide (k < i)) = true)
    (h0 : I (fun j => decide (l.length ≤ j)) s)
    (hst : ∀ d s i o, l[i]? = some o → d i = false → (∀ k ∈ dirs l.toArray i, d k = true) → I d s → o.guard = none ∧ OpW P n o s (I (fun j => d j || j == i)))
    (hend : ∀ d s, (∀ i < l.length, d i = true) → I d s → Q .normal s) : W P n (.region id l.toArray true) Q s := by
  intro g a w hn hat
  have hat' : At g s a { w with drawn := w.drawn + 1 } := by
    obtain ⟨⟨m, reg, h1, h2, h3⟩, h4, h5, h6⟩ := hat
    have hg := Grow.draw w (w.drawn + 1)
    exact ⟨⟨m, reg, h1.grow hg, h2, h3⟩, h4.trans (hg.evol (fun _ _ => False)) (fun _ _ k => k.elim), h5, h6⟩
  refine wp_region_any hm ?_
  simp only [List.all_eq_true, List.mem_range, decide_eq_true_eq] at hac
  refine wpAny_of_I (Q := Q) I (fun i hi => hac i (by simpa using hi)) (fun d s i o ho => hst d s i o (by simpa using ho)) (fun d s hd => hend d s (fun i hi => hd i (by simpa using hi))) hn _ (List.range l.toArray.size) _ s a _ ?_ (List.Sublist.refl _) (by simp) ?_ ?_ hat'
  · simp
  · intro i hi
    simp at hi
    simp [hi]
  · have : (fun j => !(List.range l.toArray.size).contains j) = fun j => decide (l.length ≤ j) := by
      funext j
      by_cases h : j < l.length
      · simp [h]
      · simp [h]; omega
    rw [this]; exact h0
/-- After an operation an object is frozen. -/
theorem OpW.frz {o : Oper} {K K' : St → Prop} (h : OpW P n o s K) (hk : ∀ s, K s → ∃ id sz rows, s.o[id]? = some (.cells sz rows) ∧ (rows.all fun r => r.all fun c => c.dat.ltk 0 && c.dat.plain) = true ∧ K' (frS id sz rows s)) : OpW P n o s K' :=
  fun g a w hn hat => Oper.wp_mono (fun _ _ ⟨s', h1, h2⟩ => by
    obtain ⟨id, sz, rows, e1, e2, e3⟩ := hk s' h1
    exact ⟨_, e3, h2.freeze e1 e2⟩) (h g a w hn hat)
/-- After an operation less is known of the slots. -/
theorem OpW.weak {o : Oper} {K K' : St → Prop} (h : OpW P n o s K) (hk : ∀ s, K s → ∃ s', (∀ k, Le (s.t k) (s'.t k)) ∧ s'.o = s.o ∧ K' s') : OpW P n o s K' :=
  fun g a w hn hat => Oper.wp_mono (fun _ _ ⟨s', h1, h2⟩ => by
    obtain ⟨s2, e1, e2, e3⟩ := hk s' h1
    exact ⟨s2, e3, h2.weak e1 e2⟩) (h g a w hn hat)
/-- One operation, run. -/
theorem OpW_run {o : Oper} {K : St → Prop} (tk : List Nat) (hc : isCall o = false) (hg : o.guard = none) (h : ∀ K' : St → Prop, (∀ s, K s → K' s) → runR P n [] tk (fun _ _ => False) [o] K' s) : OpW P n o s K := by
  have h := h K fun _ h => h
  simp only [runR, hc, Bool.false_eq_true, if_false, andR, runO, hg] at h
  exact OpW_step tk (s' := (step1 P n tk o s).2) (by rw [← h.1]) h.2
/-- A nil slice in an object's cell is an empty part of any object. -/
theorem W_nil0 {c : Code} (K G k : Nat) {sz : Nat} {row : List AV} (ho : s.o[K]? = some (.cells sz [row])) (hG : G < s.o.length) (hk : row[k]? = some .nsl) (hno : (row.all fun c => !c.isOwn) = true)
    (h : W P n c Q ⟨s.t, s.o.set K (.cells sz [row.set k (.ref G 0 0)])⟩) : W P n c Q s := by
  refine h.at fun g a w hat => ?_
  obtain ⟨⟨m, reg, h1, h2, h3⟩, h4, h5, h6⟩ := hat
  obtain ⟨mb, hmb⟩ := h1.mget ho
  have hno2 : ∀ x ∈ row.set k (.ref G 0 0), x.isOwn = false := by
    intro x hx
    rcases List.mem_or_eq_of_mem_set hx with q | q
    · simpa using List.all_eq_true.1 hno x q
    · rw [q]; rfl
  have := h1.objSet (w' := w) ho trivial hmb rfl rfl rfl rfl (fun _ _ => rfl) (.cells sz [row.set k (.ref G 0 0)]) trivial (fun Y' K' => ?_) ?_
  · obtain ⟨r1, r2, r3⟩ := this
    exact ⟨⟨m, _, r1, fun b x hx => h2 b x (r3 b x hx), h3⟩, h4, h5, h6⟩
  · obtain ⟨q1, q2, q3, q4⟩ := h1.ob K _ mb ho hmb
    refine ⟨q1, q2, fun r row' hr => ?_, fun r row' c av hr hc => ?_⟩
    · rw [List.getElem?_singleton] at hr
      split at hr
      · obtain rfl := Option.some.inj hr
        rw [List.length_set]
        exact q3 0 row rfl
      · cases hr
    · rw [List.getElem?_singleton] at hr
      split at hr
      · rename_i hr0
        obtain rfl := Option.some.inj hr
        subst hr0
        rw [List.getElem?_set] at hc
        split at hc
        · rename_i e
          subst e
          split at hc
          · obtain rfl := Option.some.inj hc
            obtain ⟨v, e1, e2⟩ := q4 0 row k _ rfl hk
            refine ⟨v, e1, ?_⟩
            simp only [V] at e2 ⊢
            obtain ⟨mg, hmg⟩ : ∃ mg, m[G]? = some mg := ⟨_, List.getElem?_eq_getElem (by rw [h1.len]; exact hG)⟩
            exact ⟨mg, _, 0, hmg, e2, Nat.le_refl _, by decide, .inl (by simp)⟩
          · cases hc
        · obtain ⟨v, e1, e2⟩ := q4 0 row c av rfl hc
          exact ⟨v, e1, V.keep K' _ _ e2⟩
      · cases hr
  · intro r c sz' rows' he
    simp only [leaf, List.getElem?_cons_zero] at he
    have : ∃ row', [row.set k (.ref G 0 0)][r]? = some row' ∧ row'[c]? = some (.own sz' rows') := by
      cases hq : [row.set k (.ref G 0 0)][r]? with
      | none => rw [hq] at he; simp at he
      | some row' => rw [hq] at he; exact ⟨row', rfl, by simpa using he⟩
    obtain ⟨row', e1, e2⟩ := this
    rw [List.getElem?_singleton] at e1
    split at e1
    · obtain rfl := Option.some.inj e1
      have := hno2 _ (List.mem_of_getElem? e2)
      simp [AV.isOwn] at this
    · cases e1
end
end Go.AW
/-
The search for models begins: a clause is cleaned and taken over.
-/
namespace Go.AW
open Go Go.Proofs TyTry Go.IntWalk
set_option linter.unusedSimpArgs false
set_option linter.unusedVariables false
set_option maxRecDepth 10000
set_option maxHeartbeats 1000000

/-- A part of a function's code. -/
def regAt (k : Nat) : Code → Option Code
  | .region i l d => if i = k then some (.region i l d) else none
  | .seq a b => match regAt k a with | some x => some x | none => regAt k b
  | .cond _ a b => match regAt k a with | some x => some x | none => regAt k b
  | .block _ a => regAt k a
  | .loop a => regAt k a
  | _ => none
def stab (v : AV) : Prop := ∀ id sz rows, v.unref id sz rows = v
def rowB (vars M V : Nat) (first : Bool) (lav : AV) : List AV := [.i .i64 0, lav, .mp M, .nsl, .nsl, .i .i64 0, .ref V 0 vars, .nsl, .i .i64 0, .b first, .nsl, .i .i64 0, .b false]
structure I7 (K vars M V : Nat) (first : Bool) (base : List (Nat × AV)) (v9 lav : AV) (rows : List (List AV)) (cl : List (List AV)) (oc oc' : List Ob) (d : Nat → Bool) (s : St) : Prop where
  c : (d 13 = true → d 9 = true) ∧ (d 9 = true → d 5 = true ∧ d 8 = true) ∧ (d 8 = true → d 7 = true) ∧ (d 7 = true → d 6 = true)
  b : ∀ x ∈ base, s.t x.1 = x.2
  f6 : s.t 6 = .ptr K 0 0
  f9 : d 7 = false → s.t 9 = v9
  f0 : d 0 = true → s.t 35 = .ptr K 0 0
  f1 : d 1 = true → s.t 36 = .ptr K 0 0
  f2 : d 2 = true → s.t 37 = .ptr K 0 0
  f3 : d 3 = true → s.t 38 = .ptr K 0 0
  f4 : d 4 = true → s.t 39 = .ptr K 0 1
  f5 : d 5 = true → d 9 = false → s.t 40 = .own 1 rows
  f7 : d 6 = true → d 7 = false → s.t 41 = v9
  f8 : d 7 = true → s.t 42 = .sl 1 cl
  g8 : d 8 = true → s.t 43 = .own 1 [[.sl 1 cl]]
  g9 : d 9 = true → d 13 = false → s.t 44 = .own 1 (rows ++ [[.sl 1 cl]])
  g0 : d 10 = true → s.t 45 = .ptr K 0 0
  g1 : d 11 = true → s.t 46 = .ptr K 0 0
  g2 : d 12 = true → s.t 47 = .ptr K 0 1
  o : s.o = (if d 7 = true then oc' else oc).set K (.cells 13 [rowB vars M V first (if d 13 = true then .own 1 (rows ++ [[.sl 1 cl]]) else if d 5 = true then lav.dat else lav)])
theorem reg7 {c : Code} (hc : regAt 7 (Try.f64.body.getD .skip) = some c) {Q : Exit → St → Prop} {s : St} {K vars M V : Nat} {first : Bool} {base : List (Nat × AV)} {v9 lav : AV} {rows cl : List (List AV)} {oc oc' : List Ob}
    (hb : ∀ x ∈ base, (x.1 < 35 ∨ 48 ≤ x.1) ∧ x.1 ≠ 9 ∧ stab x.2) (hlav : lav = .nsl ∧ rows = [] ∨ lav = .own 1 rows) (hrl : rows.length ≤ 1000000)
    (hrp : (rows.all fun r => r.all fun c => !c.isOwn && c.ltk 0 && c.plain) = true) (hclp : (cl.all fun r => r.all fun c => !c.isOwn && c.ltk 0 && c.plain) = true) (hk1 : K < oc.length) (hk2 : K < oc'.length) (hv9 : v9 = .sl 1 [] ∨ ∃ J n, v9 = .ref J 0 n)
    (hcall : ∀ (o7 : Oper) (t : Nat → AV) (L : AV), o7.op = .call ⟨.value (.func 81), #[.tmp 41], #[29]⟩ → o7.dst = some 42 → t 41 = v9 → L = lav ∨ L = lav.dat → OpW Try.prog 152 o7 ⟨t, oc.set K (.cells 13 [rowB vars M V first L])⟩ fun s' =>
      (∀ k ≠ 42, ∀ v, stab v → t k = v → s'.t k = v) ∧ s'.t 42 = .sl 1 cl ∧ s'.o = oc'.set K (.cells 13 [rowB vars M V first L]))
    (h0 : I7 K vars M V first base v9 lav rows cl oc oc' (fun _ => false) s) (hend : ∀ s', I7 K vars M V first base v9 lav rows cl oc oc' (fun _ => true) s' → Q .normal s') : W Try.prog 152 c Q s := by
  simp only [Try.f64, Option.getD_some, regAt, Nat.reduceEqDiff, reduceIte, Option.some.injEq] at hc
  subst hc
  refine W_drawInv (by decide +kernel) (fun d s => I7 K vars M V first base v9 lav rows cl oc oc' d s) (by decide +kernel) ?_ ?_ ?_
  · exact ⟨by simp, h0.b, h0.f6, fun _ => h0.f9 rfl, fun h => by simp at h, fun h => by simp at h, fun h => by simp at h, fun h => by simp at h, fun h => by simp at h, fun h => by simp at h, fun h => by simp at h, fun h => by simp at h, fun h => by simp at h, fun h => by simp at h, fun h => by simp at h, fun h => by simp at h, fun h => by simp at h, by simpa using h0.o⟩
  · intro d s i o ho hd hdep hI
    obtain ⟨t, ob⟩ := s
    obtain ⟨kc, kb, k6, k9, k0, k1, k2, k3, k4, k5, k7, k8, m8, m9, m0, m1, m2, ko⟩ := hI
    simp only at kb k6 k9 k0 k1 k2 k3 k4 k5 k7 k8 m8 m9 m0 m1 m2 ko
    have hkk : ∀ X : Ob, ((if d 7 = true then oc' else oc).set K X)[K]? = some X := fun X => by
      rw [List.getElem?_set_self (by split <;> assumption)]
    match i, ho with
    | 0, ho =>
      obtain rfl := Option.some.inj ho
      refine ⟨rfl, OpW_run [40] rfl rfl fun K' hK' => ?_⟩
      simp (maxSteps := 10000000) only [go_sem, k6]
      (try go_ints)
      (repeat refine And.intro side ?_)
      refine hK' _ ?_
      clear hK' K' ho hdep
      refine ⟨by simp_all, fun x hx => by have hq := (hb x hx).1; have hq2 := kb x hx; simp only [upd]; (repeat rw [if_neg (by omega)]); exact hq2, ?_, ?_, ?_, ?_, ?_, ?_, ?_, ?_, ?_, ?_, ?_, ?_, ?_, ?_, ?_, ?_⟩ <;> first | (simp [upd]; done) | (simp [upd]; assumption) | (simp_all [upd]; done)
    | 1, ho =>
      obtain rfl := Option.some.inj ho
      refine ⟨rfl, OpW_run [40] rfl rfl fun K' hK' => ?_⟩
      simp (maxSteps := 10000000) only [go_sem, k6]
      (try go_ints)
      (repeat refine And.intro side ?_)
      refine hK' _ ?_
      clear hK' K' ho hdep
      refine ⟨by simp_all, fun x hx => by have hq := (hb x hx).1; have hq2 := kb x hx; simp only [upd]; (repeat rw [if_neg (by omega)]); exact hq2, ?_, ?_, ?_, ?_, ?_, ?_, ?_, ?_, ?_, ?_, ?_, ?_, ?_, ?_, ?_, ?_⟩ <;> first | (simp [upd]; done) | (simp [upd]; assumption) | (simp_all [upd]; done)
    | 2, ho =>
      obtain rfl := Option.some.inj ho
      refine ⟨rfl, OpW_run [40] rfl rfl fun K' hK' => ?_⟩
      simp (maxSteps := 10000000) only [go_sem, k1 (hdep 1 (by decide +kernel))]
      (try go_ints)
      (repeat refine And.intro side ?_)
      refine hK' _ ?_
      clear hK' K' ho hdep
      refine ⟨by simp_all, fun x hx => by have hq := (hb x hx).1; have hq2 := kb x hx; simp only [upd]; (repeat rw [if_neg (by omega)]); exact hq2, ?_, ?_, ?_, ?_, ?_, ?_, ?_, ?_, ?_, ?_, ?_, ?_, ?_, ?_, ?_, ?_⟩ <;> first | (simp [upd]; done) | (simp [upd]; assumption) | (simp_all [upd]; done)
    | 3, ho =>
      obtain rfl := Option.some.inj ho
      refine ⟨rfl, OpW_run [40] rfl rfl fun K' hK' => ?_⟩
      simp (maxSteps := 10000000) only [go_sem, k2 (hdep 2 (by decide +kernel))]
      (try go_ints)
      (repeat refine And.intro side ?_)
      refine hK' _ ?_
      clear hK' K' ho hdep
      refine ⟨by simp_all, fun x hx => by have hq := (hb x hx).1; have hq2 := kb x hx; simp only [upd]; (repeat rw [if_neg (by omega)]); exact hq2, ?_, ?_, ?_, ?_, ?_, ?_, ?_, ?_, ?_, ?_, ?_, ?_, ?_, ?_, ?_, ?_⟩ <;> first | (simp [upd]; done) | (simp [upd]; assumption) | (simp_all [upd]; done)
    | 4, ho =>
      obtain rfl := Option.some.inj ho
      refine ⟨rfl, OpW_run [40] rfl rfl fun K' hK' => ?_⟩
      simp (maxSteps := 10000000) only [go_sem, k3 (hdep 3 (by decide +kernel))]
      (try go_ints)
      (repeat refine And.intro side ?_)
      refine hK' _ ?_
      clear hK' K' ho hdep
      refine ⟨by simp_all, fun x hx => by have hq := (hb x hx).1; have hq2 := kb x hx; simp only [upd]; (repeat rw [if_neg (by omega)]); exact hq2, ?_, ?_, ?_, ?_, ?_, ?_, ?_, ?_, ?_, ?_, ?_, ?_, ?_, ?_, ?_, ?_⟩ <;> first | (simp [upd]; done) | (simp [upd]; assumption) | (simp_all [upd]; done)
    | 5, ho =>
      obtain rfl := Option.some.inj ho
      have q9 : d 9 = false := by cases h : d 9 with | false => rfl | true => rw [(kc.2.1 h).1] at hd; cases hd
      have q13 : d 13 = false := by cases h : d 13 with | false => rfl | true => rw [kc.1 h] at q9; cases q9
      have e4 := k4 (hdep 4 (by decide +kernel))
      simp only [q13, hd, Bool.false_eq_true, if_false] at ko
      subst ko
      refine ⟨rfl, OpW_run [40] rfl rfl fun K' hK' => ?_⟩
      rcases hlav with ⟨rfl, rfl⟩ | rfl
      · simp (maxSteps := 10000000) only [go_sem, e4, hkk, rowB]
        (try go_ints)
        (repeat refine And.intro side ?_)
        refine hK' _ ?_
        clear hK' K' ho hdep
        refine ⟨by simp_all, fun x hx => by have hq := (hb x hx).1; have hq2 := kb x hx; simp only [upd]; (repeat rw [if_neg (by omega)]); exact hq2, ?_, ?_, ?_, ?_, ?_, ?_, ?_, ?_, ?_, ?_, ?_, ?_, ?_, ?_, ?_, ?_⟩ <;> first | (simp [upd]; done) | (simp [upd]; assumption) | (simp_all [upd, rowB, AV.dat]; done)
      · simp (maxSteps := 10000000) only [go_sem, e4, hkk, rowB]
        (try go_ints)
        (repeat refine And.intro side ?_)
        refine hK' _ ?_
        clear hK' K' ho hdep
        refine ⟨by simp_all, fun x hx => by have hq := (hb x hx).1; have hq2 := kb x hx; simp only [upd]; (repeat rw [if_neg (by omega)]); exact hq2, ?_, ?_, ?_, ?_, ?_, ?_, ?_, ?_, ?_, ?_, ?_, ?_, ?_, ?_, ?_, ?_⟩ <;> first | (simp [upd]; done) | (simp [upd]; assumption) | (simp_all [upd, rowB, AV.dat]; done)
    | 6, ho =>
      obtain rfl := Option.some.inj ho
      have q7 : d 7 = false := by cases h : d 7 with | false => rfl | true => rw [kc.2.2.2 h] at hd; cases hd
      have e9 := k9 q7
      refine ⟨rfl, OpW_run [40] rfl rfl fun K' hK' => ?_⟩
      clear hcall
      rcases hv9 with rfl | ⟨J, m, rfl⟩
      · simp (maxSteps := 10000000) only [go_sem, e9]
        (try go_ints)
        (repeat refine And.intro side ?_)
        refine hK' _ ?_
        clear hK' K' ho hdep
        refine ⟨by simp_all, fun x hx => by have hq := (hb x hx).1; have hq2 := kb x hx; simp only [upd]; (repeat rw [if_neg (by omega)]); exact hq2, ?_, ?_, ?_, ?_, ?_, ?_, ?_, ?_, ?_, ?_, ?_, ?_, ?_, ?_, ?_, ?_⟩ <;> first | (simp [upd]; done) | (simp [upd]; assumption) | (simp_all [upd]; done)
      · simp (maxSteps := 10000000) only [go_sem, e9]
        (try go_ints)
        (repeat refine And.intro side ?_)
        refine hK' _ ?_
        clear hK' K' ho hdep
        refine ⟨by simp_all, fun x hx => by have hq := (hb x hx).1; have hq2 := kb x hx; simp only [upd]; (repeat rw [if_neg (by omega)]); exact hq2, ?_, ?_, ?_, ?_, ?_, ?_, ?_, ?_, ?_, ?_, ?_, ?_, ?_, ?_, ?_, ?_⟩ <;> first | (simp [upd]; done) | (simp [upd]; assumption) | (simp_all [upd]; done)
    | 7, ho =>
      obtain rfl := Option.some.inj ho
      have q8 : d 8 = false := by cases h : d 8 with | false => rfl | true => rw [kc.2.2.1 h] at hd; cases hd
      have q9 : d 9 = false := by cases h : d 9 with | false => rfl | true => rw [(kc.2.1 h).2] at q8; cases q8
      have q13 : d 13 = false := by cases h : d 13 with | false => rfl | true => rw [kc.1 h] at q9; cases q9
      have e6 := hdep 6 (by decide +kernel)
      have e7 := k7 e6 hd
      simp only [hd, q13, Bool.false_eq_true, if_false] at ko
      subst ko
      refine ⟨rfl, (hcall _ t (if d 5 = true then lav.dat else lav) rfl rfl e7 (by split <;> simp)).mono ?_⟩
      rintro ⟨t', o'⟩ ⟨h1, h2, h3⟩
      simp only at h1 h2 h3
      subst h3
      have st : ∀ (k : Nat) (v : AV), k ≠ 42 → stab v → t k = v → t' k = v := fun k v a b c => h1 k a v b c
      have sp : ∀ i j k, stab (.ptr i j k) := fun _ _ _ _ _ _ => rfl
      have so : ∀ i j, stab (.own i j) := fun _ _ _ _ _ => rfl
      refine ⟨by simp_all, fun x hx => st _ _ (by have := (hb x hx).1; omega) (hb x hx).2.2 (kb x hx), st _ _ (by decide) (sp _ _ _) k6, fun h => ?_, fun h => ?_, fun h => ?_, fun h => ?_, fun h => ?_, fun h => ?_, fun h h' => ?_, fun h h' => ?_, fun _ => h2, fun h => ?_, fun h => ?_, fun h => ?_, fun h => ?_, fun h => ?_, ?_⟩
      · simp at h
      · simp at h; exact st _ _ (by decide) (sp _ _ _) (k0 h)
      · simp at h; exact st _ _ (by decide) (sp _ _ _) (k1 h)
      · simp at h; exact st _ _ (by decide) (sp _ _ _) (k2 h)
      · simp at h; exact st _ _ (by decide) (sp _ _ _) (k3 h)
      · simp at h; exact st _ _ (by decide) (sp _ _ _) (k4 h)
      · simp at h h'; exact st _ _ (by decide) (so _ _) (k5 h h')
      · simp at h'
      · simp [q8] at h
      · simp [q9] at h
      · simp at h; exact st _ _ (by decide) (sp _ _ _) (m0 h)
      · simp at h; exact st _ _ (by decide) (sp _ _ _) (m1 h)
      · simp at h; exact st _ _ (by decide) (sp _ _ _) (m2 h)
      · simp [q13]
    | 8, ho =>
      obtain rfl := Option.some.inj ho
      have e7' := hdep 7 (by decide +kernel)
      have e7 := k8 e7'
      refine ⟨rfl, OpW_run [40] rfl rfl fun K' hK' => ?_⟩
      simp (maxSteps := 10000000) only [go_sem, e7, hclp]
      (try go_ints)
      (repeat refine And.intro side ?_)
      refine hK' _ ?_
      clear hK' K' ho hdep
      refine ⟨by simp_all, fun x hx => by have hq := (hb x hx).1; have hq2 := kb x hx; simp only [upd]; (repeat rw [if_neg (by omega)]); exact hq2, ?_, ?_, ?_, ?_, ?_, ?_, ?_, ?_, ?_, ?_, ?_, ?_, ?_, ?_, ?_, ?_⟩ <;> first | (simp [upd]; done) | (simp [upd]; assumption) | (simp_all [upd]; done)
    | 9, ho =>
      obtain rfl := Option.some.inj ho
      have e5 := k5 (hdep 5 (by decide +kernel)) hd
      have e8 := m8 (hdep 8 (by decide +kernel))
      have e5' := hdep 5 (by decide +kernel)
      have e8' := hdep 8 (by decide +kernel)
      refine ⟨rfl, OpW_run [40] rfl rfl fun K' hK' => ?_⟩
      simp (maxSteps := 10000000) only [go_sem, e5, e8]
      (try go_ints)
      (repeat refine And.intro side ?_)
      refine hK' _ ?_
      clear hK' K' ho hdep
      refine ⟨by simp_all, fun x hx => by have hq := (hb x hx).1; have hq2 := kb x hx; simp only [upd]; (repeat rw [if_neg (by omega)]); exact hq2, ?_, ?_, ?_, ?_, ?_, ?_, ?_, ?_, ?_, ?_, ?_, ?_, ?_, ?_, ?_, ?_⟩ <;> first | (simp [upd]; done) | (simp [upd]; assumption) | (simp_all [upd]; done)
    | 10, ho =>
      obtain rfl := Option.some.inj ho
      refine ⟨rfl, OpW_run [40] rfl rfl fun K' hK' => ?_⟩
      simp (maxSteps := 10000000) only [go_sem, k0 (hdep 0 (by decide +kernel))]
      (try go_ints)
      (repeat refine And.intro side ?_)
      refine hK' _ ?_
      clear hK' K' ho hdep
      refine ⟨by simp_all, fun x hx => by have hq := (hb x hx).1; have hq2 := kb x hx; simp only [upd]; (repeat rw [if_neg (by omega)]); exact hq2, ?_, ?_, ?_, ?_, ?_, ?_, ?_, ?_, ?_, ?_, ?_, ?_, ?_, ?_, ?_, ?_⟩ <;> first | (simp [upd]; done) | (simp [upd]; assumption) | (simp_all [upd]; done)
    | 11, ho =>
      obtain rfl := Option.some.inj ho
      refine ⟨rfl, OpW_run [40] rfl rfl fun K' hK' => ?_⟩
      simp (maxSteps := 10000000) only [go_sem, m0 (hdep 10 (by decide +kernel))]
      (try go_ints)
      (repeat refine And.intro side ?_)
      refine hK' _ ?_
      clear hK' K' ho hdep
      refine ⟨by simp_all, fun x hx => by have hq := (hb x hx).1; have hq2 := kb x hx; simp only [upd]; (repeat rw [if_neg (by omega)]); exact hq2, ?_, ?_, ?_, ?_, ?_, ?_, ?_, ?_, ?_, ?_, ?_, ?_, ?_, ?_, ?_, ?_⟩ <;> first | (simp [upd]; done) | (simp [upd]; assumption) | (simp_all [upd]; done)
    | 12, ho =>
      obtain rfl := Option.some.inj ho
      refine ⟨rfl, OpW_run [40] rfl rfl fun K' hK' => ?_⟩
      simp (maxSteps := 10000000) only [go_sem, m1 (hdep 11 (by decide +kernel))]
      (try go_ints)
      (repeat refine And.intro side ?_)
      refine hK' _ ?_
      clear hK' K' ho hdep
      refine ⟨by simp_all, fun x hx => by have hq := (hb x hx).1; have hq2 := kb x hx; simp only [upd]; (repeat rw [if_neg (by omega)]); exact hq2, ?_, ?_, ?_, ?_, ?_, ?_, ?_, ?_, ?_, ?_, ?_, ?_, ?_, ?_, ?_, ?_⟩ <;> first | (simp [upd]; done) | (simp [upd]; assumption) | (simp_all [upd]; done)
    | 13, ho =>
      obtain rfl := Option.some.inj ho
      have e9 := m9 (hdep 9 (by decide +kernel)) hd
      have e2 := m2 (hdep 12 (by decide +kernel))
      have e5 := hdep 5 (by decide +kernel)
      have e7 := hdep 7 (by decide +kernel)
      have e9' := hdep 9 (by decide +kernel)
      simp only [hd, e5, if_true, Bool.false_eq_true, if_false] at ko
      subst ko
      refine ⟨rfl, OpW_run [40] rfl rfl fun K' hK' => ?_⟩
      simp (maxSteps := 10000000) only [go_sem, e2, e9, hkk, rowB]
      (try go_ints)
      (repeat refine And.intro side ?_)
      refine hK' _ ?_
      clear hK' K' ho hdep
      refine ⟨by simp_all, fun x hx => by have hq := (hb x hx).1; have hq2 := kb x hx; simp only [upd]; (repeat rw [if_neg (by omega)]); exact hq2, ?_, ?_, ?_, ?_, ?_, ?_, ?_, ?_, ?_, ?_, ?_, ?_, ?_, ?_, ?_, ?_⟩ <;> first | (simp [upd]; done) | (simp [upd]; assumption) | (simp_all [upd, rowB]; done)
    | i + 14, ho => simp at ho
  · intro d s hd hI
    have e : ∀ i < 14, d i = true := hd
    obtain ⟨kc, kb, k6, k9, k0, k1, k2, k3, k4, k5, k7, k8, m8, m9, m0, m1, m2, ko⟩ := hI
    simp only [e 13 (by omega), e 7 (by omega), if_true] at ko
    refine hend s ⟨by simp, kb, k6, fun h => by simp at h, fun _ => k0 (e 0 (by omega)), fun _ => k1 (e 1 (by omega)), fun _ => k2 (e 2 (by omega)), fun _ => k3 (e 3 (by omega)), fun _ => k4 (e 4 (by omega)), fun _ h => by simp at h, fun _ h => by simp at h, fun _ => k8 (e 7 (by omega)), fun _ => m8 (e 8 (by omega)), fun _ h => by simp at h, fun _ => m0 (e 10 (by omega)), fun _ => m1 (e 11 (by omega)), fun _ => m2 (e 12 (by omega)), by simpa using ko⟩
end Go.AW
