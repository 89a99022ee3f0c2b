/-
Plain law: with an edge more there are no fewer walks; with a clause more, no more models.
-/
import Derived.Test.YtilaieleaiadeaaKao
import Derived.Test.YtilaieleaiadeaaKam
import Derived.Test.YtilaieleaiadeaaKan
import Derived.Test.YtilaieleaiadeaaKal
namespace Go.AW
open Go Go.Proofs TyTry Go.IntWalk
set_option linter.unusedSimpArgs false
set_option linter.unusedVariables false
theorem idxI_modify {α : Type} {p : α → Bool} {f : α → α} (h : ∀ r, p (f r) = p r) : ∀ (l : List α) (i : Nat) (k : Int), idxI p (l.modify i f) k = idxI p l k
 | [], i, k => by cases i <;> rfl
 | x :: r, 0, k => by
  simp only [List.modify_zero_cons, idxI, h]
 | x :: r, i + 1, k => by
  simp only [List.modify_succ_cons, idxI, idxI_modify h r i]
theorem findE (s : StrD) (i : Nat) (u : List Int) (name : ByteArray) : findF (putE s i u) name = findF s name := idxI_modify (p := fun q : RelD => q.name.toList == name.toList) (f := fun r => ⟨r.name, r.arity, putT r.tuples u⟩) (fun _ => rfl) _ _ _
theorem rels_E {s : StrD} {i : Nat} {u : List Int} (j : Nat) : (putE s i u).rels[j]? = if i = j then (s.rels[j]?).map (fun r => ⟨r.name, r.arity, putT r.tuples u⟩) else s.rels[j]? := by
 simp only [putE, List.getElem?_modify]
 by_cases e : i = j
 ·subst e; simp
 ·simp [e]
theorem arity2 {s : StrD} (hf : fitsR symsE s = true) {i : Nat} {r : RelD} (hi : findF s ⟨#[69]⟩ = i) (hr : s.rels[i]? = some r) : r.arity = 2 ∧ tupsOf s ⟨#[69]⟩ = r.tuples := by
 obtain ⟨j, q, e1, e2, e3, e4, e5⟩ := fitsR_one hf
 simp only at e1 e4 e5
 rw [hi] at e1
 have : i = j := by omega
 subst this
 rw [hr] at e2
 obtain rfl := Option.some.inj e2
 exact ⟨e4, e5⟩
theorem pairs {s : StrD} (hv : validF s = true) (hf : fitsR symsE s = true) {i : Nat} {r : RelD} (hi : findF s ⟨#[69]⟩ = i) (hr : s.rels[i]? = some r) : ∀ t ∈ r.tuples, Pr t ∧ ∀ x ∈ t, 0 ≤ x ∧ x < s.size := by
 obtain ⟨a, b⟩ := arity2 hf hi hr
 intro t ht
 obtain ⟨x, y, e, _, _⟩ := tupsE hv hf t (by rw [b]; exact ht)
 exact ⟨⟨x, y, e⟩, (valid_tuple hv (List.mem_of_getElem? hr) ht).2⟩
section
variable {s : StrD} (hv : validF s = true) (hf : fitsR symsE s = true) {i : Nat} {r : RelD} (hi : findF s ⟨#[69]⟩ = i) (hr : s.rels[i]? = some r) {u : List Int} (hu : Pr u) (hin : ∀ x ∈ u, 0 ≤ x ∧ x < s.size)
include hv hf hi hr hu hin
theorem valid_E : validF (putE s i u) = true := by
 obtain ⟨a, b⟩ := arity2 hf hi hr
 have hp := pairs hv hf hi hr
 have hv' := hv
 simp only [validF, Bool.and_eq_true, decide_eq_true_eq, List.all_eq_true, List.mem_range] at hv' ⊢
 have hlen : (putE s i u).rels.length = s.rels.length := by simp [putE]
 rw [hlen]
 refine ⟨hv'.1, fun j hj => ?_⟩
 have h1 := hv'.2 j hj
 have hsj : s.rels[j]? = some s.rels[j] := List.getElem?_eq_getElem hj
 rw [hsj] at h1
 rw [rels_E, hsj]
 simp only [Bool.and_eq_true, Bool.not_eq_true', List.any_eq_false] at h1
 obtain ⟨h2, h3⟩ := h1
 have hnames : ∀ q ∈ (putE s i u).rels.take j, ∃ q' ∈ s.rels.take j, q.name = q'.name := by
  intro q hq
  obtain ⟨k, hk⟩ := List.getElem?_of_mem hq
  rw [List.getElem?_take] at hk
  split at hk
  ·rename_i hkj
   rw [rels_E] at hk
   have hmem : ∀ q', s.rels[k]? = some q' → q' ∈ s.rels.take j := fun q' hq' => List.mem_of_getElem? (i := k) (by rw [List.getElem?_take, if_pos hkj]; exact hq')
   split at hk
   ·cases hz : s.rels[k]? with
    | none => rw [hz] at hk; cases hk
    | some z =>
     rw [hz] at hk
     obtain rfl := Option.some.inj hk
     exact ⟨z, hmem z hz, rfl⟩
   ·exact ⟨q, hmem q hk, rfl⟩
  ·cases hk
 have hno : ∀ n : ByteArray, n = s.rels[j].name → (((putE s i u).rels.take j).any fun q => q.name.toList == n.toList) = false := by
  rintro n rfl
  rw [List.any_eq_false]
  intro q hq
  obtain ⟨q', hq', e⟩ := hnames q hq
  rw [e]
  exact h3 q' hq'
 by_cases e : i = j
 ·subst e
  rw [if_pos rfl]
  rw [hr] at hsj
  have hre : s.rels[i] = r := (Option.some.inj hsj).symm
  rw [hre] at h2 hno ⊢
  simp only [Option.map_some]
  have h4 := hno r.name rfl
  simp only [relOk, Bool.and_eq_true, a] at h2 ⊢
  refine ⟨⟨h2.1, ?_⟩, by rw [h4]; rfl⟩
  refine tuples_of (fun t ht => ?_) (putT_sorted (fun t ht => (hp t ht).1) hu)
  rcases putT_mem.1 ht with h | h
  ·exact hp t h
  ·rw [h]; exact ⟨hu, hin⟩
 ·rw [if_neg e]
  simp only [Bool.and_eq_true]
  exact ⟨h2, by rw [hno _ rfl]; rfl⟩
end
theorem tups_E {s : StrD} (hf : fitsR symsE s = true) {i : Nat} {r : RelD} (hi : findF s ⟨#[69]⟩ = i) (hr : s.rels[i]? = some r) (u : List Int) : tupsOf (putE s i u) ⟨#[69]⟩ = putT (tupsOf s ⟨#[69]⟩) u := by
 obtain ⟨a, b⟩ := arity2 hf hi hr
 rw [b]
 simp only [tupsOf, findE, hi, Int.toNat_natCast, rels_E, if_true, hr, Option.map_some]
theorem fits_E {s : StrD} (hf : fitsR symsE s = true) {i : Nat} {r : RelD} (hi : findF s ⟨#[69]⟩ = i) (hr : s.rels[i]? = some r) (u : List Int) : fitsR symsE (putE s i u) = true := by
 obtain ⟨a, b⟩ := arity2 hf hi hr
 simp only [fitsR, symsE, List.all_cons, List.all_nil, Bool.and_true, findE, hi, Int.toNat_natCast, rels_E, if_true, hr, Option.map_some, a]
 simp
theorem eB_E {s : StrD} (hf : fitsR symsE s = true) {i : Nat} {r : RelD} (hi : findF s ⟨#[69]⟩ = i) (hr : s.rels[i]? = some r) (u : List Int) (x y : Nat) (h : eB s x y = true) : eB (putE s i u) x y = true := by
 rw [eB, decide_eq_true_eq] at h ⊢
 rw [tups_E hf hi hr]
 exact putT_mem.2 (.inl h)
theorem sumN_le {f g : Nat → Nat} : ∀ {k : Nat}, (∀ i < k, f i ≤ g i) → sumN f k ≤ sumN g k
 | 0, _ => Nat.le_refl _
 | k + 1, h => by
  rw [sumN, sumN]
  have := sumN_le (f := f) (g := g) (k := k) fun i hi => h i (by omega)
  have := h k (by omega)
  omega
theorem backN_le {E F : Nat → Nat → Bool} (h : ∀ x y, E x y = true → F x y = true) (n : Nat) : ∀ k x, backN E n k x ≤ backN F n k x
 | 0, x => Nat.le_refl _
 | k + 1, x => by
  rw [backN, backN]
  refine sumN_le fun y hy => ?_
  have := backN_le h n k y
  cases hE : E x y with
  | true => rw [h x y hE]; simpa using this
  | false => simp
def totE (s : StrD) (most : Nat) : Nat := sumN (fun i => backN (eB s) s.size.toNat i 0) (most + 1)
theorem hwA_tot {s : StrD} (hv : validF s = true) (hf : fitsR symsE s = true) (most : Nat) (hm : most ≤ 200000) : hwA s most = if totE s most ≤ 1099511627776 then .tup [.i .i64 (totE s most), .i .i64 0] else .tup [.i .i64 0, .i .i64 5] := by
 obtain ⟨z1, z2, z3⟩ := valid_size hv
 have hn : 1 ≤ s.size.toNat := by omega
 have hcode : codeF s false = 0 := codeF_ok hv (by rw [← fitsR_eq hv]; exact hf)
 have hex := hwF_exact (graphD s).1 (eB s) s.size.toNat hn (fun x hx => row_eq hv hf x hx) (most + 1) 0 (by simp [sumN])
 rw [Nat.zero_add, show ((sumN (fun i => backN (eB s) s.size.toNat i 0) 0 : Nat) : Int) = 0 from rfl] at hex
 have ht : sumN (fun i => backN (eB s) s.size.toNat i 0) (most + 1) = totE s most := rfl
 rw [hwA, if_neg (by simp [hcode]), if_neg (by omega), Int.toNat_natCast, hex, ht]
 by_cases h : totE s most ≤ 1099511627776
 ·rw [if_pos h, if_pos h]
 ·rw [if_neg h, if_neg h]
theorem tupN_mod (u : List Int) : ∀ (l : List RelD) (i : Nat), tupN (l.modify i fun r => ⟨r.name, r.arity, putT r.tuples u⟩) ≤ tupN l + 1
 | [], i => by cases i <;> simp [tupN]
 | r :: l, 0 => by
  have := putT_len r.tuples u
  simp only [List.modify_zero_cons, tupN, List.map_cons, List.sum_cons]
  omega
 | r :: l, i + 1 => by
  have := tupN_mod u l i
  simp only [List.modify_succ_cons, tupN, List.map_cons, List.sum_cons] at this ⊢
  omega
theorem cntM_more (n : Nat) (cls : List (List Int)) (l : List Int) : cntM n (cls ++ [l]) [] ≤ cntM n cls [] := by
 refine cntP_mono n fun a _ h => ?_
 simp only [satC, List.all_append, Bool.and_eq_true] at h ⊢
 exact ⟨h.1.1, h.2⟩
end Go.AW
namespace Go.AW
open Go Go.Proofs TyTry Go.IntWalk
set_option linter.unusedSimpArgs false
set_option linter.unusedVariables false
set_option maxRecDepth 10000
set_option maxHeartbeats 1000000
structure SC where
 op : Int
 many : Int
 met : Bool
def stp (tr : List Int) (s : SC) (x : Int) : SC := if isL tr x = 1 then { s with met := true } else if isL tr x = 0 then { s with op := x, many := if s.many = 0 ∨ x ≠ s.op then s.many + 1 else s.many } else s
structure ScP (tr : List Int) (l : List Int) (s : SC) : Prop where
 many : 0 ≤ s.many ∧ s.many ≤ l.length
 met : s.met = l.any fun x => isL tr x == 1
 zero : s.many = 0 ↔ ∀ x ∈ l, isL tr x ≠ 0
 one : s.many = 1 → s.op ∈ l ∧ isL tr s.op = 0 ∧ ∀ x ∈ l, isL tr x = 0 → x = s.op
theorem ScP.step {tr l : List Int} {s : SC} (h : ScP tr l s) (x : Int) : ScP tr (l ++ [x]) (stp tr s x) := by
 obtain ⟨⟨h1, h1'⟩, h2, h3, h4⟩ := h
 unfold stp
 split
 ·rename_i hx
  refine ⟨⟨h1, by simp; omega⟩, by simp [hx], ?_, fun h => ?_⟩
  ·rw [h3]
   constructor
   ·intro h y hy
    rcases List.mem_append.1 hy with q | q
    ·exact h y q
    ·rw [List.mem_singleton.1 q, hx]; decide
   ·exact fun h y hy => h y (by simp [hy])
  ·obtain ⟨a, b, c⟩ := h4 h
   refine ⟨by simp [a], b, fun y hy h0 => ?_⟩
   rcases List.mem_append.1 hy with q | q
   ·exact c y q h0
   ·rw [List.mem_singleton.1 q, hx] at h0; omega
 ·rename_i hx1
  have hf : (isL tr x == 1) = false := by simpa using hx1
  split
  ·rename_i hx
   refine ⟨⟨?_, ?_⟩, ?_, ?_, fun h => ?_⟩
   ·show 0 ≤ (if s.many = 0 ∨ x ≠ s.op then s.many + 1 else s.many)
    split <;> omega
   ·show (if s.many = 0 ∨ x ≠ s.op then s.many + 1 else s.many) ≤ _
    rw [List.length_append, List.length_singleton]
    split <;> omega
   ·rw [List.any_append, ← h2, List.any_cons, List.any_nil, hf]; simp
   ·constructor
    ·intro h
     have h : (if s.many = 0 ∨ x ≠ s.op then s.many + 1 else s.many) = 0 := h
     split at h <;> omega
    ·intro h
     exact absurd hx (h x (by simp))
   ·have h : (if s.many = 0 ∨ x ≠ s.op then s.many + 1 else s.many) = 1 := h
    refine ⟨by simp, hx, fun y hy h0 => ?_⟩
    show y = x
    rcases List.mem_append.1 hy with q | q
    ·split at h
     ·rename_i hc
      exact absurd h0 ((h3.1 (by omega)) y q)
     ·rename_i hc
      have := (h4 h).2.2 y q h0
      rw [this]
      exact (Classical.byContradiction fun hne => hc (.inr hne)).symm
    ·exact List.mem_singleton.1 q
  ·rename_i hx
   refine ⟨⟨h1, by simp; omega⟩, by simp [hf, ← h2], ?_, fun h => ?_⟩
   ·rw [h3]
    constructor
    ·intro h y hy
     rcases List.mem_append.1 hy with q | q
     ·exact h y q
     ·rw [List.mem_singleton.1 q]; exact hx
    ·exact fun h y hy => h y (by simp [hy])
   ·obtain ⟨a, b, c⟩ := h4 h
    refine ⟨by simp [a], b, fun y hy h0 => ?_⟩
    rcases List.mem_append.1 hy with q | q
    ·exact c y q h0
    ·rw [List.mem_singleton.1 q] at h0; exact absurd h0 hx
end Go.AW
namespace Go.AW
open Go Go.Proofs TyTry Go.IntWalk
set_option linter.unusedSimpArgs false
set_option linter.unusedVariables false
set_option maxRecDepth 10000
set_option maxHeartbeats 1000000
theorem leftL_nil (list : List (List Int)) : leftL list [] = lensL list := by
 apply List.ext_getElem?
 intro i
 by_cases h : i < list.length
 ·rw [leftL_get h]
  have e : ∀ l : List Int, (l.filter fun y => !([].contains (-y))) = l := fun l => by simp
  simp only [leftOf, e]
  simp [lensL, h]
 ·rw [List.getElem?_eq_none (by rw [leftL_len]; omega), List.getElem?_eq_none (by rw [lensL_len]; omega)]
theorem goodL_nil (list : List (List Int)) : goodL list [] = List.replicate list.length 0 := by
 apply List.ext_getElem?
 intro i
 by_cases h : i < list.length
 ·rw [goodL_get h]
  simp [goodOf, h]
 ·rw [List.getElem?_eq_none (by rw [goodL_len]; omega), List.getElem?_eq_none (by simp; omega)]
theorem valL_nil (n : Nat) : valL n [] = List.replicate n 0 := by
 apply List.ext_getElem?
 intro i
 by_cases h : i < n
 ·rw [valL_get h]
  simp [valOf, h]
 ·rw [List.getElem?_eq_none (by rw [valL_len]; omega), List.getElem?_eq_none (by simp; omega)]
theorem zeros_rep (n : Nat) : zeros (List.replicate n 0) = n := by simp [zeros]
theorem TrOk_nil (n : Nat) : TrOk n [] := ⟨by simp, by simp, by simp⟩
theorem Quiet_nil (list : List (List Int)) : Quiet list [] := by
 intro i hi hne _
 have e : ∀ l : List Int, (l.filter fun y => !([].contains (-y))) = l := fun l => by simp
 simp only [leftOf, e]
 exact fun h => hne (List.eq_nil_of_length_eq_zero h)
def envB (vars : Nat) (list : List (List Int)) (first : Bool) (es : List (AV × AV)) : Env := ⟨vars, list, first, es, lavL list⟩
theorem W2.rep {n0 vars : Nat} {first : Bool} {list : List (List Int)} {G L : Nat} {es : List (AV × AV)} {o : List Ob} (h : W2 n0 vars first list G (.ref L 0 list.length) (lensL list) (innOf list) es o) :
  RepG o (n0 + 3) ⟨n0 + 1, L, G, n0 + 2⟩ (envB vars list first es) .nsl (canon (envB vars list first es) [] 0 .nsl 0 false) := by
 rcases h.l with ⟨q, _⟩ | ⟨Lf, q, q2, q3, q4⟩
 ·cases q
 simp only [AV.ref.injEq] at q
 obtain ⟨rfl, _, _⟩ := q
 refine ⟨h.ok, ?_, h.m, ?_, ?_, ?_, .inl q3, q4, h.gv, leftL_len _ _, goodL_len _ _, valL_len _ _, .inl ⟨rfl, rfl⟩, fun x => ?_, rfl, rfl, rfl⟩
 ·rw [h.k]
  simp [row2, rowK, envB, canon, goodL_nil, zeros_rep]
 ·simp only [canon, envB, leftL_nil]; exact q2
 ·simp only [canon, envB, goodL_nil]; exact h.g
 ·simp only [canon, envB, valL_nil]; exact h.v
 ·refine (h.inn x).imp id fun ⟨I, r1, r2, r3, r4, r5⟩ => ⟨I, r1, r2, fun e => r5 list.length (by rw [e]), r3, r4, fun T l e => by cases e⟩
theorem tab_le2 {t : Nat → AV} {l : List (Nat × AV)} (h : ∀ x ∈ l, Le (t x.1) x.2) (k : Nat) : Le (t k) (tab l k) := by
 unfold tab
 cases hf : l.find? (fun x => x.1 == k) with
 | none => exact Le.any _
 | some x =>
  have h1 := List.find?_some hf
  have h2 := List.mem_of_find?_eq_some hf
  simp only [beq_iff_eq] at h1
  rw [← h1]
  exact h x h2
theorem W2.fin {P : Program} {n n0 vars : Nat} {first : Bool} {list : List (List Int)} {G : Nat} {lv : AV} {es : List (AV × AV)} {o : List Ob} (h : W2 n0 vars first list G lv (lensL list) (innOf list) es o) {code : Code} {Q : Exit → St → Prop} {t : Nat → AV}
  (hk : ∀ d o', RepG o' (n0 + 3) d (envB vars list first es) .nsl (canon (envB vars list first es) [] 0 .nsl 0 false) → o.length ≤ o'.length → W P n code Q ⟨t, o'⟩) : W P n code Q ⟨t, o⟩ := by
 have lG := (List.getElem?_eq_some_iff.1 h.g).1
 have lK := (List.getElem?_eq_some_iff.1 h.k).1
 rcases h.l with ⟨rfl, hl⟩ | ⟨Lf, rfl, _⟩
 ·have hl0 : list = [] := by
   have := congrArg List.length hl
   rw [lensL_len] at this
   exact List.eq_nil_of_length_eq_zero this
  subst hl0
  refine W_nil0 (n0 + 3) G 3 h.k lG rfl (by simp [row2, lavL, AV.isOwn]) (hk ⟨n0 + 1, G, G, n0 + 2⟩ _ ?_ (by simp))
  have hs : ∀ (X : Ob) (j : Nat), (o.set (n0 + 3) X)[j]? = if j = n0 + 3 then some X else o[j]? := fun X j => set_get h.k
  have hGK : G ≠ n0 + 3 := by intro e; have := h.g; rw [e, h.k] at this; simp at this
  refine ⟨okO_set h.ok (row2_ltk (lv := .ref G 0 0) lK lG (by simp [AV.ltk, lG])), ?_, ?_, ?_, ?_, ?_, .inr rfl, h.gv, h.gv, leftL_len _ _, goodL_len _ _, valL_len _ _, .inl ⟨rfl, rfl⟩, fun x => ?_, rfl, rfl, rfl⟩
  ·rw [hs, if_pos rfl]
   simp [row2, rowK, envB, canon, goodL, zeros, lavL]
  ·rw [hs, if_neg (by simp)]; exact h.m
  ·rw [hs, if_neg hGK]; exact h.g
  ·rw [hs, if_neg hGK]; exact h.g
  ·rw [hs, if_neg (by simp)]
   simp only [canon, envB, valL_nil]; exact h.v
  ·refine (h.inn x).imp id fun ⟨I, r1, r2, r3, r4, r5⟩ => ⟨I, r1, ?_, r3, r3, r4, fun T l e => by cases e⟩
   have : I ≠ n0 + 3 := by intro e; rw [e, h.k] at r2; simp at r2
   rw [hs, if_neg this]; exact r2
 ·rw [lensL_len] at h
  exact hk _ o h.rep (Nat.le_refl _)
theorem begin_spec {vars : Nat} {cls : List (List Int)} {first : Bool} (hv : vars ≤ 20000) (hcl : cls.length ≤ 20000) (hll : ∀ l ∈ cls, l.length ≤ 200000) (hlit : ∀ l ∈ cls, ∀ x ∈ l, LitOk vars x)
  (hsum : ∀ x, (innOf (cls.map cln) x).length ≤ 200000) (o : List Ob) (hok : okO o = true) :
  ACalls Try.prog 64 [.agg [.i .i64 vars, .sl 1 (tups cls)], .b first] o fun r o' => ∃ (d : IdS) (es : List (AV × AV)) (ok : Bool), r = .tup [.ptr (o.length + 3) 0 0, .b ok] ∧
   EnvOk (envB vars (cls.map cln) first es) ∧ U3 (o.length + 3) d (envB vars (cls.map cln) first es) cls.length ok o' ∧ o.length ≤ o'.length := by
 have hlen : (cls.map cln).length = cls.length := List.length_map ..
 have hll2 : ∀ l ∈ cls.map cln, l.length ≤ 200000 := by
  intro l hl
  obtain ⟨l', h1, rfl⟩ := List.mem_map.1 hl
  exact Nat.le_trans (cln_len l') (hll l' h1)
 have hlit2 : ∀ l ∈ cls.map cln, ∀ x ∈ l, LitOk vars x := by
  intro l hl x hx
  obtain ⟨l', h1, rfl⟩ := List.mem_map.1 hl
  exact hlit l' h1 x ((cln_mem l' x).1 hx)
 have henv : ∀ es, EnvOk (envB vars (cls.map cln) first es) := fun es => ⟨hv, by rw [← hlen] at hcl; exact hcl, hlit2, hsum, hll2, by
  simp only [envB, lavL]
  split
  ·rename_i e; exact .inr ⟨rfl, e⟩
  ·exact .inl rfl⟩
 refine ACalls_of' (n := 152) (rs := [.tmp 4, .tmp 5]) (show Try.prog.funcs[64]? = some Try.f64 by kernel_rfl) rfl rfl rfl (by simp) (by decide +kernel) ?_
 repeat (first | refine nav ?_ | refine bo ?_)
 (refine wr fun K R hK hR => ?_; simp (maxSteps := 10000000) only [go_sem]; (try go_ints); (repeat refine And.intro side ?_); (first | refine hK _ ?_ | refine hR _ _ ?_); clear hK hR K R)
 repeat (first | refine nav ?_ | refine bo ?_)
 (refine W_reg [1000000] fun K R hK hR => ?_; simp (maxSteps := 10000000) only [go_sem]; (try go_ints); (repeat refine And.intro side ?_); (first | refine hK _ ?_ | refine hR _ _ ?_); clear hK hR K R)
 repeat (first | refine nav ?_ | refine bo ?_)
 (refine wr fun K R hK hR => ?_; simp (maxSteps := 10000000) only [go_sem]; (try go_ints); (repeat refine And.intro side ?_); (first | refine hK _ ?_ | refine hR _ _ ?_); clear hK hR K R)
 repeat (first | refine nav ?_ | refine bo ?_)
 have hrep : ints (List.replicate vars 0) = List.replicate vars [AV.i .i64 0] := by simp [ints]
 refine loop1 (by rfl) (n0 := o.length) (vars := vars) (cls := cls) (first := first) hv hcl hll ⟨?_, ?_, ?_, ?_, ?_⟩ ?_ ?_ ?_
 ·refine okO_app hok ?_
  simp [Ob.ltk, AV.ltk, AV.ltks]
 ·simp
 ·rw [List.getElem?_append_right (by omega)]; simp
 ·rw [List.getElem?_append_right (by omega), hrep]; simp
 ·rw [List.getElem?_append_right (by omega)]; simp [rowB, lavL]
 ·rfl
 ·intro y hy
  simp only [outB, List.mem_cons, List.not_mem_nil, or_false] at hy
  rcases hy with rfl | rfl | rfl | rfl <;> rfl
 intro t1 o1 w1
 repeat (first | refine nav ?_ | refine bo ?_)
 have lB := (List.getElem?_eq_some_iff.1 w1.b).1
 have lK := (List.getElem?_eq_some_iff.1 w1.k).1
 have hs : ∀ (X : Ob) (j : Nat), (o1.set (o.length + 3) X)[j]? = if j = o.length + 3 then some X else o1[j]? := fun X j => set_get w1.k
 have hsb : ∀ X : Ob, (o1.set (o.length + 3) X)[o.length]? = some (.cells 2 [[.i .i64 vars, .sl 1 (tups cls)]]) := fun X => by rw [hs, if_neg (by omega)]; exact w1.b
 have hsk : ∀ X : Ob, (o1.set (o.length + 3) X)[o.length + 3]? = some X := fun X => by rw [hs, if_pos rfl]
 refine W_joinS 49 55 [] (fun t o' => o' = o1.set (o.length + 3) (.cells 13 [[.i .i64 vars, lavL (cls.map cln), .mp (o.length + 1), .nsl, .nsl, .i .i64 0, .ref (o.length + 2) 0 vars, .nsl, .i .i64 0, .b first, .nsl, .i .i64 0, .b false]])) ?_ ?_
 ·(refine wr fun K R hK hR => ?_; simp (maxSteps := 10000000) only [go_sem, outB, w1.b, w1.k, rowB]; (try go_ints); (try simp only [go_sem, outB, w1.b, w1.k, rowB]); (repeat refine And.intro side ?_); (first | refine hK _ ?_ | refine hR _ _ ?_); clear hK hR K R)
  exact ⟨_, rfl, rfl⟩
 rintro t2 o2 ho2
 rw [ho2]
 clear ho2 o2
 repeat (first | refine nav ?_ | refine bo ?_)
 refine W_joinS 55 61 [] (fun t o' => o' = o1.set (o.length + 3) (.cells 13 [[.i .i64 vars, lavL (cls.map cln), .mp (o.length + 1), .nsl, .nsl, .i .i64 cls.length, .ref (o.length + 2) 0 vars, .nsl, .i .i64 0, .b first, .nsl, .i .i64 0, .b false]])) ?_ ?_
 ·(refine wr fun K R hK hR => ?_; simp (maxSteps := 10000000) only [go_sem, outB, hsb, hsk]; (try go_ints); (try simp only [go_sem, outB, hsb, hsk]); (repeat refine And.intro side ?_); (first | refine hK _ ?_ | refine hR _ _ ?_); clear hK hR K R)
  exact ⟨_, rfl, by rw [List.set_set]; rfl⟩
 rintro t3 o3 ho3
 rw [ho3]
 clear ho3 o3
 repeat (first | refine nav ?_ | refine bo ?_)
 have hcell : ∀ (X Y : Ob), ((o1.set (o.length + 3) X) ++ [Y])[o.length + 3]? = some X := fun X Y => app_get [Y] (hsk X)
 have hl1 : (o1.set (o.length + 3) (Ob.cells 13 [[.i .i64 vars, lavL (cls.map cln), .mp (o.length + 1), .nsl, .nsl, .i .i64 cls.length, .ref (o.length + 2) 0 vars, .nsl, .i .i64 0, .b first, .nsl, .i .i64 0, .b false]])).length = o1.length := List.length_set ..
 refine W_joinS 61 68 [] (fun t o' => o' = (o1 ++ [Ob.cells 1 (ints (List.replicate cls.length 0))]).set (o.length + 3) (.cells 13 [[.i .i64 vars, lavL (cls.map cln), .mp (o.length + 1), .nsl, .ref o1.length 0 cls.length, .i .i64 cls.length, .ref (o.length + 2) 0 vars, .nsl, .i .i64 0, .b first, .nsl, .i .i64 0, .b false]])) ?_ ?_
 ·(refine wr fun K R hK hR => ?_; simp (maxSteps := 10000000) only [go_sem, outB, hsb, hcell, hl1]; (try go_ints); (try simp only [go_sem, outB, hsb, hcell, hl1]); (repeat refine And.intro side ?_); (first | refine hK _ ?_ | refine hR _ _ ?_); clear hK hR K R)
  refine ⟨_, rfl, ?_⟩
  have hrep2 : ints (List.replicate cls.length 0) = List.replicate cls.length [AV.i .i64 0] := by simp [ints]
  rw [hrep2, List.set_append_left _ _ lK, List.set_append_left _ _ (by rw [List.length_set]; exact lK), List.set_set]
  rfl
 rintro t4 o4 ho4
 repeat (first | refine nav ?_ | refine bo ?_)
 have w2 : W2 o.length vars first (cls.map cln) o1.length .nsl [] (fun _ => []) [] o4 := by
  have kk : (o1 ++ [Ob.cells 1 (ints (List.replicate cls.length 0))])[o.length + 3]? = _ := app_get _ w1.k
  have hs4 : ∀ (X : Ob) (j : Nat), ((o1 ++ [Ob.cells 1 (ints (List.replicate cls.length 0))]).set (o.length + 3) X)[j]? = if j = o.length + 3 then some X else (o1 ++ [Ob.cells 1 (ints (List.replicate cls.length 0))])[j]? := fun X j => set_get kk
  rw [ho4]
  refine ⟨okO_set (okO_app w1.ok (by rw [List.all_cons, List.all_nil, Bool.and_true]; exact ints_ltk _ _)) ?_, ?_, ?_, ?_, .inl ⟨rfl, rfl⟩, ?_, ?_, by omega, fun x => .inl ⟨rfl, rfl⟩, fun x y I a b h => by cases h⟩
  ·have := row2_ltk (n := o1.length + 1) (n0 := o.length) (vars := vars) (G := o1.length) (list := cls.map cln) (first := first) (lv := .nsl) (by omega) (by omega) rfl
   rw [row2, hlen] at this
   simpa using this
  ·rw [hs4, if_pos rfl, row2, hlen]
  ·rw [hs4, if_neg (by omega)]; exact app_get _ w1.m
  ·simp [AllI]
  ·rw [hs4, if_neg (by omega), hlen]; simp
  ·rw [hs4, if_neg (by omega)]; exact app_get _ w1.v
 have hlo4 : o.length ≤ o4.length := by rw [ho4]; simp; omega
 clear ho4 w1 hs hsb hsk hcell hl1 lB lK
 have hk4 := w2.k
 refine W_joinS 68 75 [] (fun t o' => o' = o4 ∧ Le (t 72) (.sl 1 (tups (cls.map cln))) ∧ t 73 = .i .i64 cls.length ∧ t 74 = .i .i64 0) ?_ ?_
 ·rcases lavL_or (cls.map cln) with ⟨e, e2⟩ | e
  ·have hn : cls = [] := by
    have := congrArg List.length e2
    rw [tups_len, hlen] at this
    exact List.eq_nil_of_length_eq_zero this
   subst hn
   have e : lavL [] = .nsl := e
   (refine wr fun K R hK hR => ?_; simp (maxSteps := 10000000) only [go_sem, outB, hk4, row2, e, List.map_nil]; (try go_ints); (try simp only [go_sem, outB, hk4, row2, e, List.map_nil]); (repeat refine And.intro side ?_); (first | refine hK _ ?_ | refine hR _ _ ?_); clear hK hR K R)
   exact ⟨_, rfl, rfl, Le.nsl 1, rfl, rfl⟩
  ·(refine wr fun K R hK hR => ?_; simp (maxSteps := 10000000) only [go_sem, outB, hk4, row2, e]; (try go_ints); (try simp only [go_sem, outB, hk4, row2, e]); (repeat refine And.intro side ?_); (first | refine hK _ ?_ | refine hR _ _ ?_); clear hK hR K R)
   exact ⟨_, rfl, rfl, Le.refl _, by simp only [go_sem, hlen], rfl⟩
 rintro t5 o5 ⟨rfl, h72, h73, h74⟩
 repeat (first | refine nav ?_ | refine bo ?_)
 refine W_weak (s' := ⟨tab ((74, .i .i64 0) :: outC o.length (cls.map cln)), o5⟩) (tab_le2 fun y hy => ?_) rfl ?_
 ·simp only [outC, List.mem_cons, List.not_mem_nil, or_false] at hy
  rcases hy with rfl | rfl | rfl | rfl
  ·exact Le.of_eq (by simp only [go_sem, h74])
  ·exact Le.of_eq (by simp only [go_sem, outB])
  ·have : mix 68 75 [] t5 (mix 61 68 [] t4 (mix 55 61 [] t3 (mix 49 55 [] t2 (mix 28 49 [8, 9, 27] t1 (tab (outB o.length cls)))))) 72 = t5 72 := by simp only [go_sem]
   simp only [this]
   exact h72
  ·exact Le.of_eq (by simp only [go_sem, h73, hlen])
 refine loop2 (by rfl) hll2 (by rw [hlen]; exact hcl) hsum hlit2 hv w2 rfl ?_ ?_
 ·intro y hy
  simp only [outC, List.mem_cons, List.not_mem_nil, or_false] at hy
  rcases hy with rfl | rfl | rfl <;> rfl
 intro t6 o6 es lv w6 
 repeat (first | refine nav ?_ | refine bo ?_)
 have l6 := (List.getElem?_eq_some_iff.1 w6.k).1
 refine w6.fin fun d o7 hr hl7 => ?_
 clear w6 w2 hk4
 (refine wr fun K R hK hR => ?_; simp (maxSteps := 10000000) only [go_sem, outC]; (try go_ints); (try simp only [go_sem, outC]); (repeat refine And.intro side ?_); (first | refine hK _ ?_ | refine hR _ _ ?_); clear hK hR K R)
 repeat (first | refine nav ?_ | refine bo ?_)
 have hk7 := hr.k
 refine W_joinS 112 119 [] (fun t o' => o' = o7 ∧ Le (t 116) (.sl 1 (tups (cls.map cln))) ∧ t 117 = .i .i64 cls.length ∧ t 118 = .i .i64 0) ?_ ?_
 ·rcases lavL_or (cls.map cln) with ⟨e, e2⟩ | e
  ·have hn : cls = [] := by
    have := congrArg List.length e2
    rw [tups_len, hlen] at this
    exact List.eq_nil_of_length_eq_zero this
   subst hn
   have e : lavL [] = .nsl := e
   (refine wr fun K R hK hR => ?_; simp (maxSteps := 10000000) only [go_sem, outC, hk7, rowK, envB, e, List.map_nil]; (try go_ints); (try simp only [go_sem, outC, hk7, rowK, envB, e, List.map_nil]); (repeat refine And.intro side ?_); (first | refine hK _ ?_ | refine hR _ _ ?_); clear hK hR K R)
   exact ⟨_, rfl, rfl, Le.nsl 1, rfl, rfl⟩
  ·(refine wr fun K R hK hR => ?_; simp (maxSteps := 10000000) only [go_sem, outC, hk7, rowK, envB, e]; (try go_ints); (try simp only [go_sem, outC, hk7, rowK, envB, e]); (repeat refine And.intro side ?_); (first | refine hK _ ?_ | refine hR _ _ ?_); clear hK hR K R)
   exact ⟨_, rfl, rfl, Le.refl _, by simp only [go_sem, hlen], rfl⟩
 rintro t8 o8 ⟨e8, h116, h117, h118⟩
 rw [e8]
 clear e8 o8
 repeat (first | refine nav ?_ | refine bo ?_)
 refine W_weak (s' := ⟨tab ((14, .b true) :: (118, .i .i64 0) :: outE (o.length + 3) (cls.map cln)), o7⟩) (tab_le2 fun y hy => ?_) rfl ?_
 ·simp only [outE, List.mem_cons, List.not_mem_nil, or_false] at hy
  rcases hy with rfl | rfl | rfl | rfl | rfl
  ·exact Le.of_eq (by simp only [go_sem])
  ·exact Le.of_eq (by simp only [go_sem, h118])
  ·exact Le.of_eq (by simp only [go_sem, outC])
  ·refine (Le.of_eq ?_).trans h116 rfl
   simp only [go_sem]
  ·exact Le.of_eq (by simp only [go_sem, h117, hlen])
 refine loop3 (by rfl) (c := envB vars (cls.map cln) first es) (henv es) ⟨⟨[], .nsl, hr, TrOk_nil _, fun _ => ⟨Quiet_nil _, fun a _ => by simp [agr]⟩⟩, fun _ l hl => by simp at hl, fun h => by cases h⟩ rfl rfl ?_ ?_
 ·intro y hy
  simp only [outE, List.mem_cons, List.not_mem_nil, or_false] at hy
  rcases hy with rfl | rfl | rfl <;> rfl
 intro t9 o9 ok hu h14 hl9
 repeat (first | refine nav ?_ | refine bo ?_)
 (refine wr fun K R hK hR => ?_; simp (maxSteps := 10000000) only [go_sem, outE, h14]; (try go_ints); (try simp only [go_sem, outE, h14]); (repeat refine And.intro side ?_); (first | refine hK _ ?_ | refine hR _ _ ?_); clear hK hR K R)
 repeat (first | refine nav ?_ | refine bo ?_)
 obtain ⟨tr, ta, hr9, _⟩ := hu.run
 have hc9 : (envB vars (cls.map cln) first es).list.length = cls.length := hlen
 have l9 := (List.getElem?_eq_some_iff.1 hr9.k).1
 have h09 : o.length ≤ o9.length := by omega
 refine endQ_all (by simp only [go_sem] <;> exact rfl) (Le.refl _) h09 hr9.ok (by simp only [AV.ltk, AV.ltks, Bool.and_true, decide_eq_true_eq]; exact l9) ⟨d, es, ok, rfl, henv es, by rw [hc9] at hu; exact hu, by omega⟩
end Go.AW
namespace Go.AW
open Go Go.Proofs TyTry Go.IntWalk
set_option linter.unusedSimpArgs false
set_option linter.unusedVariables false
set_option maxRecDepth 10000
set_option maxHeartbeats 1000000
def badL (vars : Int) (x : Int) : Bool := x == 0 || decide (x > vars) || decide (x < -vars)
def litsOk (vars : Int) (cls : List (List Int)) : Bool := cls.all fun l => !(l.any (badL vars))
def validC (vars : Int) (cls : List (List Int)) : Bool := decide (0 ≤ vars) && decide (vars ≤ 20000) && litsOk vars cls
def sumL (cls : List (List Int)) : Nat := (cls.map List.length).sum
theorem sumL_app (a b : List (List Int)) : sumL (a ++ b) = sumL a + sumL b := by simp [sumL]
theorem sumL_take (cls : List (List Int)) (i : Nat) : sumL (cls.take i) ≤ sumL cls := by
 conv => rhs; rw [← List.take_append_drop i cls, sumL_app]
 omega
theorem sumL_get {cls : List (List Int)} {i : Nat} {l : List Int} (h : cls[i]? = some l) : sumL (cls.take (i + 1)) = sumL (cls.take i) + l.length := by
 rw [List.take_add_one, h, sumL_app]
 simp [sumL]
theorem validC_lit {vars : Nat} {cls : List (List Int)} (h : validC vars cls = true) : vars ≤ 20000 ∧ ∀ l ∈ cls, ∀ x ∈ l, LitOk vars x := by
 simp only [validC, Bool.and_eq_true, decide_eq_true_eq, litsOk, List.all_eq_true, Bool.not_eq_true', List.any_eq_false, badL, Bool.or_eq_true, beq_iff_eq, not_or] at h
 refine ⟨by omega, fun l hl x hx => ?_⟩
 obtain ⟨⟨a, b⟩, c⟩ := h.2 l hl x hx
 exact ⟨a, by omega, by omega⟩
theorem valid1_ {oc : List Ob} (ho : okO oc = true) {i : Nat} {vars x : Int} {a : AV} (hi : oc[i]? = some (.cells 2 [[.i .i64 vars, a]])) (h0 : 0 ≤ vars) (h1 : vars ≤ 20000) :
  ACallsQ Try.prog 48 [.i .i64 x, .ptr i 0 0] oc (.b (badL vars x)) := by
 refine ACalls_of' (n := 19) (rs := [.tmp 3]) (show Try.prog.funcs[48]? = some Try.f48 by kernel_rfl) rfl rfl rfl (by simp) (by decide +kernel) ?_
 repeat (first | refine nav ?_ | refine bo ?_)
 (refine wr fun K R hK hR => ?_; simp (maxSteps := 10000000) only [go_sem]; (try go_ints); (repeat refine And.intro side ?_); (first | refine hK _ ?_ | refine hR _ _ ?_); clear hK hR K R)
 repeat (first | refine nav ?_ | refine bo ?_)
 (refine wr fun K R hK hR => ?_; simp (maxSteps := 10000000) only [go_sem, hi]; (try go_ints); (try simp only [go_sem, hi]); (repeat refine And.intro side ?_); (first | refine hK _ ?_ | refine hR _ _ ?_); clear hK hR K R)
 repeat (first | refine nav ?_ | refine bo ?_)
 refine endQ_quiet0 (by simp only [go_sem] <;> exact rfl) (Le.of_eq ?_) (by assumption) rfl
 simp only [badL]
 by_cases h : x = 0
 ·simp [h]
 ·by_cases h2 : x > vars
  ·simp [h, h2]
  ·simp [h, h2]
theorem validC_spec {vars : Int} {cls : List (List Int)} (hn : cls.length ≤ 10000) (hs : sumL cls ≤ 10000) : ACallsD Try.prog 23 [.agg [.i .i64 vars, .sl 1 (tups cls)]] (.b (validC vars cls)) := by
 have hlk := sumL_take cls
 refine ACalls_of' (n := 37) (rs := [.tmp 2]) (show Try.prog.funcs[23]? = some Try.f23 by kernel_rfl) rfl rfl rfl (by simp) (by decide +kernel) ?_
 repeat (first | refine nav ?_ | refine bo ?_)
 (refine wr fun K R hK hR => ?_; simp (maxSteps := 10000000) only [go_sem]; (try go_ints); (repeat refine And.intro side ?_); (first | refine hK _ ?_ | refine hR _ _ ?_); clear hK hR K R)
 repeat (first | refine nav ?_ | refine bo ?_)
 (refine wr fun K R hK hR => ?_; simp (maxSteps := 10000000) only [go_sem]; (try go_ints); (repeat refine And.intro side ?_); (first | refine hK _ ?_ | refine hR _ _ ?_); clear hK hR K R)
 repeat (first | refine nav ?_ | refine bo ?_)
 refine W_cond (by simp only [go_sem] <;> exact rfl) (fun hb => ?_) (fun hb => ?_)
 ·repeat (first | refine nav ?_ | refine bo ?_)
  (refine wr fun K R hK hR => ?_; simp (maxSteps := 10000000) only [go_sem]; (try go_ints); (repeat refine And.intro side ?_); (first | refine hK _ ?_ | refine hR _ _ ?_); clear hK hR K R)
  repeat (first | refine nav ?_ | refine bo ?_)
  refine endQ_data (by simp only [go_sem] <;> exact rfl) (Le.of_eq ?_) rfl
  simp only [Bool.or_eq_true, decide_eq_true_eq] at hb
  have : ¬ (0 ≤ vars ∧ vars ≤ 20000) := by omega
  simp only [validC]
  congr 1
  symm
  rw [Bool.and_eq_false_iff]
  left
  simp only [Bool.and_eq_false_iff, decide_eq_false_iff_not]
  omega
 ·simp only [Bool.or_eq_false_iff, decide_eq_false_iff_not] at hb
  have hv0 : 0 ≤ vars := by omega
  have hv1 : vars ≤ 20000 := by omega
  have hval : validC vars cls = litsOk vars cls := by simp [validC, hv0, hv1]
  rw [hval]
  repeat (first | refine nav ?_ | refine bo ?_)
  (refine wr fun K R hK hR => ?_; simp (maxSteps := 10000000) only [go_sem]; (try go_ints); (repeat refine And.intro side ?_); (first | refine hK _ ?_ | refine hR _ _ ?_); clear hK hR K R)
  repeat (first | refine nav ?_ | refine bo ?_)
  (refine wr fun K R hK hR => ?_; simp (maxSteps := 10000000) only [go_sem]; (try go_ints); (repeat refine And.intro side ?_); (first | refine hK _ ?_ | refine hR _ _ ?_); clear hK hR K R)
  repeat (first | refine nav ?_ | refine bo ?_)
  refine W_for 24 37 [3, 5, 23] (fun m t o => ∃ i : Nat, o = [Ob.cells 2 [[.i .i64 vars, .sl 1 (tups cls)]]] ∧ t 3 = .i .i64 (sumL (cls.take i)) ∧ t 23 = .i .i64 i ∧ m = cls.length - i ∧ i ≤ cls.length ∧ litsOk vars (cls.take i) = true) cls.length ⟨0, rfl, by simp only [go_sem] <;> simp [sumL], by simp only [go_sem] <;> rfl, rfl, by omega, by simp [litsOk]⟩ ?_
  rintro m t o ⟨i, rfl, h3, h23, rfl, hi, hok⟩
  repeat (first | refine nav ?_ | refine bo ?_)
  (refine wr fun K R hK hR => ?_; simp (maxSteps := 10000000) only [go_sem, h23]; (try go_ints); (try simp only [go_sem, h23]); (repeat refine And.intro side ?_); (first | refine hK _ ?_ | refine hR _ _ ?_); clear hK hR K R)
  repeat (first | refine nav ?_ | refine bo ?_)
  refine W_cond (by simp only [go_sem] <;> exact rfl) (fun hb => ?_) (fun hb => ?_)
  ·have hb : i < cls.length := by simpa using hb
   obtain ⟨l, hl⟩ : ∃ l, cls[i]? = some l := ⟨_, List.getElem?_eq_getElem hb⟩
   have hsl := sumL_get hl
   have hs1 := hlk (i + 1)
   repeat (first | refine nav ?_ | refine bo ?_)
   (refine wr fun K R hK hR => ?_; simp (maxSteps := 10000000) only [go_sem, h23, tups_get hl]; (try go_ints); (try simp only [go_sem, h23, tups_get hl]); (repeat refine And.intro side ?_); (first | refine hK _ ?_ | refine hR _ _ ?_); clear hK hR K R)
   repeat (first | refine nav ?_ | refine bo ?_)
   (refine wr fun K R hK hR => ?_; simp (maxSteps := 10000000) only [go_sem, h3]; (try go_ints); (try simp only [go_sem, h3]); (repeat refine And.intro side ?_); (first | refine hK _ ?_ | refine hR _ _ ?_); clear hK hR K R)
   repeat (first | refine nav ?_ | refine bo ?_)
   (refine wr fun K R hK hR => ?_; simp (maxSteps := 10000000) only [go_sem]; (try go_ints); (repeat refine And.intro side ?_); (first | refine hK _ ?_ | refine hR _ _ ?_); clear hK hR K R)
   repeat (first | refine nav ?_ | refine bo ?_)
   refine W_cond (b := false) (by simp only [go_sem]; congr 1; simp; omega) (fun hb => by cases hb) (fun _ => ?_)
   repeat (first | refine nav ?_ | refine bo ?_)
   have hall : okO [Ob.cells 2 [[.i .i64 vars, .sl 1 (tups cls)]]] = true := rfl
   (refine wr fun K R hK hR => ?_; simp (maxSteps := 10000000) only [go_sem]; (try go_ints); (repeat refine And.intro side ?_); (first | refine hK _ ?_ | refine hR _ _ ?_); clear hK hR K R)
   refine RL_callQ (containsInt_spec (f := 48) (caps := [.ptr 0 0 0]) hall (by simp [AV.ltk]) rfl (badL vars) l (by omega) (fun x hx => valid1_ hall (i := 0) rfl hv0 hv1)) (by simp only [go_sem] <;> exact rfl) rfl rfl (by simp) (by simp only [go_sem] <;> exact LeA.refl _) rfl ?_ rfl ?_
   ·simp [AV.ltk, AV.ltks]
   (refine rr fun K R hK hR => ?_; simp (maxSteps := 10000000) only [go_sem]; (try go_ints); (repeat refine And.intro side ?_); (first | refine hK _ ?_ | refine hR _ _ ?_); clear hK hR K R)
   repeat (first | refine nav ?_ | refine bo ?_)
   have htk : litsOk vars (cls.take (i + 1)) = !(l.any (badL vars)) := by
    rw [List.take_add_one, hl]
    simp only [litsOk, List.all_append, Option.toList_some, List.all_cons, List.all_nil, Bool.and_true]
    rw [show (cls.take i).all (fun l => !(l.any (badL vars))) = true from hok, Bool.true_and]
   refine W_cond (b := l.any (badL vars)) (by simp only [go_sem]) (fun hb2 => ?_) (fun hb2 => ?_)
   ·repeat (first | refine nav ?_ | refine bo ?_)
    (refine wr fun K R hK hR => ?_; simp (maxSteps := 10000000) only [go_sem]; (try go_ints); (repeat refine And.intro side ?_); (first | refine hK _ ?_ | refine hR _ _ ?_); clear hK hR K R)
    repeat (first | refine nav ?_ | refine bo ?_)
    refine endQ_data (by simp only [go_sem] <;> exact rfl) (Le.of_eq ?_) rfl
    congr 1
    symm
    rw [litsOk, List.all_eq_false]
    exact ⟨l, List.mem_of_getElem? hl, by rw [hb2]; simp⟩
   ·repeat (first | refine nav ?_ | refine bo ?_)
    (refine wr fun K R hK hR => ?_; simp (maxSteps := 10000000) only [go_sem, h23]; (try go_ints); (try simp only [go_sem, h23]); (repeat refine And.intro side ?_); (first | refine hK _ ?_ | refine hR _ _ ?_); clear hK hR K R)
    repeat (first | refine nav ?_ | refine bo ?_)
    refine forQ_normal (cls.length - (i + 1)) (by omega) ⟨i + 1, rfl, ?_, ?_, rfl, by omega, by rw [htk, hb2]; rfl⟩
    ·simp only [go_sem]
     congr 1
     omega
    ·simp only [go_sem] <;> simp
  ·have hb : ¬ i < cls.length := by simpa using hb
   obtain rfl : i = cls.length := by omega
   rw [List.take_length] at hok
   repeat (first | refine nav ?_ | refine bo ?_)
   (refine wr fun K R hK hR => ?_; simp (maxSteps := 10000000) only [go_sem]; (try go_ints); (repeat refine And.intro side ?_); (first | refine hK _ ?_ | refine hR _ _ ?_); clear hK hR K R)
   repeat (first | refine nav ?_ | refine bo ?_)
   refine endQ_data (by simp only [go_sem] <;> exact rfl) (Le.of_eq ?_) rfl
   rw [hok]
end Go.AW
namespace Go.AW
open Go Go.Proofs TyTry Go.IntWalk
set_option linter.unusedSimpArgs false
set_option linter.unusedVariables false
set_option maxRecDepth 10000
set_option maxHeartbeats 1000000
theorem ACalls.frameR {P : Program} {f : FuncId} {ac : List AV} {R : AV → Prop} (h : ACalls P f ac [] fun r o' => R r ∧ o' = []) (hac : ac.all (AV.ltk 0) = true) (hr : ∀ r, R r → r.ltk 0 = true) (oc : List Ob) : ACalls P f ac oc fun r o' => R r ∧ o' = oc := by
 refine ⟨h.1, fun w Z m reg vs hlen hrel => ?_⟩
 have H := Hand.none oc
 have hd := hrel.down H (S := 0) (n := ac.length) (ac := fun k => ac.getD k .any) (fun k hk => by
  simp only [Nat.zero_add]
  have hl : (ac.getD k .any).ltk 0 = true := by
   rw [List.getD_eq_getElem?_getD, List.getElem?_eq_getElem hk]
   exact List.all_eq_true.1 hac _ (List.getElem_mem hk)
  refine ⟨?_, hl⟩
  conv => lhs; rw [← ren_self (ac.getD k .any)]
  exact ren_congr (n := 0) (fun j hj => by omega) _ hl)
 have e1 : (fun k => if k < ac.length then ac.getD k .any else AV.any) = fun k => ac.getD k .any := by
  funext k
  by_cases hk : k < ac.length
  ·rw [if_pos hk]
  ·rw [if_neg hk, List.getD_eq_getElem?_getD, List.getElem?_eq_none (by omega)]; rfl
 have e2 : (fun k => if k < ac.length then vs.getD (0 + k) undef else undef) = fun k => vs.getD k undef := by
  funext k
  by_cases hk : k < ac.length
  ·rw [if_pos hk, Nat.zero_add]
  ·rw [if_neg hk, List.getD_eq_getElem?_getD, List.getElem?_eq_none (by omega)]; rfl
 rw [e1, e2] at hd
 refine Calls.mono (h.2 w _ _ _ vs hlen hd) ?_
 rintro e w' ⟨v, r', o', m', reg', he, ⟨hR, rfl⟩, k1, k2, k3, k4⟩
 obtain ⟨g1, g2, g3⟩ := Rel.up (t1 := fun _ => .any) (u1 := fun _ => undef) (d := 0) hrel H k1 k2 k3 k4 (fun k => by simp only [V]) (fun k sz rows h => by cases h) (fun k sz rows h => by cases h)
 have ea : after oc [] [] = oc := by simp [after, back]
 have er : r'.ren (phi [] oc.length) = r' := by
  conv => rhs; rw [← ren_self r']
  exact ren_congr (n := 0) (fun j hj => by omega) _ (hr _ hR)
 rw [ea, er] at g1
 rw [ea] at g3
 refine ⟨v, r', oc, _, _, he, ⟨hR, rfl⟩, ?_, g2, g3, fun id mb hm => ?_⟩
 ·exact g1
 ·rw [List.getElem?_append_left (List.getElem?_eq_some_iff.1 hm).1]; exact hm
theorem endQ_rel {P : Program} {rs : List ResultVar} {R : AV → Prop} {s : St} {r r' : AV} (h1 : resAV P rs s = some r) (h2 : Le r r') (h6 : r'.ltk 0 = true) (hR : R r') : endQ P rs ([] : List Ob).length (fun x o' => R x ∧ o' = []) .ret s :=
 ⟨r, r', 0, h1, h2, Nat.le_refl _, Nat.zero_le _, rfl, h6, hR, rfl⟩
end Go.AW
namespace Go.AW
open Go Go.Proofs TyTry Go.IntWalk
set_option linter.unusedSimpArgs false
set_option linter.unusedVariables false
set_option maxRecDepth 10000
set_option maxHeartbeats 1000000
structure Sea (vars : Nat) (list : List (List Int)) (first : Bool) (s : SV) (o : List Ob) : Prop where
 c : 0 ≤ s.cnt ∧ s.cnt ≤ capF
 no : first = false → s.cnt = min (cntM vars list [] : Int) capF
 yes : first = true → (0 < s.cnt ↔ 0 < cntM vars list []) ∧ (0 < s.cnt → ∃ J a, s.md = .ref J 0 vars ∧ o[J]? = some (.cells 1 (bools a)) ∧ a.length = vars ∧ satC list a = true)
def SeaR (vars : Nat) (list : List (List Int)) (first : Bool) (r : AV) (o : List Ob) : Prop :=
 (r = .tup [.nilp, .i .i64 5] ∧ 200000 < 2 ^ vars ∧ okO o = true) ∨ ∃ (K : Nat) (c : Env) (d : IdS) (ta : AV) (s : SV), r = .tup [.ptr K 0 0, .i .i64 0] ∧ okO o = true ∧ o[K]? = some (.cells 13 [rowK c d ta s]) ∧ Sea vars list first s o
theorem cntM_all0 {vars : Nat} {list : List (List Int)} {tr : List Int} (h : ∀ a, satC list a = true → agr tr a = true) : cntM vars list tr = cntM vars list [] := by
 refine cntP_congr _ fun a _ => ?_
 cases hs : satC list a with
 | false => rfl
 | true => rw [h a hs]; rfl
theorem cntM_none {vars : Nat} {list : List (List Int)} (h : ∀ a, satC list a = false) : cntM vars list [] = 0 := by
 refine cntP_zero _ fun a _ => ?_
 rw [h a]; rfl
theorem satC_cln (cls : List (List Int)) (a : List Bool) : satC (cls.map cln) a = satC cls a := by
 simp only [satC, List.all_map]
 refine List.all_congr rfl fun l => ?_
 simp only [Function.comp]
 rw [Bool.eq_iff_iff, List.any_eq_true, List.any_eq_true]
 exact ⟨fun ⟨x, h1, h2⟩ => ⟨x, (cln_mem l x).1 h1, h2⟩, fun ⟨x, h1, h2⟩ => ⟨x, (cln_mem l x).2 h1, h2⟩⟩
theorem cntM_cln (vars : Nat) (cls : List (List Int)) : cntM vars (cls.map cln) [] = cntM vars cls [] := by
 refine cntP_congr _ fun a _ => ?_
 rw [satC_cln]
theorem innOf_le (x : Int) (cls : List (List Int)) : (innOf cls x).length ≤ sumL cls := by
 have key : ∀ i ≤ cls.length, (innOf (cls.take i) x).length ≤ sumL (cls.take i) := by
  intro i
  induction i with
  | zero => intro _; simp [innOf]
  | succ i ih =>
   intro hi
   have hl : cls[i]? = some cls[i] := List.getElem?_eq_getElem (by omega)
   rw [innOf_succ x (by omega), sumL_get hl, List.length_append, List.length_replicate]
   have := ih (by omega)
   have h2 : (cls.getD i []).count x ≤ cls[i].length := by
    rw [getD_of2 hl]
    exact List.count_le_length
   omega
 have := key cls.length (Nat.le_refl _)
 rwa [List.take_length] at this
theorem sumL_cln (cls : List (List Int)) : sumL (cls.map cln) ≤ sumL cls := by
 induction cls with
 | nil => exact Nat.le_refl _
 | cons l cls ih =>
  have h := cln_len l
  simp only [sumL, List.map_cons, List.sum_cons] at ih ⊢
  omega
theorem mem_sumL {cls : List (List Int)} {l : List Int} (h : l ∈ cls) : l.length ≤ sumL cls := by
 induction cls with
 | nil => cases h
 | cons m cls ih =>
  simp only [sumL, List.map_cons, List.sum_cons] at ih ⊢
  rcases List.mem_cons.1 h with rfl | h
  ·omega
  ·have := ih h; omega
theorem searched_spec {vars : Nat} {cls : List (List Int)} {first : Bool} (hn : cls.length ≤ 10000) (hs : sumL cls ≤ 10000) (hv : validC vars cls = true) (o0 : List Ob) (ho0 : okO o0 = true) :
  ACalls Try.prog 46 [.agg [.i .i64 vars, .sl 1 (tups cls)], .b first] o0 fun r o => SeaR vars cls first r o ∧ o0.length ≤ o.length := by
 have hokB : okO (o0 ++ [Ob.cells 2 [[.i .i64 vars, .sl 1 (tups cls)]]]) = true := okO_app ho0 (by simp [Ob.ltk, AV.ltk])
 obtain ⟨hv1, hlit⟩ := validC_lit hv
 have hsum : ∀ x, (innOf (cls.map cln) x).length ≤ 200000 := fun x => by
  have h1 := innOf_le x (cls.map cln)
  have h2 := sumL_cln cls
  omega
 have hlen : (cls.map cln).length = cls.length := List.length_map ..
 have hM := cntM_cln vars cls
 refine ACalls_of' (n := 25) (rs := [.tmp 4, .tmp 5]) (show Try.prog.funcs[46]? = some Try.f46 by kernel_rfl) rfl rfl rfl (by simp) (by decide +kernel) ?_
 repeat (first | refine nav ?_ | refine bo ?_)
 (refine wr fun K R hK hR => ?_; simp (maxSteps := 10000000) only [go_sem]; (try go_ints); (repeat refine And.intro side ?_); (first | refine hK _ ?_ | refine hR _ _ ?_); clear hK hR K R)
 repeat (first | refine nav ?_ | refine bo ?_)
 (refine wr fun K R hK hR => ?_; simp (maxSteps := 10000000) only [go_sem]; (try go_ints); (repeat refine And.intro side ?_); (first | refine hK _ ?_ | refine hR _ _ ?_); clear hK hR K R)
 refine RL_callF (validC_spec hn hs) rfl rfl rfl (by first | (simp only [go_sem] <;> first | exact LeA.refl _ | exact Le.refl _) | exact LeA.refl _) rfl rfl ?_
 (refine rr fun K R hK hR => ?_; simp (maxSteps := 10000000) only [go_sem]; (try go_ints); (repeat refine And.intro side ?_); (first | refine hK _ ?_ | refine hR _ _ ?_); clear hK hR K R)
 repeat (first | refine nav ?_ | refine bo ?_)
 refine W_cond (b := false) (by simp only [go_sem, hv] <;> rfl) (fun hb => by cases hb) (fun _ => ?_)
 repeat (first | refine nav ?_ | refine bo ?_)
 (refine wr fun K R hK hR => ?_; simp (maxSteps := 10000000) only [go_sem]; (try go_ints); (repeat refine And.intro side ?_); (first | refine hK _ ?_ | refine hR _ _ ?_); clear hK hR K R)
 have hbs : ACalls Try.prog 64 [.agg [.i .i64 vars, .sl 1 (tups cls)], .b first] (o0 ++ [Ob.cells 2 [[.i .i64 vars, .sl 1 (tups cls)]]]) fun r o' => ∃ (d : IdS) (es : List (AV × AV)) (ok : Bool), r = .tup [.ptr (o0.length + 4) 0 0, .b ok] ∧
   EnvOk (envB vars (cls.map cln) first es) ∧ U3 (o0.length + 4) d (envB vars (cls.map cln) first es) cls.length ok o' ∧ o0.length + 1 ≤ o'.length := by
  have := begin_spec (first := first) hv1 (by omega) (fun l hl => by have := mem_sumL hl; omega) hlit hsum _ hokB
  rw [List.length_append] at this
  exact this
 refine RL_callE hbs (fun r o' ⟨d, es, ok, e1, e2, e3, e4⟩ => ⟨by rw [List.length_append]; exact e4, ?_, ?_⟩) (by simp only [go_sem] <;> exact rfl) rfl rfl (by simp) (by simp only [go_sem] <;> exact LeA.refl _) hokB ?_ ?_
 ·obtain ⟨tr, ta, hr, _⟩ := e3.run
  have := (List.getElem?_eq_some_iff.1 hr.k).1
  rw [e1]; simp only [AV.ltk, AV.ltks, Bool.and_true, decide_eq_true_eq]; exact this
 ·obtain ⟨tr, ta, hr, _⟩ := e3.run
  exact hr.ok
 ·simp [AV.ltk, AV.ltks]
 clear hbs
 rintro r o1 ⟨d, es, ok, rfl, hc, hu, hl1⟩
 obtain ⟨tr, ta, hr, htr, hq⟩ := hu.run
 have l4 := (List.getElem?_eq_some_iff.1 hr.k).1
 generalize hce : envB vars (cls.map cln) first es = c at *
 have hc1 : c.vars = vars := by rw [← hce]; rfl
 have hc2 : c.list = cls.map cln := by rw [← hce]; rfl
 have hc3 : c.first = first := by rw [← hce]; rfl
 (refine rr fun K R hK hR => ?_; simp (maxSteps := 10000000) only [go_sem]; (try go_ints); (repeat refine And.intro side ?_); (first | refine hK _ ?_ | refine hR _ _ ?_); clear hK hR K R)
 repeat (first | refine nav ?_ | refine bo ?_)
 (refine wr fun K R hK hR => ?_; simp (maxSteps := 10000000) only [go_sem]; (try go_ints); (repeat refine And.intro side ?_); (first | refine hK _ ?_ | refine hR _ _ ?_); clear hK hR K R)
 repeat (first | refine nav ?_ | refine bo ?_)
 refine W_joinS 18 20 [] (fun t o2 => ∃ ta2 s2, okO o2 = true ∧ RepG o2 (o0.length + 4) d c ta2 s2 ∧ o0.length ≤ o2.length ∧ s2.exh = decide (s2.br > 200000) ∧ (s2.exh = true → 200000 < 2 ^ vars) ∧ (s2.exh = false → Sea vars cls first s2 o2)) ?_ ?_
 ·cases ok with
  | false =>
   have h0 : cntM vars cls [] = 0 := by
    rw [← hM]
    exact cntM_none (by rw [← hc2]; exact hu.no rfl)
   refine W_cond (b := false) (by simp only [go_sem]) (fun hb => by cases hb) (fun _ => ?_)
   repeat (first | refine nav ?_ | refine bo ?_)
   refine ⟨_, rfl, ta, _, hr.ok, hr, by show o0.length ≤ o1.length; omega, rfl, fun h => (by cases h), fun _ => ⟨⟨Int.le_refl _, show (0 : Int) ≤ 1099511627777 by omega⟩, fun _ => ?_, fun _ => ⟨?_, fun h => (by cases h)⟩⟩⟩
   ·rw [h0]; rfl
   ·rw [h0]; exact ⟨fun h => (by cases h), fun h => (by cases h)⟩
  | true =>
   obtain ⟨hq1, hq2⟩ := hq rfl
   refine W_cond (b := true) (by simp only [go_sem]) (fun _ => ?_) (fun hb => by cases hb)
   repeat (first | refine nav ?_ | refine bo ?_)
   (refine wr fun K R hK hR => ?_; simp (maxSteps := 10000000) only [go_sem]; (try go_ints); (repeat refine And.intro side ?_); (first | refine hK _ ?_ | refine hR _ _ ?_); clear hK hR K R)
   have hne : ∀ l ∈ c.list, l ≠ [] := by
    have := hu.yes rfl
    rw [List.take_of_length_le (by rw [hc2, hlen]; exact Nat.le_refl _)] at this
    exact this
   have hru := run_spec hc hne (c.vars + 1) 0 tr o1 ta 0 0 (by omega) (Nat.zero_le _) hr htr hq1 (fun u hu => by omega) (Int.le_refl _) (by omega) (Int.le_refl _) (by omega) (fun _ => rfl)
   refine RL_callE hru (fun r o' ⟨e1, ta', br', cnt', md', exh', e2, e3, e4⟩ => ⟨e4, by rw [e1]; rfl, e2.ok⟩) (by simp only [go_sem] <;> exact rfl) rfl rfl (by simp) (by simp only [go_sem] <;> first | exact LeA.refl _ | exact Le.refl _) hr.ok (by simp [AV.ltk]; omega) ?_
   rintro r o2 ⟨rfl, ta2, br2, cnt2, md2, exh2, hr2, hrp, hl2⟩
   (refine rr fun K R hK hR => ?_; simp (maxSteps := 10000000) only [go_sem]; (try go_ints); (repeat refine And.intro side ?_); (first | refine hK _ ?_ | refine hR _ _ ?_); clear hK hR K R)
   have hcm : cntM c.vars c.list tr = cntM vars cls [] := by
    rw [cntM_all0 hq2, hc1, hc2, hM]
   rw [hcm] at hrp
   refine ⟨_, rfl, ta2, _, hr2.ok, hr2, by have hl2 : o1.length ≤ o2.length := hl2; show o0.length ≤ o2.length; omega, hrp.ex, fun h => ?_, fun h => ⟨hrp.c0, fun hf => ?_, fun hf => ⟨(hrp.yes (by rw [hc3]; exact hf)).2.1 h, fun h0 => ?_⟩⟩⟩
   ·have h1 := hrp.b1
    have h2 := hrp.ex
    have h : exh2 = true := h
    rw [h] at h2
    have h2 := of_decide_eq_true h2.symm
    rw [Nat.sub_zero, hc1] at h1
    omega
   ·have := (hrp.no (by rw [hc3]; exact hf)).2 h
    rw [this, Int.zero_add]; rfl
   ·obtain ⟨J, a, e1, e2, e3, e4, _⟩ := (hrp.yes (by rw [hc3]; exact hf)).2.2 h0
    rw [hc1] at e1 e3
    rw [hc2, satC_cln] at e4
    exact ⟨J, a, e1, e2, e3, e4⟩
 rintro t2 o2 ⟨ta2, s2, hok2, hr2, hl2, he2, hx2, hs2⟩
 have hk2 := hr2.k
 have l42 := (List.getElem?_eq_some_iff.1 hk2).1
 repeat (first | refine nav ?_ | refine bo ?_)
 (refine wr fun K R hK hR => ?_; simp (maxSteps := 10000000) only [go_sem, hk2, rowK]; (try go_ints); (try simp only [go_sem, hk2, rowK]); (repeat refine And.intro side ?_); (first | refine hK _ ?_ | refine hR _ _ ?_); clear hK hR K R)
 repeat (first | refine nav ?_ | refine bo ?_)
 refine W_cond (b := s2.exh) (by simp only [go_sem]) (fun hb => ?_) (fun hb => ?_)
 ·repeat (first | refine nav ?_ | refine bo ?_)
  (refine wr fun K R hK hR => ?_; simp (maxSteps := 10000000) only [go_sem]; (try go_ints); (repeat refine And.intro side ?_); (first | refine hK _ ?_ | refine hR _ _ ?_); clear hK hR K R)
  repeat (first | refine nav ?_ | refine bo ?_)
  refine endQ_all (by simp only [go_sem] <;> exact rfl) (Le.refl _) hl2 hok2 rfl ⟨.inl ⟨rfl, hx2 hb, hok2⟩, hl2⟩
 ·repeat (first | refine nav ?_ | refine bo ?_)
  (refine wr fun K R hK hR => ?_; simp (maxSteps := 10000000) only [go_sem]; (try go_ints); (repeat refine And.intro side ?_); (first | refine hK _ ?_ | refine hR _ _ ?_); clear hK hR K R)
  repeat (first | refine nav ?_ | refine bo ?_)
  refine endQ_all (by simp only [go_sem] <;> exact rfl) (Le.refl _) hl2 hok2 (by simp only [AV.ltk, AV.ltks, Bool.and_true, decide_eq_true_eq]; exact l42) ⟨.inr ⟨o0.length + 4, c, d, ta2, s2, rfl, hok2, hk2, hs2 hb⟩, hl2⟩
def ModelsR (vars : Nat) (cls : List (List Int)) (r : AV) : Prop :=
 (r = .tup [.i .i64 0, .i .i64 5] ∧ (200000 < 2 ^ vars ∨ 1099511627776 < cntM vars cls [])) ∨ (r = .tup [.i .i64 (cntM vars cls []), .i .i64 0] ∧ cntM vars cls [] ≤ 1099511627776)
theorem models_spec {vars : Nat} {cls : List (List Int)} (hn : cls.length ≤ 10000) (hs : sumL cls ≤ 10000) (hv : validC vars cls = true) :
  ACalls Try.prog 20 [.agg [.i .i64 vars, .sl 1 (tups cls)]] [] fun r o => ModelsR vars cls r ∧ o = [] := by
 refine ACalls_of' (n := 25) (rs := [.tmp 2, .tmp 3]) (show Try.prog.funcs[20]? = some Try.f20 by kernel_rfl) rfl rfl rfl (by simp) (by decide +kernel) ?_
 repeat (first | refine nav ?_ | refine bo ?_)
 (refine wr fun K R hK hR => ?_; simp (maxSteps := 10000000) only [go_sem]; (try go_ints); (repeat refine And.intro side ?_); (first | refine hK _ ?_ | refine hR _ _ ?_); clear hK hR K R)
 repeat (first | refine nav ?_ | refine bo ?_)
 (refine wr fun K R hK hR => ?_; simp (maxSteps := 10000000) only [go_sem]; (try go_ints); (repeat refine And.intro side ?_); (first | refine hK _ ?_ | refine hR _ _ ?_); clear hK hR K R)
 refine RL_callE (searched_spec (first := false) hn hs hv _ rfl) (fun r o' ⟨h1, h2⟩ => ?_) (by simp only [go_sem] <;> exact rfl) rfl rfl (by simp) (by simp only [go_sem] <;> exact LeA.refl _) rfl ?_ ?_
 ·rcases h1 with ⟨rfl, _, h3⟩ | ⟨K, c, d, ta, s, rfl, h3, h4, _⟩
  ·exact ⟨h2, rfl, h3⟩
  ·exact ⟨h2, by simp only [AV.ltk, AV.ltks, Bool.and_true, decide_eq_true_eq]; exact (List.getElem?_eq_some_iff.1 h4).1, h3⟩
 ·simp [AV.ltk, AV.ltks]
 rintro r o1 ⟨hse, hl1⟩
 rcases hse with ⟨rfl, hx, _⟩ | ⟨K, c, d, ta, s, rfl, hok, hk, hs⟩
 ·(refine rr fun K R hK hR => ?_; simp (maxSteps := 10000000) only [go_sem]; (try go_ints); (repeat refine And.intro side ?_); (first | refine hK _ ?_ | refine hR _ _ ?_); clear hK hR K R)
  repeat (first | refine nav ?_ | refine bo ?_)
  (refine wr fun K R hK hR => ?_; simp (maxSteps := 10000000) only [go_sem]; (try go_ints); (repeat refine And.intro side ?_); (first | refine hK _ ?_ | refine hR _ _ ?_); clear hK hR K R)
  repeat (first | refine nav ?_ | refine bo ?_)
  refine W_cond (b := true) (by simp only [go_sem] <;> rfl) (fun _ => ?_) (fun hb => by cases hb)
  repeat (first | refine nav ?_ | refine bo ?_)
  (refine wr fun K R hK hR => ?_; simp (maxSteps := 10000000) only [go_sem]; (try go_ints); (repeat refine And.intro side ?_); (first | refine hK _ ?_ | refine hR _ _ ?_); clear hK hR K R)
  repeat (first | refine nav ?_ | refine bo ?_)
  exact endQ_rel (by simp only [go_sem] <;> exact rfl) (Le.refl _) rfl (.inl ⟨rfl, .inl hx⟩)
 ·(refine rr fun K R hK hR => ?_; simp (maxSteps := 10000000) only [go_sem]; (try go_ints); (repeat refine And.intro side ?_); (first | refine hK _ ?_ | refine hR _ _ ?_); clear hK hR K R)
  repeat (first | refine nav ?_ | refine bo ?_)
  (refine wr fun K R hK hR => ?_; simp (maxSteps := 10000000) only [go_sem]; (try go_ints); (repeat refine And.intro side ?_); (first | refine hK _ ?_ | refine hR _ _ ?_); clear hK hR K R)
  repeat (first | refine nav ?_ | refine bo ?_)
  refine W_cond (b := false) (by simp only [go_sem] <;> rfl) (fun hb => by cases hb) (fun _ => ?_)
  have hc := hs.c
  have hcap : capF = 1099511627777 := rfl
  have hcn := hs.no rfl
  repeat (first | refine nav ?_ | refine bo ?_)
  (refine wr fun K R hK hR => ?_; simp (maxSteps := 10000000) only [go_sem, hk, rowK]; (try go_ints); (try simp only [go_sem, hk, rowK]); (repeat refine And.intro side ?_); (first | refine hK _ ?_ | refine hR _ _ ?_); clear hK hR K R)
  repeat (first | refine nav ?_ | refine bo ?_)
  refine W_cond (b := decide (s.cnt > 1099511627776)) (by simp only [go_sem] <;> rfl) (fun hb => ?_) (fun hb => ?_)
  ·have hb : s.cnt > 1099511627776 := by simpa using hb
   repeat (first | refine nav ?_ | refine bo ?_)
   (refine wr fun K R hK hR => ?_; simp (maxSteps := 10000000) only [go_sem]; (try go_ints); (repeat refine And.intro side ?_); (first | refine hK _ ?_ | refine hR _ _ ?_); clear hK hR K R)
   repeat (first | refine nav ?_ | refine bo ?_)
   exact endQ_rel (by simp only [go_sem] <;> exact rfl) (Le.refl _) rfl (.inl ⟨rfl, .inr (by omega)⟩)
  ·have hb : ¬ s.cnt > 1099511627776 := by simpa using hb
   have hce : s.cnt = (cntM vars cls [] : Int) := by omega
   repeat (first | refine nav ?_ | refine bo ?_)
   (refine wr fun K R hK hR => ?_; simp (maxSteps := 10000000) only [go_sem, hk, rowK, hce]; (try go_ints); (try simp only [go_sem, hk, rowK, hce]); (repeat refine And.intro side ?_); (first | refine hK _ ?_ | refine hR _ _ ?_); clear hK hR K R)
   repeat (first | refine nav ?_ | refine bo ?_)
   exact endQ_rel (by simp only [go_sem] <;> exact rfl) (Le.refl _) rfl (.inr ⟨rfl, by omega⟩)
end Go.AW
namespace Go.AW
open Go Go.Proofs TyTry Go.IntWalk
set_option linter.unusedSimpArgs false
set_option linter.unusedVariables false
set_option maxRecDepth 10000
set_option maxHeartbeats 1000000
end Go.AW
namespace Go.AW
open Go Go.Proofs TyTry Go.IntWalk
set_option linter.unusedSimpArgs false
set_option linter.unusedVariables false
set_option maxRecDepth 10000
set_option maxHeartbeats 1000000
end Go.AW
namespace Go.AW
open Go Go.Proofs TyTry Go.IntWalk
set_option linter.unusedSimpArgs false
set_option linter.unusedVariables false
set_option maxRecDepth 10000
set_option maxHeartbeats 1000000
end Go.AW
namespace Go.AW
open Go Go.Proofs TyTry Go.IntWalk
set_option linter.unusedSimpArgs false
set_option linter.unusedVariables false
set_option maxRecDepth 10000
set_option maxHeartbeats 1000000
theorem refValid_spec {vars : Int} {cls : List (List Int)} (hn : cls.length ≤ 10000) (hs : sumL cls ≤ 10000) : ACallsD Try.prog 19 [.i .i64 vars, .sl 1 (tups cls)] (.b (validC vars cls)) := by
 have hlk := sumL_take cls
 refine ACalls_of' (n := 64) (rs := [.tmp 4]) (show Try.prog.funcs[19]? = some Try.f19 by kernel_rfl) rfl rfl rfl (by simp) (by decide +kernel) ?_
 repeat (first | refine nav ?_ | refine bo ?_)
 (refine wr fun K R hK hR => ?_; simp (maxSteps := 10000000) only [go_sem]; (try go_ints); (repeat refine And.intro side ?_); (first | refine hK _ ?_ | refine hR _ _ ?_); clear hK hR K R)
 repeat (first | refine nav ?_ | refine bo ?_)
 (refine wr fun K R hK hR => ?_; simp (maxSteps := 10000000) only [go_sem]; (try go_ints); (repeat refine And.intro side ?_); (first | refine hK _ ?_ | refine hR _ _ ?_); clear hK hR K R)
 repeat (first | refine nav ?_ | refine bo ?_)
 refine W_cond (by simp only [go_sem] <;> exact rfl) (fun hb => ?_) (fun hb => ?_)
 ·repeat (first | refine nav ?_ | refine bo ?_)
  (refine wr fun K R hK hR => ?_; simp (maxSteps := 10000000) only [go_sem]; (try go_ints); (repeat refine And.intro side ?_); (first | refine hK _ ?_ | refine hR _ _ ?_); clear hK hR K R)
  repeat (first | refine nav ?_ | refine bo ?_)
  refine endQ_data (by simp only [go_sem] <;> exact rfl) (Le.of_eq ?_) rfl
  simp only [Bool.or_eq_true, decide_eq_true_eq] at hb
  simp only [validC]
  congr 1
  symm
  rw [Bool.and_eq_false_iff]
  left
  simp only [Bool.and_eq_false_iff, decide_eq_false_iff_not]
  omega
 ·simp only [Bool.or_eq_false_iff, decide_eq_false_iff_not] at hb
  have hv0 : 0 ≤ vars := by omega
  have hv1 : vars ≤ 20000 := by omega
  have hval : validC vars cls = litsOk vars cls := by simp [validC, hv0, hv1]
  rw [hval]
  repeat (first | refine nav ?_ | refine bo ?_)
  (refine wr fun K R hK hR => ?_; simp (maxSteps := 10000000) only [go_sem]; (try go_ints); (repeat refine And.intro side ?_); (first | refine hK _ ?_ | refine hR _ _ ?_); clear hK hR K R)
  repeat (first | refine nav ?_ | refine bo ?_)
  (refine wr fun K R hK hR => ?_; simp (maxSteps := 10000000) only [go_sem]; (try go_ints); (repeat refine And.intro side ?_); (first | refine hK _ ?_ | refine hR _ _ ?_); clear hK hR K R)
  repeat (first | refine nav ?_ | refine bo ?_)
  refine W_for 20 62 [5, 6, 7, 8] (fun m t o => ∃ i : Nat, o = [] ∧ t 5 = .i .i64 (sumL (cls.take i)) ∧ t 6 = .i .i64 i ∧ m = cls.length - i ∧ i ≤ cls.length ∧ litsOk vars (cls.take i) = true) cls.length ⟨0, rfl, by simp only [go_sem] <;> simp [sumL], by simp only [go_sem] <;> rfl, rfl, by omega, by simp [litsOk]⟩ ?_
  rintro m t o ⟨i, rfl, h5, h6, rfl, hi, hok⟩
  repeat (first | refine nav ?_ | refine bo ?_)
  (refine wr fun K R hK hR => ?_; simp (maxSteps := 10000000) only [go_sem, h6]; (try go_ints); (try simp only [go_sem, h6]); (repeat refine And.intro side ?_); (first | refine hK _ ?_ | refine hR _ _ ?_); clear hK hR K R)
  repeat (first | refine nav ?_ | refine bo ?_)
  refine W_cond (by simp only [go_sem] <;> exact rfl) (fun hb => ?_) (fun hb => ?_)
  ·have hb : i < cls.length := by simpa using hb
   obtain ⟨l, hl⟩ : ∃ l, cls[i]? = some l := ⟨_, List.getElem?_eq_getElem hb⟩
   have hsl := sumL_get hl
   have hs1 := hlk (i + 1)
   have htk : litsOk vars (cls.take (i + 1)) = !(l.any (badL vars)) := by
    rw [List.take_add_one, hl]
    simp only [litsOk, List.all_append, Option.toList_some, List.all_cons, List.all_nil, Bool.and_true]
    rw [show (cls.take i).all (fun l => !(l.any (badL vars))) = true from hok, Bool.true_and]
   repeat (first | refine nav ?_ | refine bo ?_)
   (refine wr fun K R hK hR => ?_; simp (maxSteps := 10000000) only [go_sem, h5, h6, tups_get hl]; (try go_ints); (try simp only [go_sem, h5, h6, tups_get hl]); (repeat refine And.intro side ?_); (first | refine hK _ ?_ | refine hR _ _ ?_); clear hK hR K R)
   repeat (first | refine nav ?_ | refine bo ?_)
   (refine wr fun K R hK hR => ?_; simp (maxSteps := 10000000) only [go_sem]; (try go_ints); (repeat refine And.intro side ?_); (first | refine hK _ ?_ | refine hR _ _ ?_); clear hK hR K R)
   repeat (first | refine nav ?_ | refine bo ?_)
   refine W_for 33 62 [7, 8] (fun m t o => ∃ j : Nat, o = [] ∧ t 7 = .i .i64 j ∧ m = l.length - j ∧ j ≤ l.length ∧ (l.take j).any (badL vars) = false) l.length ⟨0, rfl, by simp only [go_sem] <;> rfl, rfl, by omega, by simp⟩ ?_
   rintro m t2 o ⟨j, rfl, h7, rfl, hj, hok2⟩
   repeat (first | refine nav ?_ | refine bo ?_)
   (refine wr fun K R hK hR => ?_; simp (maxSteps := 10000000) only [go_sem, h6, h7, tups_get hl]; (try go_ints); (try simp only [go_sem, h6, h7, tups_get hl]); (repeat refine And.intro side ?_); (first | refine hK _ ?_ | refine hR _ _ ?_); clear hK hR K R)
   repeat (first | refine nav ?_ | refine bo ?_)
   refine W_cond (by simp only [go_sem] <;> exact rfl) (fun hb => ?_) (fun hb => ?_)
   ·have hb : j < l.length := by simpa using hb
    obtain ⟨x, hx⟩ : ∃ x, l[j]? = some x := ⟨_, List.getElem?_eq_getElem hb⟩
    have htk2 : (l.take (j + 1)).any (badL vars) = badL vars x := by
     rw [List.take_add_one, hx, List.any_append, hok2]
     simp
    repeat (first | refine nav ?_ | refine bo ?_)
    (refine wr fun K R hK hR => ?_; simp (maxSteps := 10000000) only [go_sem, h6, h7, tups_get hl, ints_get hx]; (try go_ints); (try simp only [go_sem, h6, h7, tups_get hl, ints_get hx]); (repeat refine And.intro side ?_); (first | refine hK _ ?_ | refine hR _ _ ?_); clear hK hR K R)
    repeat (first | refine nav ?_ | refine bo ?_)
    (refine wr fun K R hK hR => ?_; simp (maxSteps := 10000000) only [go_sem]; (try go_ints); (repeat refine And.intro side ?_); (first | refine hK _ ?_ | refine hR _ _ ?_); clear hK hR K R)
    repeat (first | refine nav ?_ | refine bo ?_)
    refine W_cond (b := badL vars x) (by simp only [go_sem, badL] <;> simp <;> omega) (fun hb2 => ?_) (fun hb2 => ?_)
    ·repeat (first | refine nav ?_ | refine bo ?_)
     (refine wr fun K R hK hR => ?_; simp (maxSteps := 10000000) only [go_sem]; (try go_ints); (repeat refine And.intro side ?_); (first | refine hK _ ?_ | refine hR _ _ ?_); clear hK hR K R)
     repeat (first | refine nav ?_ | refine bo ?_)
     refine endQ_data (by simp only [go_sem] <;> exact rfl) (Le.of_eq ?_) rfl
     congr 1
     symm
     rw [litsOk, List.all_eq_false]
     exact ⟨l, List.mem_of_getElem? hl, by simp only [Bool.not_eq_true', Bool.not_eq_false']; rw [Bool.not_eq_false]; exact List.any_eq_true.2 ⟨x, List.mem_of_getElem? hx, hb2⟩⟩
    ·repeat (first | refine nav ?_ | refine bo ?_)
     (refine wr fun K R hK hR => ?_; simp (maxSteps := 10000000) only [go_sem, h7]; (try go_ints); (try simp only [go_sem, h7]); (repeat refine And.intro side ?_); (first | refine hK _ ?_ | refine hR _ _ ?_); clear hK hR K R)
     repeat (first | refine nav ?_ | refine bo ?_)
     refine forQ_normal (l.length - (j + 1)) (by omega) ⟨j + 1, rfl, ?_, rfl, by omega, by rw [htk2, hb2]⟩
     simp only [go_sem] <;> simp
   ·have hb : ¬ j < l.length := by simpa using hb
    obtain rfl : j = l.length := by omega
    rw [List.take_length] at hok2
    repeat (first | refine nav ?_ | refine bo ?_)
    rw [mix_mix (lo := 33) (lo' := 20) rfl]
    (refine wr fun K R hK hR => ?_; simp (maxSteps := 10000000) only [go_sem, h6]; (try go_ints); (try simp only [go_sem, h6]); (repeat refine And.intro side ?_); (first | refine hK _ ?_ | refine hR _ _ ?_); clear hK hR K R)
    repeat (first | refine nav ?_ | refine bo ?_)
    refine forQ_normal (cls.length - (i + 1)) (by omega) ⟨i + 1, rfl, ?_, ?_, rfl, by omega, by rw [htk, hok2]; rfl⟩
    ·simp only [go_sem]
     congr 1
     omega
    ·simp only [go_sem] <;> simp
  ·have hb : ¬ i < cls.length := by simpa using hb
   obtain rfl : i = cls.length := by omega
   rw [List.take_length] at hok h5
   repeat (first | refine nav ?_ | refine bo ?_)
   (refine wr fun K R hK hR => ?_; simp (maxSteps := 10000000) only [go_sem, h5]; (try go_ints); (try simp only [go_sem, h5]); (repeat refine And.intro side ?_); (first | refine hK _ ?_ | refine hR _ _ ?_); clear hK hR K R)
   repeat (first | refine nav ?_ | refine bo ?_)
   refine endQ_data (by simp only [go_sem] <;> exact rfl) (Le.of_eq ?_) rfl
   rw [hok]
   congr 1
   simp
   omega
end Go.AW
namespace Go.AW
open Go Go.Proofs TyTry Go.IntWalk
set_option linter.unusedSimpArgs false
set_option linter.unusedVariables false
set_option maxRecDepth 10000
set_option maxHeartbeats 1000000
theorem RL_callR {P : Program} {n : Nat} {gd : List (Option Nat)} {Q : Exit → St → Prop} {s : St} {d : Option Tmp} {f : FuncId} {xs : List Operand} {ats : Array TypeId} {ty : TypeId} {pos : String} {aft : Array Edge} {rest : List Oper} {ac : List AV} {R : AV → Prop} (h : ACalls P f ac [] fun r o' => R r ∧ o' = []) (hpl : ∀ r, R r → r.ltk 0 = true)
  (hin : xs.all (opIn n) = true) (hd : dstOk n d = true) (hlen : xs.length = ac.length) (hle : LeA (argVals xs ac s.t) ac) (harg : ac.all (AV.ltk 0) = true) (hoc : okO s.o = true)
  (hK : ∀ r, R r → RL P n gd rest Q ((⟨argDrop xs ac s.t, s.o⟩ : St).put d r)) : RL P n gd (⟨d, .call ⟨.value (.func f), xs.toArray, ats⟩, ty, pos, aft, none⟩ :: rest) Q s := by
 have ht : ac.take xs.length = ac := by rw [List.take_of_length_le]; omega
 refine RL_callE (caps := []) (h.frameR harg hpl s.o) (fun r o' ⟨h1, h2⟩ => ⟨by rw [h2]; exact Nat.le_refl _, ltk_mono (Nat.zero_le _) _ (hpl r h1), by rw [h2]; exact hoc⟩) rfl hin hd (by omega) (by rw [ht]; simpa using hle) hoc ?_ ?_
 ·rw [List.all_eq_true] at harg ⊢
  exact fun x hx => ltk_mono (Nat.zero_le _) _ (harg x hx)
 ·rintro r o' ⟨h1, rfl⟩
  rw [ht]
  exact hK r h1
def wideC (cls : List (List Int)) : Bool := decide (cls.length + sumL cls > 6000)
theorem wide_spec {vars : Int} {cls : List (List Int)} (hcl : cls.length ≤ 140737488355328) (hll : ∀ l ∈ cls, l.length ≤ 140737488355328) : ACallsD Try.prog 16 [.agg [.i .i64 vars, .sl 1 (tups cls)]] (.b (wideC cls)) := by
 have hlk := sumL_take cls
 refine ACalls_of' (n := 29) (rs := [.tmp 2]) (show Try.prog.funcs[16]? = some Try.f16 by kernel_rfl) rfl rfl rfl (by simp) (by decide +kernel) ?_
 repeat (first | refine nav ?_ | refine bo ?_)
 (refine wr fun K R hK hR => ?_; simp (maxSteps := 10000000) only [go_sem]; (try go_ints); (repeat refine And.intro side ?_); (first | refine hK _ ?_ | refine hR _ _ ?_); clear hK hR K R)
 repeat (first | refine nav ?_ | refine bo ?_)
 (refine wr fun K R hK hR => ?_; simp (maxSteps := 10000000) only [go_sem]; (try go_ints); (repeat refine And.intro side ?_); (first | refine hK _ ?_ | refine hR _ _ ?_); clear hK hR K R)
 repeat (first | refine nav ?_ | refine bo ?_)
 (refine wr fun K R hK hR => ?_; simp (maxSteps := 10000000) only [go_sem]; (try go_ints); (repeat refine And.intro side ?_); (first | refine hK _ ?_ | refine hR _ _ ?_); clear hK hR K R)
 repeat (first | refine nav ?_ | refine bo ?_)
 refine W_for 8 27 [3, 4] (fun m t o => ∃ i : Nat, o = [Ob.cells 2 [[.i .i64 vars, .sl 1 (tups cls)]]] ∧ t 3 = .i .i64 ((cls.length + sumL (cls.take i) : Nat) : Int) ∧ t 4 = .i .i64 i ∧ m = cls.length - i ∧ i ≤ cls.length ∧ sumL (cls.take i) ≤ 140737488361328) cls.length ⟨0, rfl, by simp only [go_sem] <;> simp [sumL], by simp only [go_sem] <;> rfl, rfl, by omega, by simp [sumL]⟩ ?_
 rintro m t o ⟨i, rfl, h3, h4, rfl, hi, hsb⟩
 repeat (first | refine nav ?_ | refine bo ?_)
 (refine wr fun K R hK hR => ?_; simp (maxSteps := 10000000) only [go_sem, h3, h4]; (try go_ints); (try simp only [go_sem, h3, h4]); (repeat refine And.intro side ?_); (first | refine hK _ ?_ | refine hR _ _ ?_); clear hK hR K R)
 repeat (first | refine nav ?_ | refine bo ?_)
 refine W_cond (b := decide (i < cls.length) && decide (cls.length + sumL (cls.take i) ≤ 6000)) (by simp only [go_sem] <;> (rw [Bool.eq_iff_iff]; simp only [Bool.and_eq_true, decide_eq_true_eq]; omega)) (fun hb => ?_) (fun hb => ?_)
 ·simp only [Bool.and_eq_true, decide_eq_true_eq] at hb
  obtain ⟨hb1, hb2⟩ := hb
  obtain ⟨l, hl⟩ : ∃ l, cls[i]? = some l := ⟨_, List.getElem?_eq_getElem hb1⟩
  have hsl := sumL_get hl
  have hlm := hll l (List.mem_of_getElem? hl)
  repeat (first | refine nav ?_ | refine bo ?_)
  (refine wr fun K R hK hR => ?_; simp (maxSteps := 10000000) only [go_sem, h3, h4, tups_get hl]; (try go_ints); (try simp only [go_sem, h3, h4, tups_get hl]); (repeat refine And.intro side ?_); (first | refine hK _ ?_ | refine hR _ _ ?_); clear hK hR K R)
  repeat (first | refine nav ?_ | refine bo ?_)
  (refine wr fun K R hK hR => ?_; simp (maxSteps := 10000000) only [go_sem, h4]; (try go_ints); (try simp only [go_sem, h4]); (repeat refine And.intro side ?_); (first | refine hK _ ?_ | refine hR _ _ ?_); clear hK hR K R)
  repeat (first | refine nav ?_ | refine bo ?_)
  refine forQ_normal (cls.length - (i + 1)) (by omega) ⟨i + 1, rfl, ?_, ?_, rfl, by omega, by omega⟩
  ·simp only [go_sem]
   congr 1
   omega
  ·simp only [go_sem] <;> simp
 ·repeat (first | refine nav ?_ | refine bo ?_)
  (refine wr fun K R hK hR => ?_; simp (maxSteps := 10000000) only [go_sem, h3]; (try go_ints); (try simp only [go_sem, h3]); (repeat refine And.intro side ?_); (first | refine hK _ ?_ | refine hR _ _ ?_); clear hK hR K R)
  repeat (first | refine nav ?_ | refine bo ?_)
  refine endQ_data (by simp only [go_sem] <;> exact rfl) (Le.of_eq ?_) rfl
  congr 1
  simp only [wideC]
  have hle := hlk i
  rcases Nat.lt_or_ge i cls.length with q | q
  ·have : ¬ (cls.length + sumL (cls.take i) ≤ 6000) := fun h => by simp [q, h] at hb
   rw [decide_eq_true (by omega), decide_eq_true (by omega)]
  ·obtain rfl : i = cls.length := by omega
   rw [List.take_length]
   congr 1
   apply propext
   omega
theorem modelsR_plain {vars : Nat} {cls : List (List Int)} (r : AV) (h : ModelsR vars cls r) : r.ltk 0 = true := by
 rcases h with ⟨rfl, _⟩ | ⟨rfl, _⟩ <;> simp [AV.ltk, AV.ltks]
theorem pow_big {vars : Nat} (h : 200000 < 2 ^ vars) : 12 < vars := by
 rcases Nat.lt_or_ge 12 vars with q | q
 ·exact q
 ·have : 2 ^ vars ≤ 2 ^ 12 := Nat.pow_le_pow_right (by omega) q
  omega
theorem cnt_big {vars : Nat} {cls : List (List Int)} (h : 1099511627776 < cntM vars cls []) : 12 < vars := by
 have := cntP_le vars fun a => satC cls a && agr [] a
 refine pow_big (Nat.lt_of_lt_of_le ?_ this)
 have : 1099511627776 < cntP vars fun a => satC cls a && agr [] a := h
 omega
end Go.AW
namespace Go.AW
open Go Go.Proofs TyTry Go.IntWalk
set_option linter.unusedSimpArgs false
set_option linter.unusedVariables false
set_option maxRecDepth 10000
set_option maxHeartbeats 1000000
theorem tupN_mem : ∀ {l : List RelD} {r : RelD}, r ∈ l → r.tuples.length ≤ tupN l
 | [], r, h => by cases h
 | q :: l, r, h => by
  simp only [tupN, List.map_cons, List.sum_cons]
  rcases List.mem_cons.1 h with rfl | h
  ·omega
  ·have := tupN_mem h
   simp only [tupN] at this
   omega
theorem valid_arity {s : StrD} (hv : validF s = true) {r : RelD} (hr : r ∈ s.rels) : r.arity ≤ 12 := by
 obtain ⟨i, hi⟩ := List.getElem?_of_mem hr
 simp only [validF, Bool.and_eq_true, List.all_eq_true, List.mem_range] at hv
 have h1 := hv.2 i (List.getElem?_eq_some_iff.1 hi).1
 rw [hi] at h1
 simp only [Bool.and_eq_true, relOk, decide_eq_true_eq] at h1
 omega
theorem in_spec2 (n : Int) (t : List Int) (ht : t.length ≤ 140737488355328) : ACallsD Try.prog 17 [.i .i64 n, .sl 1 (ints t)] (.b (inT n t)) := by
 refine ACalls_of' (n := 25) (rs := [.tmp 4]) (show Try.prog.funcs[17]? = some Try.f17 by kernel_rfl) rfl rfl rfl (by simp) (by decide +kernel) ?_
 repeat (first | refine nav ?_ | refine bo ?_)
 (refine wr fun K R hK hR => ?_; simp (maxSteps := 10000000) only [go_sem]; (try go_ints); (repeat refine And.intro side ?_); (first | refine hK _ ?_ | refine hR _ _ ?_); clear hK hR K R)
 repeat (first | refine nav ?_ | refine bo ?_)
 (refine wr fun K R hK hR => ?_; simp (maxSteps := 10000000) only [go_sem]; (try go_ints); (repeat refine And.intro side ?_); (first | refine hK _ ?_ | refine hR _ _ ?_); clear hK hR K R)
 repeat (first | refine nav ?_ | refine bo ?_)
 refine W_for 6 25 [5] (fun m t' o => ∃ k : Nat, [] = o ∧ t' 5 = .i .i64 k ∧ m = t.length - k ∧ k ≤ t.length ∧ inT n (t.drop k) = inT n t) t.length ⟨0, rfl, by simp only [go_sem] <;> rfl, by omega, Nat.zero_le _, rfl⟩ ?_
 rintro m t' o ⟨k, rfl, h5, rfl, hk, hi⟩
 repeat (first | refine nav ?_ | refine bo ?_)
 (refine wr fun K R hK hR => ?_; simp (maxSteps := 10000000) only [go_sem, h5]; (try go_ints); (try simp only [go_sem, h5]); (repeat refine And.intro side ?_); (first | refine hK _ ?_ | refine hR _ _ ?_); clear hK hR K R)
 repeat (first | refine nav ?_ | refine bo ?_)
 refine W_cond (by simp only [go_sem] <;> exact rfl) (fun hb => ?_) (fun hb => ?_)
 ·simp at hb
  obtain ⟨x, hx⟩ : ∃ x, t[k]? = some x := ⟨_, List.getElem?_eq_getElem hb⟩
  have hstep : inT n (x :: t.drop (k + 1)) = (!(decide (x < 0) || decide (x ≥ n)) && inT n (t.drop (k + 1))) := by simp [inT]
  rw [drop_cons hx, hstep] at hi
  have hlt : decide (k < t.length) = true := by simpa using hb
  repeat (first | refine nav ?_ | refine bo ?_)
  (refine wr fun K R hK hR => ?_; simp (maxSteps := 10000000) only [go_sem, h5, ints_get hx, hlt, Bool.or_true]; (try go_ints); (try simp only [go_sem, h5, ints_get hx, hlt, Bool.or_true]); (repeat refine And.intro side ?_); (first | refine hK _ ?_ | refine hR _ _ ?_); clear hK hR K R)
  repeat (first | refine nav ?_ | refine bo ?_)
  refine W_cond (by simp only [go_sem] <;> exact rfl) (fun hd => ?_) (fun hd => ?_)
  ·rw [hd] at hi
   repeat (first | refine nav ?_ | refine bo ?_)
   (refine wr fun K R hK hR => ?_; simp (maxSteps := 10000000) only [go_sem]; (try go_ints); (repeat refine And.intro side ?_); (first | refine hK _ ?_ | refine hR _ _ ?_); clear hK hR K R)
   repeat (first | refine nav ?_ | refine bo ?_)
   refine endQ_data (by simp only [go_sem] <;> exact rfl) (Le.of_eq ?_) rfl
   rw [← hi]; rfl
  ·rw [hd] at hi
   repeat (first | refine nav ?_ | refine bo ?_)
   (refine wr fun K R hK hR => ?_; simp (maxSteps := 10000000) only [go_sem, h5]; (try go_ints); (try simp only [go_sem, h5]); (repeat refine And.intro side ?_); (first | refine hK _ ?_ | refine hR _ _ ?_); clear hK hR K R)
   refine forQ_normal (t.length - (k + 1)) (by omega) ⟨k + 1, ?_⟩
   ((try simp only [go_sem]); (repeat' refine And.intro ?_ ?_) <;> (try first | with_reducible rfl | omega | with_reducible assumption | (simp; done)))
   simpa using hi
 ·simp at hb
  have : k = t.length := by omega
  subst this
  rw [List.drop_length] at hi
  repeat (first | refine nav ?_ | refine bo ?_)
  (refine wr fun K R hK hR => ?_; simp (maxSteps := 10000000) only [go_sem]; (try go_ints); (repeat refine And.intro side ?_); (first | refine hK _ ?_ | refine hR _ _ ?_); clear hK hR K R)
  repeat (first | refine nav ?_ | refine bo ?_)
  refine endQ_data (by simp only [go_sem] <;> exact rfl) (Le.of_eq ?_) rfl
  rw [← hi]; rfl
theorem hardMore_spec (s : StrD) (hs : s.Wide) {vars : Int} {cls : List (List Int)} (hcl : cls.length ≤ 140737488355328) (hll : ∀ l ∈ cls, l.length ≤ 140737488355328) {edge clause : List Int} {most : Int} (he : edge.length ≤ 140737488355328) (hc : clause.length ≤ 140737488355328) :
  ACallsD Try.prog 4 [.agg [.i .i64 s.size, .sl 3 (rels s.rels)], .agg [.i .i64 vars, .sl 1 (tups cls)], .agg [.sl 1 (ints edge), .i .i64 most, .sl 1 (ints clause)]] (.b true) := by
 have hbg : decide ((clause.length : Int) > 100) = decide (clause.length > 100) := by rw [decide_eq_decide]; omega
 refine ACalls_of' (n := 153) (rs := [.tmp 6]) (show Try.prog.funcs[4]? = some Try.f4 by kernel_rfl) rfl rfl rfl (by simp) (by decide +kernel) ?_
 repeat (first | refine nav ?_ | refine bo ?_)
 (refine wr fun K R hK hR => ?_; simp (maxSteps := 10000000) only [go_sem]; (try go_ints); (repeat refine And.intro side ?_); (first | refine hK _ ?_ | refine hR _ _ ?_); clear hK hR K R)
 repeat (first | refine nav ?_ | refine bo ?_)
 (refine wr fun K R hK hR => ?_; simp (maxSteps := 10000000) only [go_sem]; (try go_ints); (repeat refine And.intro side ?_); (first | refine hK _ ?_ | refine hR _ _ ?_); clear hK hR K R)
 refine RL_callF (broad_spec s hs) rfl rfl rfl (by first | (simp only [go_sem] <;> first | exact LeA.refl _ | exact Le.refl _) | exact LeA.refl _) rfl rfl ?_
 (refine rr fun K R hK hR => ?_; simp (maxSteps := 10000000) only [go_sem]; (try go_ints); (repeat refine And.intro side ?_); (first | refine hK _ ?_ | refine hR _ _ ?_); clear hK hR K R)
 refine RL_callDg rfl (by simp only [go_sem] <;> exact rfl) (fun e => wide_spec hcl hll) rfl rfl rfl (fun e => by (try simp only [go_sem] at e); simp only [go_sem, e] <;> (try simp only [go_sem]) <;> first | exact LeA.refl _ | exact Le.refl _) rfl rfl ?_
 (refine rr fun K R hK hR => ?_; simp (maxSteps := 10000000) only [go_sem]; (try go_ints); (repeat refine And.intro side ?_); (first | refine hK _ ?_ | refine hR _ _ ?_); clear hK hR K R)
 repeat (first | refine nav ?_ | refine bo ?_)
 refine W_cond (b := broadF s || wideC cls || decide (clause.length > 100) || decide (s.size > 20)) (by simp only [go_sem, hbg]) (fun hb => ?_) (fun hb => ?_)
 ·repeat (first | refine nav ?_ | refine bo ?_)
  (refine wr fun K R hK hR => ?_; simp (maxSteps := 10000000) only [go_sem]; (try go_ints); (repeat refine And.intro side ?_); (first | refine hK _ ?_ | refine hR _ _ ?_); clear hK hR K R)
  refine RL_callF (awake_spec) rfl rfl rfl (by first | (simp only [go_sem] <;> first | exact LeA.refl _ | exact Le.refl _) | exact LeA.refl _) rfl rfl ?_
  (refine rr fun K R hK hR => ?_; simp (maxSteps := 10000000) only [go_sem]; (try go_ints); (repeat refine And.intro side ?_); (first | refine hK _ ?_ | refine hR _ _ ?_); clear hK hR K R)
  repeat (first | refine nav ?_ | refine bo ?_)
  refine endQ_data (by simp only [go_sem] <;> exact rfl) (Le.of_eq ?_) rfl
  rfl
 ·simp only [Bool.or_eq_false_iff, decide_eq_false_iff_not] at hb
  obtain ⟨⟨⟨hbr, hwi⟩, hc100⟩, hsz⟩ := hb
  obtain ⟨hsok, htup⟩ := broad_ok hbr
  simp only [wideC, decide_eq_false_iff_not] at hwi
  have hn : cls.length ≤ 10000 := by omega
  have hs1 : sumL cls ≤ 10000 := by omega
  repeat (first | refine nav ?_ | refine bo ?_)
  (refine wr fun K R hK hR => ?_; simp (maxSteps := 10000000) only [go_sem]; (try go_ints); (repeat refine And.intro side ?_); (first | refine hK _ ?_ | refine hR _ _ ?_); clear hK hR K R)
  refine RL_callF (code_spec s hsok false) rfl rfl rfl (by first | (simp only [go_sem] <;> first | exact LeA.refl _ | exact Le.refl _) | exact LeA.refl _) rfl rfl ?_
  (refine rr fun K R hK hR => ?_; simp (maxSteps := 10000000) only [go_sem]; (try go_ints); (repeat refine And.intro side ?_); (first | refine hK _ ?_ | refine hR _ _ ?_); clear hK hR K R)
  refine RL_callDg rfl (by simp only [go_sem] <;> exact rfl) (fun e => in_spec2 s.size edge he) rfl rfl rfl (fun e => by (try simp only [go_sem] at e); simp only [go_sem, e] <;> (try simp only [go_sem]) <;> first | exact LeA.refl _ | exact Le.refl _) rfl rfl ?_
  (refine rr fun K R hK hR => ?_; simp (maxSteps := 10000000) only [go_sem]; (try go_ints); (repeat refine And.intro side ?_); (first | refine hK _ ?_ | refine hR _ _ ?_); clear hK hR K R)
  have hel : (ints edge).length = edge.length := ints_len _
  repeat (first | refine nav ?_ | refine bo ?_)
  refine W_joinS 61 98 [7, 8, 9, 10, 11] (fun t o' => okO o' = true ∧ o'[0]? = some (.cells 2 [[.i .i64 s.size, .sl 3 (rels s.rels)]]) ∧ o'[1]? = some (.cells 2 [[.i .i64 vars, .sl 1 (tups cls)]]) ∧ o'[2]? = some (.cells 3 [[.sl 1 (ints edge), .i .i64 most, .sl 1 (ints clause)]])) ?_ ?_
  ·refine W_cond (b := codeF s false == 0 && decide (most ≥ 0) && decide (most ≤ 40) && inT s.size edge && ((edge.length : Int) == 2)) (by simp only [go_sem, hel]) (fun hb => ?_) (fun hb => ?_)
   ·simp only [Bool.and_eq_true, decide_eq_true_eq, beq_iff_eq] at hb
    obtain ⟨⟨⟨⟨hcode, hm0⟩, hm1⟩, hint⟩, he2⟩ := hb
    obtain ⟨hval, hfit⟩ := codeF_zero hcode
    obtain ⟨j, r, e1, e2, e3, e4, e5⟩ := fitsR_one hfit
    simp only at e1 e4 e5
    obtain ⟨z1, z2, z3⟩ := valid_size hval
    have he2 : edge.length = 2 := by omega
    have hpr : Pr edge := by
     match edge, he2 with
     | [x, y], _ => exact ⟨x, y, rfl⟩
    have hin : ∀ x ∈ edge, 0 ≤ x ∧ x < s.size := by
     intro x hx
     simp only [inT, Bool.not_eq_true', List.any_eq_false, Bool.or_eq_true, decide_eq_true_eq, not_or] at hint
     have := hint x hx
     omega
    have hbr2 : ∀ r ∈ s.rels, r.tuples.length ≤ 50000 ∧ ∀ x ∈ r.tuples, x.length ≤ 1000000 := by
     intro r hr
     refine ⟨by have := tupN_mem hr; omega, fun x hx => ?_⟩
     have h1 := (valid_tuple hval hr hx).1
     have h2 := valid_arity hval hr
     omega
    have hrq : ∀ x ∈ r.tuples, x.length = 2 := by
     intro x hx
     have h1 := (valid_tuple hval (List.mem_of_getElem? e2) hx).1
     omega
    have hput := rput_spec s hsok (by omega) hbr2 ⟨#[69]⟩ e1 e2 edge 2 (by omega) he2 hrq
    have hvE := valid_E hval hfit e1 e2 hpr hin
    have hfE := fits_E hfit e1 e2 edge
    obtain ⟨m, hmo⟩ : ∃ m : Nat, most = m := ⟨most.toNat, by omega⟩
    have htE : tupN (putE s j edge).rels ≤ tupN s.rels + 1 := tupN_mod edge s.rels j
    have hEok : (putE s j edge).Ok := by
     refine ⟨by simp [putE]; omega, fun q hq => ?_⟩
     obtain ⟨k, hk⟩ := List.getElem?_of_mem hq
     have hql := tupN_mem hq
     have har := valid_arity hvE hq
     refine ⟨?_, by omega, fun t ht => by have := (valid_tuple hvE hq ht).1; omega⟩
     rw [rels_E] at hk
     split at hk
     ·cases hz : s.rels[k]? with
      | none => rw [hz] at hk; cases hk
      | some z =>
       rw [hz] at hk
       obtain rfl := Option.some.inj hk
       exact (hsok.rel z (List.mem_of_getElem? hz)).name
     ·exact (hsok.rel q (List.mem_of_getElem? hk)).name
    have hw1 := hwalks_spec s hsok (by omega) most
    have hw2 := hwalks_spec (putE s j edge) hEok (by omega) most
    have hT1 := hwA_tot hval hfit m (by omega)
    have hT2 := hwA_tot hvE hfE m (by omega)
    rw [← hmo] at hT1 hT2
    rw [hT1] at hw1
    rw [hT2] at hw2
    have hle : totE s m ≤ totE (putE s j edge) m := by
     unfold totE
     refine sumN_le fun i _ => ?_
     exact backN_le (fun x y h => eB_E hfit e1 e2 edge x y h) _ _ _
    obtain ⟨a, ae, b, be, hea, heb, hab⟩ : ∃ a ae b be : Int, (if totE s m ≤ 1099511627776 then AV.tup [.i .i64 (totE s m), .i .i64 0] else .tup [.i .i64 0, .i .i64 5]) = .tup [.i .i64 a, .i .i64 ae] ∧
      (if totE (putE s j edge) m ≤ 1099511627776 then AV.tup [.i .i64 (totE (putE s j edge) m), .i .i64 0] else .tup [.i .i64 0, .i .i64 5]) = .tup [.i .i64 b, .i .i64 be] ∧
      ((ae == 0 && be == 0 && decide (a > b)) || (ae == 5 && be != 5)) = false := by
     by_cases q1 : totE s m ≤ 1099511627776
     ·by_cases q2 : totE (putE s j edge) m ≤ 1099511627776
      ·refine ⟨_, _, _, _, by rw [if_pos q1], by rw [if_pos q2], ?_⟩
       have : ¬ ((totE s m : Int) > totE (putE s j edge) m) := by omega
       simp [this]
      ·refine ⟨_, _, _, _, by rw [if_pos q1], by rw [if_neg q2], ?_⟩
       simp
     ·have q2 : ¬ totE (putE s j edge) m ≤ 1099511627776 := by omega
      refine ⟨_, _, _, _, by rw [if_neg q1], by rw [if_neg q2], ?_⟩
      simp
    rw [hea] at hw1
    rw [heb] at hw2
    clear hea heb hT1 hT2 hle
    clear hmo
    repeat (first | refine nav ?_ | refine bo ?_)
    (refine wr fun K R hK hR => ?_; simp (maxSteps := 10000000) only [go_sem]; (try go_ints); (repeat refine And.intro side ?_); (first | refine hK _ ?_ | refine hR _ _ ?_); clear hK hR K R)
    refine RL_callF (hput) rfl rfl rfl (by first | (simp only [go_sem] <;> first | exact LeA.refl _ | exact Le.refl _) | exact LeA.refl _) rfl rfl ?_
    (refine rr fun K R hK hR => ?_; simp (maxSteps := 10000000) only [go_sem]; (try go_ints); (repeat refine And.intro side ?_); (first | refine hK _ ?_ | refine hR _ _ ?_); clear hK hR K R)
    repeat (first | refine nav ?_ | refine bo ?_)
    (refine wr fun K R hK hR => ?_; simp (maxSteps := 10000000) only [go_sem]; (try go_ints); (repeat refine And.intro side ?_); (first | refine hK _ ?_ | refine hR _ _ ?_); clear hK hR K R)
    refine RL_callF (hw1) rfl rfl rfl (by first | (simp only [go_sem] <;> first | exact LeA.refl _ | exact Le.refl _) | exact LeA.refl _) rfl rfl ?_
    (refine rr fun K R hK hR => ?_; simp (maxSteps := 10000000) only [go_sem]; (try go_ints); (repeat refine And.intro side ?_); (first | refine hK _ ?_ | refine hR _ _ ?_); clear hK hR K R)
    repeat (first | refine nav ?_ | refine bo ?_)
    (refine wr fun K R hK hR => ?_; simp (maxSteps := 10000000) only [go_sem]; (try go_ints); (repeat refine And.intro side ?_); (first | refine hK _ ?_ | refine hR _ _ ?_); clear hK hR K R)
    refine RL_callF (hw2) rfl rfl rfl (by first | (simp only [go_sem] <;> first | exact LeA.refl _ | exact Le.refl _) | exact LeA.refl _) rfl rfl ?_
    (refine rr fun K R hK hR => ?_; simp (maxSteps := 10000000) only [go_sem]; (try go_ints); (repeat refine And.intro side ?_); (first | refine hK _ ?_ | refine hR _ _ ?_); clear hK hR K R)
    repeat (first | refine nav ?_ | refine bo ?_)
    (refine wr fun K R hK hR => ?_; simp (maxSteps := 10000000) only [go_sem]; (try go_ints); (repeat refine And.intro side ?_); (first | refine hK _ ?_ | refine hR _ _ ?_); clear hK hR K R)
    repeat (first | refine nav ?_ | refine bo ?_)
    refine W_cond (b := false) (by simp only [go_sem, hab]) (fun hb => by cases hb) (fun _ => ?_)
    repeat (first | refine nav ?_ | refine bo ?_)
    exact ⟨_, rfl, by simp [okO, Ob.ltk, AV.ltk, rels, RelD.cells], rfl, rfl, rfl⟩
   ·repeat (first | refine nav ?_ | refine bo ?_)
    exact ⟨_, rfl, rfl, rfl, rfl, rfl⟩
  rintro t1 o1 ⟨hok1, h0, h1, h2⟩
  have l1 := (List.getElem?_eq_some_iff.1 h2).1
  have htl : (tups cls).length = cls.length := tups_len _
  refine nav ?_
  refine W_joinN 98 109 [12] (fun t o' => ∃ J, t 12 = .ptr J 0 0 ∧ okO o' = true ∧ o'[1]? = some (.cells 2 [[.i .i64 vars, .sl 1 (tups cls)]]) ∧ o'[J]? = some (.cells 2 [[.i .i64 vars, .sl 1 (tups (cls ++ [clause]))]])) ?_ ?_
  ·refine W_drawA (by decide +kernel) [100, 103] [0, 1, 2, 3, 4, 6, 7, 8] [5, 9, 11] [10, 12] [[], [0], [], [], [3], [3, 4, 2], [], [6], [6, 7], [7, 6, 8, 2, 4, 3, 5], [5, 3, 4, 2, 8, 6, 7, 9, 0, 1], [], [1, 0, 9, 7, 6, 8, 2, 4, 3, 5, 10, 11]] [[5, 9, 11], [5, 11, 9], [11, 5, 9]] (by decide +kernel) (by decide +kernel) (by decide) ?_
   intro tt htt
   simp only [List.mem_cons, List.not_mem_nil, or_false] at htt
   have happ : tups cls ++ [[AV.sl 1 (ints clause)]] = tups (cls ++ [clause]) := (tups_snoc cls clause).symm
   rcases htt with rfl | rfl | rfl
   all_goals
    simp only [List.filterMap_cons, List.filterMap_nil, List.getElem?_cons_zero, List.getElem?_cons_succ, List.cons_append, List.nil_append]
    (refine D_reg fun K R hK hR => ?_; simp (maxSteps := 10000000) only [go_sem, h1, h2, htl, and_self, if_false]; (try go_ints); (try simp only [go_sem, h1, h2, htl, and_self, if_false]); (repeat refine And.intro side ?_); (first | refine hK _ ?_ | refine hR _ _ ?_); clear hK hR K R)
    refine Fin.id ?_
    refine ⟨_, rfl, o1.length, ?_, ?_, ?_, ?_⟩
    ·simp only [go_sem]
    ·exact okO_app hok1 (by simp [Ob.ltk, AV.ltk])
    ·exact app_get _ h1
    ·rw [← happ]
     simp
  rintro t2 o2 ⟨J, h12, hok2, g1, gJ⟩
  repeat (first | refine nav ?_ | refine bo ?_)
  (refine wr fun K R hK hR => ?_; simp (maxSteps := 10000000) only [go_sem, g1, gJ, h12]; (try go_ints); (try simp only [go_sem, g1, gJ, h12]); (repeat refine And.intro side ?_); (first | refine hK _ ?_ | refine hR _ _ ?_); clear hK hR K R)
  have hn2 : (cls ++ [clause]).length ≤ 10000 := by rw [List.length_append, List.length_singleton]; omega
  have hs2 : sumL (cls ++ [clause]) ≤ 10000 := by
   rw [sumL_app]
   have : sumL [clause] = clause.length := by simp [sumL]
   omega
  have hrv1 := refValid_spec (vars := vars) hn hs1
  have hrv2 := refValid_spec (vars := vars) hn2 hs2
  refine RL_callF (hrv1) rfl rfl rfl (by first | (simp only [go_sem] <;> first | exact LeA.refl _ | exact Le.refl _) | exact LeA.refl _) rfl rfl ?_
  (refine rr fun K R hK hR => ?_; simp (maxSteps := 10000000) only [go_sem, gJ, h12]; (try go_ints); (try simp only [go_sem, gJ, h12]); (repeat refine And.intro side ?_); (first | refine hK _ ?_ | refine hR _ _ ?_); clear hK hR K R)
  refine RL_callDg rfl (by simp only [go_sem] <;> exact rfl) (fun e => hrv2) rfl rfl rfl (fun e => by (try simp only [go_sem] at e); simp only [go_sem, e] <;> (try simp only [go_sem]) <;> first | exact LeA.refl _ | exact Le.refl _) rfl rfl ?_
  (refine rr fun K R hK hR => ?_; simp (maxSteps := 10000000) only [go_sem, g1]; (try go_ints); (try simp only [go_sem, g1]); (repeat refine And.intro side ?_); (first | refine hK _ ?_ | refine hR _ _ ?_); clear hK hR K R)
  repeat (first | refine nav ?_ | refine bo ?_)
  refine W_cond (b := !(validC vars cls) || !(validC vars (cls ++ [clause])) || decide (vars > 12)) (by simp only [go_sem]) (fun hb => ?_) (fun hb => ?_)
  ·repeat (first | refine nav ?_ | refine bo ?_)
   (refine wr fun K R hK hR => ?_; simp (maxSteps := 10000000) only [go_sem]; (try go_ints); (repeat refine And.intro side ?_); (first | refine hK _ ?_ | refine hR _ _ ?_); clear hK hR K R)
   refine RL_callF (awake_spec) rfl rfl rfl (by first | (simp only [go_sem] <;> first | exact LeA.refl _ | exact Le.refl _) | exact LeA.refl _) rfl rfl ?_
   (refine rr fun K R hK hR => ?_; simp (maxSteps := 10000000) only [go_sem]; (try go_ints); (repeat refine And.intro side ?_); (first | refine hK _ ?_ | refine hR _ _ ?_); clear hK hR K R)
   repeat (first | refine nav ?_ | refine bo ?_)
   refine endQ_data (by simp only [go_sem] <;> exact rfl) (Le.of_eq ?_) rfl
   rfl
  ·simp only [Bool.or_eq_false_iff, Bool.not_eq_false', decide_eq_false_iff_not] at hb
   obtain ⟨⟨hva, hvb⟩, hv12⟩ := hb
   obtain ⟨v, rfl⟩ : ∃ v : Nat, vars = v := ⟨vars.toNat, by simp only [validC, Bool.and_eq_true, decide_eq_true_eq] at hva; omega⟩
   have hmr : ∀ {c : List (List Int)} {r : AV}, ModelsR v c r → r = .tup [.i .i64 (cntM v c []), .i .i64 0] := by
    intro c r h
    rcases h with ⟨_, h2 | h2⟩ | ⟨h1, _⟩
    ·have := pow_big h2; omega
    ·have := cnt_big h2; omega
    ·exact h1
   have hle := cntM_more v cls clause
   repeat (first | refine nav ?_ | refine bo ?_)
   (refine wr fun K R hK hR => ?_; simp (maxSteps := 10000000) only [go_sem, g1]; (try go_ints); (try simp only [go_sem, g1]); (repeat refine And.intro side ?_); (first | refine hK _ ?_ | refine hR _ _ ?_); clear hK hR K R)
   refine RL_callR (models_spec hn hs1 hva) modelsR_plain rfl rfl rfl (by simp only [go_sem] <;> exact LeA.refl _) rfl hok2 ?_
   intro r1 hr1
   obtain rfl := hmr hr1
   (refine rr fun K R hK hR => ?_; simp (maxSteps := 10000000) only [go_sem]; (try go_ints); (repeat refine And.intro side ?_); (first | refine hK _ ?_ | refine hR _ _ ?_); clear hK hR K R)
   repeat (first | refine nav ?_ | refine bo ?_)
   (refine wr fun K R hK hR => ?_; simp (maxSteps := 10000000) only [go_sem, gJ, h12]; (try go_ints); (try simp only [go_sem, gJ, h12]); (repeat refine And.intro side ?_); (first | refine hK _ ?_ | refine hR _ _ ?_); clear hK hR K R)
   refine RL_callR (models_spec hn2 hs2 hvb) modelsR_plain rfl rfl rfl (by simp only [go_sem] <;> exact LeA.refl _) rfl hok2 ?_
   intro r2 hr2
   obtain rfl := hmr hr2
   have hdl : decide (((cntM v (cls ++ [clause]) [] : Nat) : Int) ≤ ((cntM v cls [] : Nat) : Int)) = true := decide_eq_true (by omega)
   (refine rr fun K R hK hR => ?_; simp (maxSteps := 10000000) only [go_sem]; (try go_ints); (repeat refine And.intro side ?_); (first | refine hK _ ?_ | refine hR _ _ ?_); clear hK hR K R)
   repeat (first | refine nav ?_ | refine bo ?_)
   (refine wr fun K R hK hR => ?_; simp (maxSteps := 10000000) only [go_sem, hdl]; (try go_ints); (try simp only [go_sem, hdl]); (repeat refine And.intro side ?_); (first | refine hK _ ?_ | refine hR _ _ ?_); clear hK hR K R)
   refine RL_callDg rfl (by simp only [go_sem] <;> exact rfl) (fun e => awake_spec) rfl rfl rfl (fun e => by (try simp only [go_sem] at e); simp only [go_sem, e] <;> (try simp only [go_sem]) <;> first | exact LeA.refl _ | exact Le.refl _) rfl rfl ?_
   (refine rr fun K R hK hR => ?_; simp (maxSteps := 10000000) only [go_sem]; (try go_ints); (repeat refine And.intro side ?_); (first | refine hK _ ?_ | refine hR _ _ ?_); clear hK hR K R)
   repeat (first | refine nav ?_ | refine bo ?_)
   refine endQ_data (by simp only [go_sem] <;> exact rfl) (Le.of_eq ?_) rfl
   rfl
end Go.AW
namespace Go.AW
open Go Go.Proofs TyTry
set_option linter.unusedSimpArgs false
set_option linter.unusedVariables false
set_option maxRecDepth 100000
theorem undClau : Try.prog.underlying 42 = some (.struct (fldsOf Try.prog 42)) := by kernel_rfl
theorem fldsClau : (fldsOf Try.prog 42).toList.map (·.type) = [3, 40] := by kernel_rfl
theorem undMore : Try.prog.underlying 44 = some (.struct (fldsOf Try.prog 44)) := by kernel_rfl
theorem fldsMore : (fldsOf Try.prog 44).toList.map (·.type) = [29, 3, 29] := by kernel_rfl
section
variable {H : Type} {w : World} {enc : TypeId × Value → H} {base : Nat} {spare : Nat → Bool} {held : Bool}
theorem read_clau {k : Nat} {cs : List Value} {d : DataW H} {ps : List MemPlace} (h : DataW.trod enc Try.prog w base spare held k 42 cs = some (d, ps)) (hw : Lite 42 d) :
  ∃ (vars : Int) (cls : List (List Int)), cellsAV Try.prog k 42 d = [.i .i64 vars, .sl 1 (tups cls)] ∧ cls.length ≤ reachBytes ∧ ∀ t ∈ cls, t.length ≤ reachBytes := by
 cases k with
 | zero => simp [DataW.trod] at h
 | succ k =>
  obtain ⟨parts, h1, h2, h3⟩ := read_fields undClau h hw
  rw [fldsClau] at h1 h2 h3
  match parts, h2 with
  | [a, b], _ =>
   obtain ⟨⟨_, _, q0⟩, w0⟩ := h3 0 3 a rfl rfl
   obtain ⟨⟨_, _, q1⟩, w1⟩ := h3 1 40 b rfl rfl
   obtain ⟨n, en⟩ := read_int q0
   obtain ⟨l, el, bl, bt⟩ := read_tups q1 w1
   refine ⟨n, l, ?_, bl, bt⟩
   rw [h1]
   simp only [List.zip_cons_cons, List.zip_nil_right, List.flatMap_cons, List.flatMap_nil, en, el]
   rfl
theorem read_more {k : Nat} {cs : List Value} {d : DataW H} {ps : List MemPlace} (h : DataW.trod enc Try.prog w base spare held k 44 cs = some (d, ps)) (hw : Lite 44 d) :
  ∃ (edge : List Int) (most : Int) (clause : List Int), cellsAV Try.prog k 44 d = [.sl 1 (ints edge), .i .i64 most, .sl 1 (ints clause)] ∧ edge.length ≤ reachBytes ∧ clause.length ≤ reachBytes := by
 cases k with
 | zero => simp [DataW.trod] at h
 | succ k =>
  obtain ⟨parts, h1, h2, h3⟩ := read_fields undMore h hw
  rw [fldsMore] at h1 h2 h3
  match parts, h2 with
  | [a, b, c], _ =>
   obtain ⟨⟨_, _, q0⟩, w0⟩ := h3 0 29 a rfl rfl
   obtain ⟨⟨_, _, q1⟩, w1⟩ := h3 1 3 b rfl rfl
   obtain ⟨⟨_, _, q2⟩, w2⟩ := h3 2 29 c rfl rfl
   obtain ⟨e, ee, be⟩ := read_ints q0 w0
   obtain ⟨n, en⟩ := read_int q1
   obtain ⟨l, el, bl⟩ := read_ints q2 w2
   refine ⟨e, n, l, ?_, be, bl⟩
   rw [h1]
   simp only [List.zip_cons_cons, List.zip_nil_right, List.flatMap_cons, List.flatMap_nil, ee, en, el]
   rfl
end
theorem plainClau (k : Nat) : plainT Try.prog k 42 = true := plainStruct undClau (by decide +kernel) (fun k e he => by
 rw [fldsClau] at he
 simp only [List.mem_cons, List.not_mem_nil, or_false] at he
 rcases he with rfl | rfl
 ·exact plainInt k
 ·exact plainTups k) k
theorem plainMore (k : Nat) : plainT Try.prog k 44 = true := plainStruct undMore (by decide +kernel) (fun k e he => by
 rw [fldsMore] at he
 simp only [List.mem_cons, List.not_mem_nil, or_false] at he
 rcases he with rfl | rfl | rfl
 ·exact plainInts k
 ·exact plainInt k
 ·exact plainInts k) k
end Go.AW
