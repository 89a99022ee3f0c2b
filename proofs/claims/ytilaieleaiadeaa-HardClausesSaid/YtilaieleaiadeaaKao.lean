/-
Contracts: a search that has ended; Solve; Models.
-/
import Derived.Test.YtilaieleaiadeaaKan
import Derived.Test.YtilaieleaiadeaaKam
namespace Go.AW
open Go Go.Proofs TyTry Go.IntWalk
set_option linter.unusedSimpArgs false
set_option linter.unusedVariables false
set_option maxRecDepth 10000
set_option maxHeartbeats 1000000

/-- What an ended search tells. -/
structure Sea (vars : Nat) (list : List (List Int)) (first : Bool) (s : SV) (o : List Ob) : Prop where
  c : 0 ≤ s.cnt ∧ s.cnt ≤ capF
  no : first = false → s.cnt = min (cntM vars list [] : Int) capF
  yes : first = true → (0 < s.cnt ↔ 0 < cntM vars list []) ∧ (0 < s.cnt → ∃ J a, s.md = .ref J 0 vars ∧ o[J]? = some (.cells 1 (bools a)) ∧ a.length = vars ∧ satC list a = true)
def SeaR (vars : Nat) (list : List (List Int)) (first : Bool) (r : AV) (o : List Ob) : Prop :=
  (r = .tup [.nilp, .i .i64 5] ∧ 200000 < 2 ^ vars ∧ okO o = true) ∨ ∃ (K : Nat) (c : Env) (d : IdS) (ta : AV) (s : SV), r = .tup [.ptr K 0 0, .i .i64 0] ∧ okO o = true ∧ o[K]? = some (.cells 13 [rowK c d ta s]) ∧ Sea vars list first s o
theorem cntM_all0 {vars : Nat} {list : List (List Int)} {tr : List Int} (h : ∀ a, satC list a = true → agr tr a = true) : cntM vars list tr = cntM vars list [] := by
  refine cntP_congr _ fun a _ => ?_
  cases hs : satC list a with
  | false => rfl
  | true => rw [h a hs]; rfl
theorem cntM_none {vars : Nat} {list : List (List Int)} (h : ∀ a, satC list a = false) : cntM vars list [] = 0 := by
  refine cntP_zero _ fun a _ => ?_
  rw [h a]; rfl
theorem satC_cln (cls : List (List Int)) (a : List Bool) : satC (cls.map cln) a = satC cls a := by
  simp only [satC, List.all_map]
  refine List.all_congr rfl fun l => ?_
  simp only [Function.comp]
  rw [Bool.eq_iff_iff, List.any_eq_true, List.any_eq_true]
  exact ⟨fun ⟨x, h1, h2⟩ => ⟨x, (cln_mem l x).1 h1, h2⟩, fun ⟨x, h1, h2⟩ => ⟨x, (cln_mem l x).2 h1, h2⟩⟩
theorem cntM_cln (vars : Nat) (cls : List (List Int)) : cntM vars (cls.map cln) [] = cntM vars cls [] := by
  refine cntP_congr _ fun a _ => ?_
  rw [satC_cln]
theorem innOf_le (x : Int) (cls : List (List Int)) : (innOf cls x).length ≤ sumL cls := by
  have key : ∀ i ≤ cls.length, (innOf (cls.take i) x).length ≤ sumL (cls.take i) := by
    intro i
    induction i with
    | zero => intro _; simp [innOf]
    | succ i ih =>
      intro hi
      have hl : cls[i]? = some cls[i] := List.getElem?_eq_getElem (by omega)
      rw [innOf_succ x (by omega), sumL_get hl, List.length_append, List.length_replicate]
      have := ih (by omega)
      have h2 : (cls.getD i []).count x ≤ cls[i].length := by
        rw [getD_of2 hl]
        exact List.count_le_length
      omega
  have := key cls.length (Nat.le_refl _)
  rwa [List.take_length] at this
theorem sumL_cln (cls : List (List Int)) : sumL (cls.map cln) ≤ sumL cls := by
  induction cls with
  | nil => exact Nat.le_refl _
  | cons l cls ih =>
    have h := cln_len l
    simp only [sumL, List.map_cons, List.sum_cons] at ih ⊢
    omega
theorem mem_sumL {cls : List (List Int)} {l : List Int} (h : l ∈ cls) : l.length ≤ sumL cls := by
  induction cls with
  | nil => cases h
  | cons m cls ih =>
    simp only [sumL, List.map_cons, List.sum_cons] at ih ⊢
    rcases List.mem_cons.1 h with rfl | h
    · omega
    · have := ih h; omega
theorem searched0_spec {vars : Int} {cls : List (List Int)} {first : Bool} (hn : cls.length ≤ 10000) (hs : sumL cls ≤ 10000) (hv : validC vars cls = false) :
    ACallsD Try.prog 46 [.agg [.i .i64 vars, .sl 1 (tups cls)], .b first] (.tup [.nilp, .i .i64 1]) := by
  refine ACalls_of' (n := 25) (rs := [.tmp 4, .tmp 5]) (show Try.prog.funcs[46]? = some Try.f46 by kernel_rfl) rfl rfl rfl (by simp) (by decide +kernel) ?_
  repeat (first | refine nav ?_ | refine bo ?_)
  (refine wr fun K R hK hR => ?_; simp (maxSteps := 10000000) only [go_sem]; (try go_ints); (repeat refine And.intro side ?_); (first | refine hK _ ?_ | refine hR _ _ ?_); clear hK hR K R)
  repeat (first | refine nav ?_ | refine bo ?_)
  (refine wr fun K R hK hR => ?_; simp (maxSteps := 10000000) only [go_sem]; (try go_ints); (repeat refine And.intro side ?_); (first | refine hK _ ?_ | refine hR _ _ ?_); clear hK hR K R)
  refine RL_callF (validC_spec hn hs) rfl rfl rfl (by first | (simp only [go_sem] <;> first | exact LeA.refl _ | exact Le.refl _) | exact LeA.refl _) rfl rfl ?_
  (refine rr fun K R hK hR => ?_; simp (maxSteps := 10000000) only [go_sem]; (try go_ints); (repeat refine And.intro side ?_); (first | refine hK _ ?_ | refine hR _ _ ?_); clear hK hR K R)
  repeat (first | refine nav ?_ | refine bo ?_)
  refine W_cond (b := true) (by simp only [go_sem, hv] <;> rfl) (fun _ => ?_) (fun hb => by cases hb)
  repeat (first | refine nav ?_ | refine bo ?_)
  (refine wr fun K R hK hR => ?_; simp (maxSteps := 10000000) only [go_sem]; (try go_ints); (repeat refine And.intro side ?_); (first | refine hK _ ?_ | refine hR _ _ ?_); clear hK hR K R)
  repeat (first | refine nav ?_ | refine bo ?_)
  refine endQ_data (by simp only [go_sem] <;> exact rfl) (Le.of_eq ?_) rfl
  rfl
theorem searched_spec {vars : Nat} {cls : List (List Int)} {first : Bool} (hn : cls.length ≤ 10000) (hs : sumL cls ≤ 10000) (hv : validC vars cls = true) (o0 : List Ob) (ho0 : okO o0 = true) :
    ACalls Try.prog 46 [.agg [.i .i64 vars, .sl 1 (tups cls)], .b first] o0 fun r o => SeaR vars cls first r o ∧ o0.length ≤ o.length := by
  have hokB : okO (o0 ++ [Ob.cells 2 [[.i .i64 vars, .sl 1 (tups cls)]]]) = true := okO_app ho0 (by simp [Ob.ltk, AV.ltk])
  obtain ⟨hv1, hlit⟩ := validC_lit hv
  have hsum : ∀ x, (innOf (cls.map cln) x).length ≤ 200000 := fun x => by
    have h1 := innOf_le x (cls.map cln)
    have h2 := sumL_cln cls
    omega
  have hlen : (cls.map cln).length = cls.length := List.length_map ..
  have hM := cntM_cln vars cls
  refine ACalls_of' (n := 25) (rs := [.tmp 4, .tmp 5]) (show Try.prog.funcs[46]? = some Try.f46 by kernel_rfl) rfl rfl rfl (by simp) (by decide +kernel) ?_
  repeat (first | refine nav ?_ | refine bo ?_)
  (refine wr fun K R hK hR => ?_; simp (maxSteps := 10000000) only [go_sem]; (try go_ints); (repeat refine And.intro side ?_); (first | refine hK _ ?_ | refine hR _ _ ?_); clear hK hR K R)
  repeat (first | refine nav ?_ | refine bo ?_)
  (refine wr fun K R hK hR => ?_; simp (maxSteps := 10000000) only [go_sem]; (try go_ints); (repeat refine And.intro side ?_); (first | refine hK _ ?_ | refine hR _ _ ?_); clear hK hR K R)
  refine RL_callF (validC_spec hn hs) rfl rfl rfl (by first | (simp only [go_sem] <;> first | exact LeA.refl _ | exact Le.refl _) | exact LeA.refl _) rfl rfl ?_
  (refine rr fun K R hK hR => ?_; simp (maxSteps := 10000000) only [go_sem]; (try go_ints); (repeat refine And.intro side ?_); (first | refine hK _ ?_ | refine hR _ _ ?_); clear hK hR K R)
  repeat (first | refine nav ?_ | refine bo ?_)
  refine W_cond (b := false) (by simp only [go_sem, hv] <;> rfl) (fun hb => by cases hb) (fun _ => ?_)
  repeat (first | refine nav ?_ | refine bo ?_)
  (refine wr fun K R hK hR => ?_; simp (maxSteps := 10000000) only [go_sem]; (try go_ints); (repeat refine And.intro side ?_); (first | refine hK _ ?_ | refine hR _ _ ?_); clear hK hR K R)
  have hbs : ACalls Try.prog 64 [.agg [.i .i64 vars, .sl 1 (tups cls)], .b first] (o0 ++ [Ob.cells 2 [[.i .i64 vars, .sl 1 (tups cls)]]]) fun r o' => ∃ (d : IdS) (es : List (AV × AV)) (ok : Bool), r = .tup [.ptr (o0.length + 4) 0 0, .b ok] ∧
      EnvOk (envB vars (cls.map cln) first es) ∧ U3 (o0.length + 4) d (envB vars (cls.map cln) first es) cls.length ok o' ∧ o0.length + 1 ≤ o'.length := by
    have := begin_spec (first := first) hv1 (by omega) (fun l hl => by have := mem_sumL hl; omega) hlit hsum _ hokB
    rw [List.length_append] at this
    exact this
  refine RL_callE hbs (fun r o' ⟨d, es, ok, e1, e2, e3, e4⟩ => ⟨by rw [List.length_append]; exact e4, ?_, ?_⟩) (by simp only [go_sem] <;> exact rfl) rfl rfl (by simp) (by simp only [go_sem] <;> exact LeA.refl _) hokB ?_ ?_
  · obtain ⟨tr, ta, hr, _⟩ := e3.run
    have := (List.getElem?_eq_some_iff.1 hr.k).1
    rw [e1]; simp only [AV.ltk, AV.ltks, Bool.and_true, decide_eq_true_eq]; exact this
  · obtain ⟨tr, ta, hr, _⟩ := e3.run
    exact hr.ok
  · simp [AV.ltk, AV.ltks]
  clear hbs
  rintro r o1 ⟨d, es, ok, rfl, hc, hu, hl1⟩
  obtain ⟨tr, ta, hr, htr, hq⟩ := hu.run
  have l4 := (List.getElem?_eq_some_iff.1 hr.k).1
  generalize hce : envB vars (cls.map cln) first es = c at *
  have hc1 : c.vars = vars := by rw [← hce]; rfl
  have hc2 : c.list = cls.map cln := by rw [← hce]; rfl
  have hc3 : c.first = first := by rw [← hce]; rfl
  (refine rr fun K R hK hR => ?_; simp (maxSteps := 10000000) only [go_sem]; (try go_ints); (repeat refine And.intro side ?_); (first | refine hK _ ?_ | refine hR _ _ ?_); clear hK hR K R)
  repeat (first | refine nav ?_ | refine bo ?_)
  (refine wr fun K R hK hR => ?_; simp (maxSteps := 10000000) only [go_sem]; (try go_ints); (repeat refine And.intro side ?_); (first | refine hK _ ?_ | refine hR _ _ ?_); clear hK hR K R)
  repeat (first | refine nav ?_ | refine bo ?_)
  refine W_joinS 18 20 [] (fun t o2 => ∃ ta2 s2, okO o2 = true ∧ RepG o2 (o0.length + 4) d c ta2 s2 ∧ o0.length ≤ o2.length ∧ s2.exh = decide (s2.br > 200000) ∧ (s2.exh = true → 200000 < 2 ^ vars) ∧ (s2.exh = false → Sea vars cls first s2 o2)) ?_ ?_
  · cases ok with
    | false =>
      have h0 : cntM vars cls [] = 0 := by
        rw [← hM]
        exact cntM_none (by rw [← hc2]; exact hu.no rfl)
      refine W_cond (b := false) (by simp only [go_sem]) (fun hb => by cases hb) (fun _ => ?_)
      repeat (first | refine nav ?_ | refine bo ?_)
      refine ⟨_, rfl, ta, _, hr.ok, hr, by show o0.length ≤ o1.length; omega, rfl, fun h => (by cases h), fun _ => ⟨⟨Int.le_refl _, show (0 : Int) ≤ 1099511627777 by omega⟩, fun _ => ?_, fun _ => ⟨?_, fun h => (by cases h)⟩⟩⟩
      · rw [h0]; rfl
      · rw [h0]; exact ⟨fun h => (by cases h), fun h => (by cases h)⟩
    | true =>
      obtain ⟨hq1, hq2⟩ := hq rfl
      refine W_cond (b := true) (by simp only [go_sem]) (fun _ => ?_) (fun hb => by cases hb)
      repeat (first | refine nav ?_ | refine bo ?_)
      (refine wr fun K R hK hR => ?_; simp (maxSteps := 10000000) only [go_sem]; (try go_ints); (repeat refine And.intro side ?_); (first | refine hK _ ?_ | refine hR _ _ ?_); clear hK hR K R)
      have hne : ∀ l ∈ c.list, l ≠ [] := by
        have := hu.yes rfl
        rw [List.take_of_length_le (by rw [hc2, hlen]; exact Nat.le_refl _)] at this
        exact this
      have hru := run_spec hc hne (c.vars + 1) 0 tr o1 ta 0 0 (by omega) (Nat.zero_le _) hr htr hq1 (fun u hu => by omega) (Int.le_refl _) (by omega) (Int.le_refl _) (by omega) (fun _ => rfl)
      refine RL_callE hru (fun r o' ⟨e1, ta', br', cnt', md', exh', e2, e3, e4⟩ => ⟨e4, by rw [e1]; rfl, e2.ok⟩) (by simp only [go_sem] <;> exact rfl) rfl rfl (by simp) (by simp only [go_sem] <;> first | exact LeA.refl _ | exact Le.refl _) hr.ok (by simp [AV.ltk]; omega) ?_
      rintro r o2 ⟨rfl, ta2, br2, cnt2, md2, exh2, hr2, hrp, hl2⟩
      (refine rr fun K R hK hR => ?_; simp (maxSteps := 10000000) only [go_sem]; (try go_ints); (repeat refine And.intro side ?_); (first | refine hK _ ?_ | refine hR _ _ ?_); clear hK hR K R)
      have hcm : cntM c.vars c.list tr = cntM vars cls [] := by
        rw [cntM_all0 hq2, hc1, hc2, hM]
      rw [hcm] at hrp
      refine ⟨_, rfl, ta2, _, hr2.ok, hr2, by have hl2 : o1.length ≤ o2.length := hl2; show o0.length ≤ o2.length; omega, hrp.ex, fun h => ?_, fun h => ⟨hrp.c0, fun hf => ?_, fun hf => ⟨(hrp.yes (by rw [hc3]; exact hf)).2.1 h, fun h0 => ?_⟩⟩⟩
      · have h1 := hrp.b1
        have h2 := hrp.ex
        have h : exh2 = true := h
        rw [h] at h2
        have h2 := of_decide_eq_true h2.symm
        rw [Nat.sub_zero, hc1] at h1
        omega
      · have := (hrp.no (by rw [hc3]; exact hf)).2 h
        rw [this, Int.zero_add]; rfl
      · obtain ⟨J, a, e1, e2, e3, e4, _⟩ := (hrp.yes (by rw [hc3]; exact hf)).2.2 h0
        rw [hc1] at e1 e3
        rw [hc2, satC_cln] at e4
        exact ⟨J, a, e1, e2, e3, e4⟩
  rintro t2 o2 ⟨ta2, s2, hok2, hr2, hl2, he2, hx2, hs2⟩
  have hk2 := hr2.k
  have l42 := (List.getElem?_eq_some_iff.1 hk2).1
  repeat (first | refine nav ?_ | refine bo ?_)
  (refine wr fun K R hK hR => ?_; simp (maxSteps := 10000000) only [go_sem, hk2, rowK]; (try go_ints); (try simp only [go_sem, hk2, rowK]); (repeat refine And.intro side ?_); (first | refine hK _ ?_ | refine hR _ _ ?_); clear hK hR K R)
  repeat (first | refine nav ?_ | refine bo ?_)
  refine W_cond (b := s2.exh) (by simp only [go_sem]) (fun hb => ?_) (fun hb => ?_)
  · repeat (first | refine nav ?_ | refine bo ?_)
    (refine wr fun K R hK hR => ?_; simp (maxSteps := 10000000) only [go_sem]; (try go_ints); (repeat refine And.intro side ?_); (first | refine hK _ ?_ | refine hR _ _ ?_); clear hK hR K R)
    repeat (first | refine nav ?_ | refine bo ?_)
    refine endQ_all (by simp only [go_sem] <;> exact rfl) (Le.refl _) hl2 hok2 rfl ⟨.inl ⟨rfl, hx2 hb, hok2⟩, hl2⟩
  · repeat (first | refine nav ?_ | refine bo ?_)
    (refine wr fun K R hK hR => ?_; simp (maxSteps := 10000000) only [go_sem]; (try go_ints); (repeat refine And.intro side ?_); (first | refine hK _ ?_ | refine hR _ _ ?_); clear hK hR K R)
    repeat (first | refine nav ?_ | refine bo ?_)
    refine endQ_all (by simp only [go_sem] <;> exact rfl) (Le.refl _) hl2 hok2 (by simp only [AV.ltk, AV.ltks, Bool.and_true, decide_eq_true_eq]; exact l42) ⟨.inr ⟨o0.length + 4, c, d, ta2, s2, rfl, hok2, hk2, hs2 hb⟩, hl2⟩
/-- What Solve brings. -/
def SolveR (vars : Nat) (cls : List (List Int)) (r : AV) : Prop :=
  (r = .tup [.sl 1 [], .i .i64 5] ∧ 200000 < 2 ^ vars) ∨ (r = .tup [.sl 1 [], .i .i64 6] ∧ cntM vars cls [] = 0) ∨ ∃ a, r = .tup [.sl 1 (bools a), .i .i64 0] ∧ a.length = vars ∧ satC cls a = true
def ModelsR (vars : Nat) (cls : List (List Int)) (r : AV) : Prop :=
  (r = .tup [.i .i64 0, .i .i64 5] ∧ (200000 < 2 ^ vars ∨ 1099511627776 < cntM vars cls [])) ∨ (r = .tup [.i .i64 (cntM vars cls []), .i .i64 0] ∧ cntM vars cls [] ≤ 1099511627776)
theorem solve0_spec {vars : Int} {cls : List (List Int)} (hn : cls.length ≤ 10000) (hs : sumL cls ≤ 10000) (hv : validC vars cls = false) :
    ACallsD Try.prog 22 [.agg [.i .i64 vars, .sl 1 (tups cls)]] (.tup [.sl 1 [], .i .i64 1]) := by
  refine ACalls_of' (n := 25) (rs := [.tmp 2, .tmp 3]) (show Try.prog.funcs[22]? = some Try.f22 by kernel_rfl) rfl rfl rfl (by simp) (by decide +kernel) ?_
  repeat (first | refine nav ?_ | refine bo ?_)
  (refine wr fun K R hK hR => ?_; simp (maxSteps := 10000000) only [go_sem]; (try go_ints); (repeat refine And.intro side ?_); (first | refine hK _ ?_ | refine hR _ _ ?_); clear hK hR K R)
  repeat (first | refine nav ?_ | refine bo ?_)
  (refine wr fun K R hK hR => ?_; simp (maxSteps := 10000000) only [go_sem]; (try go_ints); (repeat refine And.intro side ?_); (first | refine hK _ ?_ | refine hR _ _ ?_); clear hK hR K R)
  refine RL_callF (searched0_spec (first := true) hn hs hv) rfl rfl rfl (by first | (simp only [go_sem] <;> first | exact LeA.refl _ | exact Le.refl _) | exact LeA.refl _) rfl rfl ?_
  (refine rr fun K R hK hR => ?_; simp (maxSteps := 10000000) only [go_sem]; (try go_ints); (repeat refine And.intro side ?_); (first | refine hK _ ?_ | refine hR _ _ ?_); clear hK hR K R)
  repeat (first | refine nav ?_ | refine bo ?_)
  (refine wr fun K R hK hR => ?_; simp (maxSteps := 10000000) only [go_sem]; (try go_ints); (repeat refine And.intro side ?_); (first | refine hK _ ?_ | refine hR _ _ ?_); clear hK hR K R)
  repeat (first | refine nav ?_ | refine bo ?_)
  refine W_cond (b := true) (by simp only [go_sem] <;> rfl) (fun _ => ?_) (fun hb => by cases hb)
  repeat (first | refine nav ?_ | refine bo ?_)
  (refine wr fun K R hK hR => ?_; simp (maxSteps := 10000000) only [go_sem]; (try go_ints); (repeat refine And.intro side ?_); (first | refine hK _ ?_ | refine hR _ _ ?_); clear hK hR K R)
  repeat (first | refine nav ?_ | refine bo ?_)
  refine endQ_data (by simp only [go_sem] <;> exact rfl) (Le.refl _) rfl
theorem solve_spec {vars : Nat} {cls : List (List Int)} (hn : cls.length ≤ 10000) (hs : sumL cls ≤ 10000) (hv : validC vars cls = true) :
    ACalls Try.prog 22 [.agg [.i .i64 vars, .sl 1 (tups cls)]] [] fun r o => SolveR vars cls r ∧ o = [] := by
  refine ACalls_of' (n := 25) (rs := [.tmp 2, .tmp 3]) (show Try.prog.funcs[22]? = some Try.f22 by kernel_rfl) rfl rfl rfl (by simp) (by decide +kernel) ?_
  repeat (first | refine nav ?_ | refine bo ?_)
  (refine wr fun K R hK hR => ?_; simp (maxSteps := 10000000) only [go_sem]; (try go_ints); (repeat refine And.intro side ?_); (first | refine hK _ ?_ | refine hR _ _ ?_); clear hK hR K R)
  repeat (first | refine nav ?_ | refine bo ?_)
  (refine wr fun K R hK hR => ?_; simp (maxSteps := 10000000) only [go_sem]; (try go_ints); (repeat refine And.intro side ?_); (first | refine hK _ ?_ | refine hR _ _ ?_); clear hK hR K R)
  refine RL_callE (searched_spec (first := true) hn hs hv _ rfl) (fun r o' ⟨h1, h2⟩ => ?_) (by simp only [go_sem] <;> exact rfl) rfl rfl (by simp) (by simp only [go_sem] <;> exact LeA.refl _) rfl ?_ ?_
  · rcases h1 with ⟨rfl, _, h3⟩ | ⟨K, c, d, ta, s, rfl, h3, h4, _⟩
    · exact ⟨h2, rfl, h3⟩
    · exact ⟨h2, by simp only [AV.ltk, AV.ltks, Bool.and_true, decide_eq_true_eq]; exact (List.getElem?_eq_some_iff.1 h4).1, h3⟩
  · simp [AV.ltk, AV.ltks]
  rintro r o1 ⟨hse, hl1⟩
  rcases hse with ⟨rfl, hx, _⟩ | ⟨K, c, d, ta, s, rfl, hok, hk, hs⟩
  · (refine rr fun K R hK hR => ?_; simp (maxSteps := 10000000) only [go_sem]; (try go_ints); (repeat refine And.intro side ?_); (first | refine hK _ ?_ | refine hR _ _ ?_); clear hK hR K R)
    repeat (first | refine nav ?_ | refine bo ?_)
    (refine wr fun K R hK hR => ?_; simp (maxSteps := 10000000) only [go_sem]; (try go_ints); (repeat refine And.intro side ?_); (first | refine hK _ ?_ | refine hR _ _ ?_); clear hK hR K R)
    repeat (first | refine nav ?_ | refine bo ?_)
    refine W_cond (b := true) (by simp only [go_sem] <;> rfl) (fun _ => ?_) (fun hb => by cases hb)
    repeat (first | refine nav ?_ | refine bo ?_)
    (refine wr fun K R hK hR => ?_; simp (maxSteps := 10000000) only [go_sem]; (try go_ints); (repeat refine And.intro side ?_); (first | refine hK _ ?_ | refine hR _ _ ?_); clear hK hR K R)
    repeat (first | refine nav ?_ | refine bo ?_)
    exact endQ_rel (by simp only [go_sem] <;> exact rfl) (Le.refl _) rfl (.inl ⟨rfl, hx⟩)
  · (refine rr fun K R hK hR => ?_; simp (maxSteps := 10000000) only [go_sem]; (try go_ints); (repeat refine And.intro side ?_); (first | refine hK _ ?_ | refine hR _ _ ?_); clear hK hR K R)
    repeat (first | refine nav ?_ | refine bo ?_)
    (refine wr fun K R hK hR => ?_; simp (maxSteps := 10000000) only [go_sem]; (try go_ints); (repeat refine And.intro side ?_); (first | refine hK _ ?_ | refine hR _ _ ?_); clear hK hR K R)
    repeat (first | refine nav ?_ | refine bo ?_)
    refine W_cond (b := false) (by simp only [go_sem] <;> rfl) (fun hb => by cases hb) (fun _ => ?_)
    have hc := hs.c
    repeat (first | refine nav ?_ | refine bo ?_)
    (refine wr fun K R hK hR => ?_; simp (maxSteps := 10000000) only [go_sem, hk, rowK]; (try go_ints); (try simp only [go_sem, hk, rowK]); (repeat refine And.intro side ?_); (first | refine hK _ ?_ | refine hR _ _ ?_); clear hK hR K R)
    repeat (first | refine nav ?_ | refine bo ?_)
    refine W_cond (b := s.cnt == 0) (by simp only [go_sem] <;> rfl) (fun hb => ?_) (fun hb => ?_)
    · have hb : s.cnt = 0 := by simpa using hb
      have h0 := (hs.yes rfl).1
      repeat (first | refine nav ?_ | refine bo ?_)
      (refine wr fun K R hK hR => ?_; simp (maxSteps := 10000000) only [go_sem]; (try go_ints); (repeat refine And.intro side ?_); (first | refine hK _ ?_ | refine hR _ _ ?_); clear hK hR K R)
      repeat (first | refine nav ?_ | refine bo ?_)
      exact endQ_rel (by simp only [go_sem] <;> exact rfl) (Le.refl _) rfl (.inr (.inl ⟨rfl, by omega⟩))
    · have hb : ¬ s.cnt = 0 := by simpa using hb
      obtain ⟨J, a, e1, e2, e3, e4⟩ := (hs.yes rfl).2 (by omega)
      subst e3
      repeat (first | refine nav ?_ | refine bo ?_)
      (refine wr fun K R hK hR => ?_; simp (maxSteps := 10000000) only [go_sem, hk, rowK, e1]; (try go_ints); (try simp only [go_sem, hk, rowK, e1]); (repeat refine And.intro side ?_); (first | refine hK _ ?_ | refine hR _ _ ?_); clear hK hR K R)
      refine seqQ_normal ?_
      refine W_freeze J (sz := 1) (rows := bools a) (by exact e2) (by simp [bools, AV.dat, AV.ltk, AV.plain]) ?_
      have hlen : (bools a).length = a.length := by simp [bools]
      have htk : List.take a.length (bools a) = bools a := List.take_of_length_le (by omega)
      have hd0 : (bools a).map (fun r => r.map AV.dat) = bools a := by simp [bools, Function.comp_def, AV.dat]
      repeat (first | refine nav ?_ | refine bo ?_)
      refine endQ_rel (by simp [resAV, resL, res1, frS, AV.unref, upd, mix_at, inL, hlen, htk, hd0, ung, AV.dat] <;> exact rfl) (Le.refl _) rfl (.inr (.inr ⟨a, rfl, rfl, e4⟩))
theorem models0_spec {vars : Int} {cls : List (List Int)} (hn : cls.length ≤ 10000) (hs : sumL cls ≤ 10000) (hv : validC vars cls = false) :
    ACallsD Try.prog 20 [.agg [.i .i64 vars, .sl 1 (tups cls)]] (.tup [.i .i64 0, .i .i64 1]) := by
  refine ACalls_of' (n := 25) (rs := [.tmp 2, .tmp 3]) (show Try.prog.funcs[20]? = some Try.f20 by kernel_rfl) rfl rfl rfl (by simp) (by decide +kernel) ?_
  repeat (first | refine nav ?_ | refine bo ?_)
  (refine wr fun K R hK hR => ?_; simp (maxSteps := 10000000) only [go_sem]; (try go_ints); (repeat refine And.intro side ?_); (first | refine hK _ ?_ | refine hR _ _ ?_); clear hK hR K R)
  repeat (first | refine nav ?_ | refine bo ?_)
  (refine wr fun K R hK hR => ?_; simp (maxSteps := 10000000) only [go_sem]; (try go_ints); (repeat refine And.intro side ?_); (first | refine hK _ ?_ | refine hR _ _ ?_); clear hK hR K R)
  refine RL_callF (searched0_spec (first := false) hn hs hv) rfl rfl rfl (by first | (simp only [go_sem] <;> first | exact LeA.refl _ | exact Le.refl _) | exact LeA.refl _) rfl rfl ?_
  (refine rr fun K R hK hR => ?_; simp (maxSteps := 10000000) only [go_sem]; (try go_ints); (repeat refine And.intro side ?_); (first | refine hK _ ?_ | refine hR _ _ ?_); clear hK hR K R)
  repeat (first | refine nav ?_ | refine bo ?_)
  (refine wr fun K R hK hR => ?_; simp (maxSteps := 10000000) only [go_sem]; (try go_ints); (repeat refine And.intro side ?_); (first | refine hK _ ?_ | refine hR _ _ ?_); clear hK hR K R)
  repeat (first | refine nav ?_ | refine bo ?_)
  refine W_cond (b := true) (by simp only [go_sem] <;> rfl) (fun _ => ?_) (fun hb => by cases hb)
  repeat (first | refine nav ?_ | refine bo ?_)
  (refine wr fun K R hK hR => ?_; simp (maxSteps := 10000000) only [go_sem]; (try go_ints); (repeat refine And.intro side ?_); (first | refine hK _ ?_ | refine hR _ _ ?_); clear hK hR K R)
  repeat (first | refine nav ?_ | refine bo ?_)
  refine endQ_data (by simp only [go_sem] <;> exact rfl) (Le.refl _) rfl
theorem models_spec {vars : Nat} {cls : List (List Int)} (hn : cls.length ≤ 10000) (hs : sumL cls ≤ 10000) (hv : validC vars cls = true) :
    ACalls Try.prog 20 [.agg [.i .i64 vars, .sl 1 (tups cls)]] [] fun r o => ModelsR vars cls r ∧ o = [] := by
  refine ACalls_of' (n := 25) (rs := [.tmp 2, .tmp 3]) (show Try.prog.funcs[20]? = some Try.f20 by kernel_rfl) rfl rfl rfl (by simp) (by decide +kernel) ?_
  repeat (first | refine nav ?_ | refine bo ?_)
  (refine wr fun K R hK hR => ?_; simp (maxSteps := 10000000) only [go_sem]; (try go_ints); (repeat refine And.intro side ?_); (first | refine hK _ ?_ | refine hR _ _ ?_); clear hK hR K R)
  repeat (first | refine nav ?_ | refine bo ?_)
  (refine wr fun K R hK hR => ?_; simp (maxSteps := 10000000) only [go_sem]; (try go_ints); (repeat refine And.intro side ?_); (first | refine hK _ ?_ | refine hR _ _ ?_); clear hK hR K R)
  refine RL_callE (searched_spec (first := false) hn hs hv _ rfl) (fun r o' ⟨h1, h2⟩ => ?_) (by simp only [go_sem] <;> exact rfl) rfl rfl (by simp) (by simp only [go_sem] <;> exact LeA.refl _) rfl ?_ ?_
  · rcases h1 with ⟨rfl, _, h3⟩ | ⟨K, c, d, ta, s, rfl, h3, h4, _⟩
    · exact ⟨h2, rfl, h3⟩
    · exact ⟨h2, by simp only [AV.ltk, AV.ltks, Bool.and_true, decide_eq_true_eq]; exact (List.getElem?_eq_some_iff.1 h4).1, h3⟩
  · simp [AV.ltk, AV.ltks]
  rintro r o1 ⟨hse, hl1⟩
  rcases hse with ⟨rfl, hx, _⟩ | ⟨K, c, d, ta, s, rfl, hok, hk, hs⟩
  · (refine rr fun K R hK hR => ?_; simp (maxSteps := 10000000) only [go_sem]; (try go_ints); (repeat refine And.intro side ?_); (first | refine hK _ ?_ | refine hR _ _ ?_); clear hK hR K R)
    repeat (first | refine nav ?_ | refine bo ?_)
    (refine wr fun K R hK hR => ?_; simp (maxSteps := 10000000) only [go_sem]; (try go_ints); (repeat refine And.intro side ?_); (first | refine hK _ ?_ | refine hR _ _ ?_); clear hK hR K R)
    repeat (first | refine nav ?_ | refine bo ?_)
    refine W_cond (b := true) (by simp only [go_sem] <;> rfl) (fun _ => ?_) (fun hb => by cases hb)
    repeat (first | refine nav ?_ | refine bo ?_)
    (refine wr fun K R hK hR => ?_; simp (maxSteps := 10000000) only [go_sem]; (try go_ints); (repeat refine And.intro side ?_); (first | refine hK _ ?_ | refine hR _ _ ?_); clear hK hR K R)
    repeat (first | refine nav ?_ | refine bo ?_)
    exact endQ_rel (by simp only [go_sem] <;> exact rfl) (Le.refl _) rfl (.inl ⟨rfl, .inl hx⟩)
  · (refine rr fun K R hK hR => ?_; simp (maxSteps := 10000000) only [go_sem]; (try go_ints); (repeat refine And.intro side ?_); (first | refine hK _ ?_ | refine hR _ _ ?_); clear hK hR K R)
    repeat (first | refine nav ?_ | refine bo ?_)
    (refine wr fun K R hK hR => ?_; simp (maxSteps := 10000000) only [go_sem]; (try go_ints); (repeat refine And.intro side ?_); (first | refine hK _ ?_ | refine hR _ _ ?_); clear hK hR K R)
    repeat (first | refine nav ?_ | refine bo ?_)
    refine W_cond (b := false) (by simp only [go_sem] <;> rfl) (fun hb => by cases hb) (fun _ => ?_)
    have hc := hs.c
    have hcap : capF = 1099511627777 := rfl
    have hcn := hs.no rfl
    repeat (first | refine nav ?_ | refine bo ?_)
    (refine wr fun K R hK hR => ?_; simp (maxSteps := 10000000) only [go_sem, hk, rowK]; (try go_ints); (try simp only [go_sem, hk, rowK]); (repeat refine And.intro side ?_); (first | refine hK _ ?_ | refine hR _ _ ?_); clear hK hR K R)
    repeat (first | refine nav ?_ | refine bo ?_)
    refine W_cond (b := decide (s.cnt > 1099511627776)) (by simp only [go_sem] <;> rfl) (fun hb => ?_) (fun hb => ?_)
    · have hb : s.cnt > 1099511627776 := by simpa using hb
      repeat (first | refine nav ?_ | refine bo ?_)
      (refine wr fun K R hK hR => ?_; simp (maxSteps := 10000000) only [go_sem]; (try go_ints); (repeat refine And.intro side ?_); (first | refine hK _ ?_ | refine hR _ _ ?_); clear hK hR K R)
      repeat (first | refine nav ?_ | refine bo ?_)
      exact endQ_rel (by simp only [go_sem] <;> exact rfl) (Le.refl _) rfl (.inl ⟨rfl, .inr (by omega)⟩)
    · have hb : ¬ s.cnt > 1099511627776 := by simpa using hb
      have hce : s.cnt = (cntM vars cls [] : Int) := by omega
      repeat (first | refine nav ?_ | refine bo ?_)
      (refine wr fun K R hK hR => ?_; simp (maxSteps := 10000000) only [go_sem, hk, rowK, hce]; (try go_ints); (try simp only [go_sem, hk, rowK, hce]); (repeat refine And.intro side ?_); (first | refine hK _ ?_ | refine hR _ _ ?_); clear hK hR K R)
      repeat (first | refine nav ?_ | refine bo ?_)
      exact endQ_rel (by simp only [go_sem] <;> exact rfl) (Le.refl _) rfl (.inr ⟨rfl, by omega⟩)
end Go.AW
/-
The document's search for models: unit propagation, a clause.
-/
namespace Go.AW
open Go Go.Proofs TyTry Go.IntWalk
set_option linter.unusedSimpArgs false
set_option linter.unusedVariables false
set_option maxRecDepth 10000
set_option maxHeartbeats 1000000

theorem RS_get1 {vars : Nat} {list : List (List Int)} {tr : List Int} {left : Int} : (RS vars list tr left)[1]? = some (.cells 3 [[.sl 1 (tups list), .ref 0 0 vars, .i .i64 left]]) := rfl
theorem RS_get0 {vars : Nat} {list : List (List Int)} {tr : List Int} {left : Int} : (RS vars list tr left)[0]? = some (.cells 1 (ints (valL vars tr))) := rfl
theorem scanLoop {c : Code} (hc : blkAt 4 (Try.f66.body.getD .skip) = some c) {Q : Exit → St → Prop} {vars : Nat} {list : List (List Int)} {tr : List Int} {left : Int} {i : Nat} {l : List Int} (hv : vars ≤ 20000) (htr : TrOk vars tr)
    (hl : list[i]? = some l) (hn : list.length ≤ 10000) (hll : l.length ≤ 10000) (hlit : ∀ x ∈ l, LitOk vars x) {t0 : Nat → AV} (h0 : t0 0 = .ptr 1 0 0) (h6 : t0 6 = .i .i64 i) (h7 : t0 7 = .i .i64 0) (h8 : t0 8 = .i .i64 0) (h9 : t0 9 = .b false) (h10 : t0 10 = .i .i64 0)
    (hend : ∀ t, t 7 = .i .i64 (scan tr l).op → t 8 = .i .i64 (scan tr l).many → t 9 = .b (scan tr l).met → Q (.exit 4) ⟨mix 47 86 [7, 8, 9, 10, 11] t t0, RS vars list tr left⟩) : W Try.prog 118 c Q ⟨t0, RS vars list tr left⟩ := by
  simp only [Try.f66, Option.getD_some, blkAt, Nat.reduceEqDiff, reduceIte, Option.some.injEq] at hc
  subst hc
  have hlt := (List.getElem?_eq_some_iff.1 hl).1
  have hok := RS_ok vars list tr left
  repeat (first | refine nav ?_ | refine bo ?_)
  refine W_for 47 86 [7, 8, 9, 10, 11] (fun m t o => ∃ j : Nat, o = RS vars list tr left ∧ t 7 = .i .i64 (scan tr (l.take j)).op ∧ t 8 = .i .i64 (scan tr (l.take j)).many ∧ t 9 = .b (scan tr (l.take j)).met ∧ t 10 = .i .i64 j ∧ m = l.length - j ∧ j ≤ l.length) l.length ⟨0, rfl, by rw [h7]; rfl, by rw [h8]; rfl, by rw [h9]; rfl, h10, rfl, by omega⟩ ?_
  rintro m t o ⟨j, rfl, h7, h8, h9, h10, rfl, hj⟩
  repeat (first | refine nav ?_ | refine bo ?_)
  (refine wr fun K R hK hR => ?_; simp (maxSteps := 10000000) only [go_sem, h0, h6, h10, RS_get1, tups_get hl]; (try go_ints); (try simp only [go_sem, h0, h6, h10, RS_get1, tups_get hl]); (repeat refine And.intro side ?_); (first | refine hK _ ?_ | refine hR _ _ ?_); clear hK hR K R)
  repeat (first | refine nav ?_ | refine bo ?_)
  refine W_cond (by simp only [go_sem] <;> exact rfl) (fun hb => ?_) (fun hb => ?_)
  · have hb : j < l.length := by simpa using hb
    obtain ⟨x, hx⟩ : ∃ x, l[j]? = some x := ⟨_, List.getElem?_eq_getElem hb⟩
    have hxl := hlit x (List.mem_of_getElem? hx)
    have hst := scan_take (tr := tr) hx
    have hsp := scan_ok tr (l.take j)
    have hm1 := hsp.many
    rw [List.length_take] at hm1
    generalize hsc : scan tr (l.take j) = s at *
    repeat (first | refine nav ?_ | refine bo ?_)
    (refine wr fun K R hK hR => ?_; simp (maxSteps := 10000000) only [go_sem, h0, h6, h10, RS_get1, tups_get hl, ints_get hx]; (try go_ints); (try simp only [go_sem, h0, h6, h10, RS_get1, tups_get hl, ints_get hx]); (repeat refine And.intro side ?_); (first | refine hK _ ?_ | refine hR _ _ ?_); clear hK hR K R)
    repeat (first | refine nav ?_ | refine bo ?_)
    (refine wr fun K R hK hR => ?_; simp (maxSteps := 10000000) only [go_sem, h0]; (try go_ints); (try simp only [go_sem, h0]); (repeat refine And.intro side ?_); (first | refine hK _ ?_ | refine hR _ _ ?_); clear hK hR K R)
    refine RL_callQ (literal_spec hv htr hxl) (by simp only [go_sem] <;> exact rfl) rfl rfl (by simp) (by simp only [go_sem] <;> exact LeA.refl _) hok rfl rfl ?_
    (refine rr fun K R hK hR => ?_; simp (maxSteps := 10000000) only [go_sem]; (try go_ints); (repeat refine And.intro side ?_); (first | refine hK _ ?_ | refine hR _ _ ?_); clear hK hR K R)
    repeat (first | refine nav ?_ | refine bo ?_)
    (refine wr fun K R hK hR => ?_; simp (maxSteps := 10000000) only [go_sem]; (try go_ints); (repeat refine And.intro side ?_); (first | refine hK _ ?_ | refine hR _ _ ?_); clear hK hR K R)
    repeat (first | refine nav ?_ | refine bo ?_)
    refine W_cond (b := isL tr x == 1) (by simp only [go_sem]) (fun hb2 => ?_) (fun hb2 => ?_)
    · have hb2 : isL tr x = 1 := by simpa using hb2
      have hse : scan tr (l.take (j + 1)) = { s with met := true } := by rw [hst, stp, if_pos hb2]
      repeat (first | refine nav ?_ | refine bo ?_)
      (refine wr fun K R hK hR => ?_; simp (maxSteps := 10000000) only [go_sem, h10]; (try go_ints); (try simp only [go_sem, h10]); (repeat refine And.intro side ?_); (first | refine hK _ ?_ | refine hR _ _ ?_); clear hK hR K R)
      repeat (first | refine nav ?_ | refine bo ?_)
      (refine wr fun K R hK hR => ?_; simp (maxSteps := 10000000) only [go_sem, h10]; (try go_ints); (try simp only [go_sem, h10]); (repeat refine And.intro side ?_); (first | refine hK _ ?_ | refine hR _ _ ?_); clear hK hR K R)
      repeat (first | refine nav ?_ | refine bo ?_)
      refine forQ_normal (l.length - (j + 1)) (by omega) ⟨j + 1, rfl, ?_, ?_, ?_, ?_, rfl, by omega⟩ <;> (try rw [hse])
      all_goals simp only [go_sem, h7, h8] <;> simp
    · have hb2 : ¬ isL tr x = 1 := by simpa using hb2
      repeat (first | refine nav ?_ | refine bo ?_)
      (refine wr fun K R hK hR => ?_; simp (maxSteps := 10000000) only [go_sem]; (try go_ints); (repeat refine And.intro side ?_); (first | refine hK _ ?_ | refine hR _ _ ?_); clear hK hR K R)
      repeat (first | refine nav ?_ | refine bo ?_)
      refine W_cond (b := isL tr x == 0) (by simp only [go_sem]) (fun hb3 => ?_) (fun hb3 => ?_)
      · have hb3 : isL tr x = 0 := by simpa using hb3
        have hse : scan tr (l.take (j + 1)) = { s with op := x, many := if s.many = 0 ∨ x ≠ s.op then s.many + 1 else s.many } := by rw [hst, stp, if_neg hb2, if_pos hb3]
        repeat (first | refine nav ?_ | refine bo ?_)
        (refine wr fun K R hK hR => ?_; simp (maxSteps := 10000000) only [go_sem, h7, h8]; (try go_ints); (try simp only [go_sem, h7, h8]); (repeat refine And.intro side ?_); (first | refine hK _ ?_ | refine hR _ _ ?_); clear hK hR K R)
        repeat (first | refine nav ?_ | refine bo ?_)
        refine W_cond (b := s.many == 0 || !(x == s.op)) (by simp only [go_sem] <;> rfl) (fun hb4 => ?_) (fun hb4 => ?_)
        · have hb4 : s.many = 0 ∨ x ≠ s.op := by simpa using hb4
          rw [if_pos hb4] at hse
          repeat (first | refine nav ?_ | refine bo ?_)
          (refine wr fun K R hK hR => ?_; simp (maxSteps := 10000000) only [go_sem, h8]; (try go_ints); (try simp only [go_sem, h8]); (repeat refine And.intro side ?_); (first | refine hK _ ?_ | refine hR _ _ ?_); clear hK hR K R)
          repeat (first | refine nav ?_ | refine bo ?_)
          (refine wr fun K R hK hR => ?_; simp (maxSteps := 10000000) only [go_sem]; (try go_ints); (repeat refine And.intro side ?_); (first | refine hK _ ?_ | refine hR _ _ ?_); clear hK hR K R)
          repeat (first | refine nav ?_ | refine bo ?_)
          (refine wr fun K R hK hR => ?_; simp (maxSteps := 10000000) only [go_sem, h10]; (try go_ints); (try simp only [go_sem, h10]); (repeat refine And.intro side ?_); (first | refine hK _ ?_ | refine hR _ _ ?_); clear hK hR K R)
          repeat (first | refine nav ?_ | refine bo ?_)
          refine forQ_normal (l.length - (j + 1)) (by omega) ⟨j + 1, rfl, ?_, ?_, ?_, ?_, rfl, by omega⟩ <;> (try rw [hse])
          all_goals simp only [go_sem, h9] <;> simp
        · have hb4 : ¬ (s.many = 0 ∨ x ≠ s.op) := by simpa using hb4
          rw [if_neg hb4] at hse
          repeat (first | refine nav ?_ | refine bo ?_)
          (refine wr fun K R hK hR => ?_; simp (maxSteps := 10000000) only [go_sem]; (try go_ints); (repeat refine And.intro side ?_); (first | refine hK _ ?_ | refine hR _ _ ?_); clear hK hR K R)
          repeat (first | refine nav ?_ | refine bo ?_)
          (refine wr fun K R hK hR => ?_; simp (maxSteps := 10000000) only [go_sem, h10]; (try go_ints); (try simp only [go_sem, h10]); (repeat refine And.intro side ?_); (first | refine hK _ ?_ | refine hR _ _ ?_); clear hK hR K R)
          repeat (first | refine nav ?_ | refine bo ?_)
          refine forQ_normal (l.length - (j + 1)) (by omega) ⟨j + 1, rfl, ?_, ?_, ?_, ?_, rfl, by omega⟩ <;> (try rw [hse])
          all_goals simp only [go_sem, h8, h9] <;> simp
      · have hb3 : ¬ isL tr x = 0 := by simpa using hb3
        have hse : scan tr (l.take (j + 1)) = s := by rw [hst, stp, if_neg hb2, if_neg hb3]
        repeat (first | refine nav ?_ | refine bo ?_)
        (refine wr fun K R hK hR => ?_; simp (maxSteps := 10000000) only [go_sem, h10]; (try go_ints); (try simp only [go_sem, h10]); (repeat refine And.intro side ?_); (first | refine hK _ ?_ | refine hR _ _ ?_); clear hK hR K R)
        repeat (first | refine nav ?_ | refine bo ?_)
        refine forQ_normal (l.length - (j + 1)) (by omega) ⟨j + 1, rfl, ?_, ?_, ?_, ?_, rfl, by omega⟩ <;> (try rw [hse])
        all_goals simp only [go_sem, h7, h8, h9] <;> simp
  · have hb : ¬ j < l.length := by simpa using hb
    obtain rfl : j = l.length := by omega
    rw [List.take_length] at h7 h8 h9
    repeat (first | refine nav ?_ | refine bo ?_)
    exact hend _ h7 h8 h9
def varI (x : Int) : Int := (if x > 0 then x else -x) - 1
def vsI (e : List Int) : List (List AV) := ints (e.map varI)
/-- A clause that says nothing. -/
def Met (T l : List Int) : Prop := (scan T l).met = true ∨ ∃ x ∈ l, isL T x = 0
structure SpI (vars : Nat) (list : List (List Int)) (tr e : List Int) : Prop where
  ok : TrOk vars (tr ++ e)
  cnt : cntM vars list (tr ++ e) = cntM vars list tr
structure PaI (vars : Nat) (list : List (List Int)) (tr e0 : List Int) (left0 : Int) (i : Nat) (e : List Int) (again : Bool) (left : Int) : Prop where
  sp : SpI vars list tr e
  no : again = false → e = e0 ∧ ∀ k < i, ∀ l, list[k]? = some l → Met (tr ++ e) l
  yes : again = true → e0.length < e.length
  left : left = left0 - (i + sumL (list.take i) : Nat)
theorem met_of {T l : List Int} (h : ((scan T l).met || decide ((scan T l).many > 1)) = true) : Met T l := by
  have hok := scan_ok T l
  rcases Bool.or_eq_true_iff.1 h with h | h
  · exact .inl h
  · have h : (scan T l).many > 1 := by simpa using h
    refine .inr (Classical.byContradiction fun hn => ?_)
    have := hok.zero.2 fun x hx e => hn ⟨x, hx, e⟩
    omega
theorem varI_bd {n : Nat} {x : Int} (h : LitOk n x) : 0 ≤ varI x ∧ varI x < n := by
  obtain ⟨h0, h1, h2⟩ := h
  unfold varI
  split <;> omega
theorem passLoop {c : Code} (hc : blkAt 2 (Try.f66.body.getD .skip) = some c) {Q : Exit → St → Prop} {vars : Nat} {list : List (List Int)} {tr e0 : List Int} {left0 : Int} (hv : vars ≤ 20000) (hsp : SpI vars list tr e0)
    (hn : list.length ≤ 10000) (hs : sumL list ≤ 10000) (hlit : ∀ l ∈ list, ∀ x ∈ l, LitOk vars x) (hl0 : -100000000 ≤ left0 ∧ left0 ≤ 100000000) {t0 : Nat → AV} (h0 : t0 0 = .ptr 1 0 0) (h4 : t0 4 = .own 1 (vsI e0)) (h5 : t0 5 = .b false) (h6 : t0 6 = .i .i64 0)
    (hret : ∀ t e left', SpI vars list tr e → cntM vars list tr = 0 → left0 - 20000 ≤ left' → left' ≤ left0 → t 2 = .own 1 (vsI e) → t 3 = .b false → Q .ret ⟨t, RS vars list (tr ++ e) left'⟩)
    (hend : ∀ t e again left', PaI vars list tr e0 left0 list.length e again left' → t 4 = .own 1 (vsI e) → t 5 = .b again → Q (.exit 2) ⟨mix 21 117 [4, 5, 6, 7, 8, 9, 10, 11, 12] t t0, RS vars list (tr ++ e) left'⟩) : W Try.prog 118 c Q ⟨t0, RS vars list (tr ++ e0) left0⟩ := by
  simp only [Try.f66, Option.getD_some, blkAt, Nat.reduceEqDiff, reduceIte, Option.some.injEq] at hc
  subst hc
  have hlk := sumL_take list
  repeat (first | refine nav ?_ | refine bo ?_)
  refine W_for 21 117 [4, 5, 6, 7, 8, 9, 10, 11, 12] (fun m t o => ∃ (i : Nat) (e : List Int) (again : Bool) (left : Int), o = RS vars list (tr ++ e) left ∧ PaI vars list tr e0 left0 i e again left ∧ t 4 = .own 1 (vsI e) ∧ t 5 = .b again ∧ t 6 = .i .i64 i ∧ m = list.length - i ∧ i ≤ list.length) list.length
    ⟨0, e0, false, left0, rfl, ⟨hsp, fun _ => ⟨rfl, fun k hk => (by omega)⟩, fun h => (by cases h), by rw [List.take_zero]; simp [sumL]⟩, h4, h5, h6, rfl, by omega⟩ ?_
  rintro m t o ⟨i, e, again, left, rfl, hI, h4, h5, h6, rfl, hi⟩
  repeat (first | refine nav ?_ | refine bo ?_)
  (refine wr fun K R hK hR => ?_; simp (maxSteps := 10000000) only [go_sem, h0, h6, RS_get1]; (try go_ints); (try simp only [go_sem, h0, h6, RS_get1]); (repeat refine And.intro side ?_); (first | refine hK _ ?_ | refine hR _ _ ?_); clear hK hR K R)
  repeat (first | refine nav ?_ | refine bo ?_)
  refine W_cond (by simp only [go_sem] <;> exact rfl) (fun hb => ?_) (fun hb => ?_)
  · have hb : i < list.length := by simpa using hb
    obtain ⟨l, hl⟩ : ∃ l, list[i]? = some l := ⟨_, List.getElem?_eq_getElem hb⟩
    have hsl := sumL_get hl
    have hs1 := hlk (i + 1)
    have hleft := hI.left
    have hllen : l.length ≤ 10000 := by omega
    repeat (first | refine nav ?_ | refine bo ?_)
    refine W_joinS 30 47 [] (fun t o' => o' = RS vars list (tr ++ e) (left - 1 - l.length)) ?_ ?_
    · (refine W_dreg (by decide +kernel) [] [0, 1, 2, 3, 4, 5, 6, 7, 8, 9, 10, 11, 12, 13, 14, 15, 16, 17] [[], [], [1], [1, 2], [2, 1, 3], [3, 1, 2, 4], [], [6], [6, 7], [7, 6, 8], [], [10, 8, 6, 7, 9], [9, 7, 6, 8, 10, 11], [11, 10, 8, 6, 7, 9, 12], [12, 9, 7, 6, 8, 10, 11, 13, 4, 2, 1, 3, 5], [14, 13, 12, 11, 10, 9, 8, 7, 6, 5, 4, 3, 2, 1, 0], [0, 1, 2, 3, 4, 5, 6, 7, 8, 9, 10, 11, 12, 13, 14, 15], [15, 14, 13, 12, 11, 10, 9, 8, 7, 6, 5, 4, 3, 2, 1, 0, 16]] (by decide +kernel) rfl fun K R hK hR => ?_; simp only [List.filterMap_cons, List.filterMap_nil, List.getElem?_cons_zero, List.getElem?_cons_succ, List.cons_append, List.nil_append]; simp (maxSteps := 10000000) only [go_sem, h0, h6, RS_get1, tups_get hl]; (try go_ints); (try simp only [go_sem, h0, h6, RS_get1, tups_get hl]); (repeat refine And.intro side ?_); (first | refine hK _ ?_ | refine hR _ _ ?_); clear hK hR K R)
      exact ⟨_, rfl, rfl⟩
    rintro t1 o1 ho1
    rw [ho1, mix_mix (lo := 30) (lo' := 21) rfl]
    clear ho1 o1
    repeat (first | refine nav ?_ | refine bo ?_)
    (refine wr fun K R hK hR => ?_; simp (maxSteps := 10000000) only [go_sem]; (try go_ints); (repeat refine And.intro side ?_); (first | refine hK _ ?_ | refine hR _ _ ?_); clear hK hR K R)
    repeat (first | refine nav ?_ | refine bo ?_)
    (refine wr fun K R hK hR => ?_; simp (maxSteps := 10000000) only [go_sem]; (try go_ints); (repeat refine And.intro side ?_); (first | refine hK _ ?_ | refine hR _ _ ?_); clear hK hR K R)
    repeat (first | refine nav ?_ | refine bo ?_)
    refine scanLoop (by rfl) hv hI.sp.ok hl hn hllen (hlit l (List.mem_of_getElem? hl)) ?_ ?_ ?_ ?_ ?_ ?_ ?_
    · simp only [go_sem, h0]
    · simp only [go_sem, h6]
    · simp only [go_sem]
    · simp only [go_sem]
    · simp only [go_sem]
    · simp only [go_sem]
    intro t2 q7 q8 q9
    rw [mix_mix (lo := 47) (lo' := 21) rfl]
    have hok := scan_ok (tr ++ e) l
    repeat (first | refine nav ?_ | refine bo ?_)
    (refine wr fun K R hK hR => ?_; simp (maxSteps := 10000000) only [go_sem, q8, q9]; (try go_ints); (try simp only [go_sem, q8, q9]); (repeat refine And.intro side ?_); (first | refine hK _ ?_ | refine hR _ _ ?_); clear hK hR K R)
    repeat (first | refine nav ?_ | refine bo ?_)
    refine W_cond (b := (scan (tr ++ e) l).met || decide ((scan (tr ++ e) l).many > 1)) (by simp only [go_sem]) (fun hb2 => ?_) (fun hb2 => ?_)
    · have hmet := met_of hb2
      repeat (first | refine nav ?_ | refine bo ?_)
      (refine wr fun K R hK hR => ?_; simp (maxSteps := 10000000) only [go_sem, h6]; (try go_ints); (try simp only [go_sem, h6]); (repeat refine And.intro side ?_); (first | refine hK _ ?_ | refine hR _ _ ?_); clear hK hR K R)
      repeat (first | refine nav ?_ | refine bo ?_)
      refine forQ_normal (list.length - (i + 1)) (by omega) ⟨i + 1, e, again, left - 1 - l.length, rfl, ⟨hI.sp, fun h => ⟨(hI.no h).1, fun k hk l' hl' => ?_⟩, hI.yes, by omega⟩, ?_, ?_, ?_, rfl, by omega⟩
      · rcases Nat.lt_succ_iff_lt_or_eq.1 hk with hk | rfl
        · exact (hI.no h).2 k hk l' hl'
        · rw [hl] at hl'
          obtain rfl := Option.some.inj hl'
          exact hmet
      · simp only [go_sem, h4]
      · simp only [go_sem, h5]
      · simp only [go_sem] <;> simp
    · simp only [Bool.or_eq_false_iff, decide_eq_false_iff_not] at hb2
      obtain ⟨hm0, hm1⟩ := hb2
      have hmb := hok.many
      repeat (first | refine nav ?_ | refine bo ?_)
      (refine wr fun K R hK hR => ?_; simp (maxSteps := 10000000) only [go_sem, q8]; (try go_ints); (try simp only [go_sem, q8]); (repeat refine And.intro side ?_); (first | refine hK _ ?_ | refine hR _ _ ?_); clear hK hR K R)
      repeat (first | refine nav ?_ | refine bo ?_)
      refine W_cond (b := (scan (tr ++ e) l).many == 0) (by simp only [go_sem]) (fun hb3 => ?_) (fun hb3 => ?_)
      · have hb3 : (scan (tr ++ e) l).many = 0 := by simpa using hb3
        have hz := scan_false hI.sp.ok (hlit l (List.mem_of_getElem? hl)) (List.mem_of_getElem? hl) hm0 hb3
        rw [hI.sp.cnt] at hz
        repeat (first | refine nav ?_ | refine bo ?_)
        (refine W_reg [93] fun K R hK hR => ?_; simp (maxSteps := 10000000) only [go_sem, h4]; (try go_ints); (try simp only [go_sem, h4]); (repeat refine And.intro side ?_); (first | refine hK _ ?_ | refine hR _ _ ?_); clear hK hR K R)
        repeat (first | refine nav ?_ | refine bo ?_)
        refine hret _ e _ hI.sp hz (by omega) (by omega) ?_ ?_
        · simp only [go_sem]
        · simp only [go_sem]
      · have hb3 : ¬ (scan (tr ++ e) l).many = 0 := by simpa using hb3
        obtain ⟨r1, r2, r3, r4⟩ := scan_one hI.sp.ok (hlit l (List.mem_of_getElem? hl)) (List.mem_of_getElem? hl) hm0 (by omega)
        generalize (scan (tr ++ e) l).op = x at *
        have hvb := varI_bd r1
        obtain ⟨x0, x1, x2⟩ := r1
        repeat (first | refine nav ?_ | refine bo ?_)
        refine W_joinS 94 99 [12] (fun t o' => o' = RS vars list (tr ++ e) (left - 1 - l.length) ∧ t 12 = .i .i64 (varI x)) ?_ ?_
        · (refine wr fun K R hK hR => ?_; simp (maxSteps := 10000000) only [go_sem, q7]; (try go_ints); (try simp only [go_sem, q7]); (repeat refine And.intro side ?_); (first | refine hK _ ?_ | refine hR _ _ ?_); clear hK hR K R)
          refine ⟨_, rfl, rfl, ?_⟩
          have hmx : (if 0 - x > x then 0 - x else x) - 1 = varI x := by
            unfold varI
            split <;> split <;> omega
          simp only [go_sem, hmx]
        rintro t3 o3 ⟨ho3, q12⟩
        rw [ho3, mix_mix (lo := 94) (lo' := 21) rfl]
        clear ho3 o3
        have hput := val_put (n := vars) r2 r3 ⟨x0, x1, x2⟩
        have hvl := valL_len vars (tr ++ e)
        have hgt : (valL vars (tr ++ e))[(varI x).toNat]? = some (valOf (tr ++ e) (varI x).toNat) := valL_get (by omega)
        repeat (first | refine nav ?_ | refine bo ?_)
        refine W_joinS 99 105 [] (fun t o' => o' = [Ob.cells 1 (ints ((valL vars (tr ++ e)).set (varI x).toNat 1)), .cells 3 [[.sl 1 (tups list), .ref 0 0 vars, .i .i64 (left - 1 - l.length)]]]) ?_ ?_
        · (refine wr fun K R hK hR => ?_; simp (maxSteps := 10000000) only [go_sem, h0, q12, RS_get1, RS_get0, ints_get hgt, ints_set, hvl]; (try go_ints); (try simp only [go_sem, h0, q12, RS_get1, RS_get0, ints_get hgt, ints_set, hvl]); (repeat refine And.intro side ?_); (first | refine hK _ ?_ | refine hR _ _ ?_); clear hK hR K R)
          exact ⟨_, rfl, rfl⟩
        rintro t4 o4 ho4
        rw [ho4, mix_mix (lo := 99) (lo' := 21) rfl]
        clear ho4 o4
        repeat (first | refine nav ?_ | refine bo ?_)
        (refine wr fun K R hK hR => ?_; simp (maxSteps := 10000000) only [go_sem, q7]; (try go_ints); (try simp only [go_sem, q7]); (repeat refine And.intro side ?_); (first | refine hK _ ?_ | refine hR _ _ ?_); clear hK hR K R)
        repeat (first | refine nav ?_ | refine bo ?_)
        refine W_joinS 107 113 [] (fun t o' => o' = RS vars list (tr ++ (e ++ [x])) (left - 1 - l.length)) ?_ ?_
        · refine W_cond (b := decide (x < 0)) (by simp only [go_sem]) (fun hb4 => ?_) (fun hb4 => ?_)
          · have hb4 : x < 0 := by simpa using hb4
            have hgt2 : ((valL vars (tr ++ e)).set (varI x).toNat 1)[(varI x).toNat]? = some 1 := by rw [List.getElem?_set_self (by omega)]
            rw [if_neg (show ¬ x > 0 by omega), if_neg (show ¬ x > 0 by omega)] at hput
            repeat (first | refine nav ?_ | refine bo ?_)
            (refine wr fun K R hK hR => ?_; simp (maxSteps := 10000000) only [go_sem, h0, q12, ints_get hgt2, ints_set, hvl, List.length_set]; (try go_ints); (try simp only [go_sem, h0, q12, ints_get hgt2, ints_set, hvl, List.length_set]); (repeat refine And.intro side ?_); (first | refine hK _ ?_ | refine hR _ _ ?_); clear hK hR K R)
            refine ⟨_, rfl, ?_⟩
            rw [RS, ← List.append_assoc, hput, varI, if_neg (show ¬ x > 0 by omega)]
            show [_, _] = [_, _]
            rw [List.set_set]
          · have hb4 : ¬ x < 0 := by simpa using hb4
            rw [if_pos (show x > 0 by omega), if_pos (show x > 0 by omega)] at hput
            repeat (first | refine nav ?_ | refine bo ?_)
            refine ⟨_, rfl, ?_⟩
            rw [RS, ← List.append_assoc, hput, varI, if_pos (show x > 0 by omega)]
        rintro t5 o5 ho5
        rw [ho5, mix_mix (lo := 107) (lo' := 21) rfl]
        clear ho5 o5
        repeat (first | refine nav ?_ | refine bo ?_)
        have htl := hI.sp.ok.len
        rw [List.length_append] at htl
        (refine W_reg [113] fun K R hK hR => ?_; simp (maxSteps := 10000000) only [go_sem, h4, q12, vsI, List.length_map]; (try go_ints); (try simp only [go_sem, h4, q12, vsI, List.length_map]); (repeat refine And.intro side ?_); (first | refine hK _ ?_ | refine hR _ _ ?_); clear hK hR K R)
        repeat (first | refine nav ?_ | refine bo ?_)
        (refine wr fun K R hK hR => ?_; simp (maxSteps := 10000000) only [go_sem]; (try go_ints); (repeat refine And.intro side ?_); (first | refine hK _ ?_ | refine hR _ _ ?_); clear hK hR K R)
        repeat (first | refine nav ?_ | refine bo ?_)
        (refine wr fun K R hK hR => ?_; simp (maxSteps := 10000000) only [go_sem, h6]; (try go_ints); (try simp only [go_sem, h6]); (repeat refine And.intro side ?_); (first | refine hK _ ?_ | refine hR _ _ ?_); clear hK hR K R)
        repeat (first | refine nav ?_ | refine bo ?_)
        have hvs : ints (e.map varI) ++ [[.i .i64 (varI x)]] = vsI (e ++ [x]) := by simp [vsI, ints]
        rw [hvs]
        have hap : tr ++ (e ++ [x]) = tr ++ e ++ [x] := (List.append_assoc ..).symm
        refine forQ_normal (list.length - (i + 1)) (by omega) ⟨i + 1, e ++ [x], true, left - 1 - l.length, rfl, ⟨⟨?_, ?_⟩, fun h => (by cases h), fun _ => ?_, by omega⟩, ?_, ?_, ?_, rfl, by omega⟩
        · rw [hap]
          exact hI.sp.ok.snoc ⟨x0, x1, x2⟩ r2 r3
        · rw [hap, r4]
          exact hI.sp.cnt
        · rw [List.length_append, List.length_singleton]
          cases again with
          | true => have := hI.yes rfl; omega
          | false => rw [(hI.no rfl).1]; omega
        · simp only [go_sem]
        · simp only [go_sem]
        · simp only [go_sem] <;> simp
  · have hb : ¬ i < list.length := by simpa using hb
    obtain rfl : i = list.length := by omega
    repeat (first | refine nav ?_ | refine bo ?_)
    exact hend _ _ _ _ hI h4 h5
end Go.AW
/-
The document's search for models: unit propagation.
-/
namespace Go.AW
open Go Go.Proofs TyTry Go.IntWalk
set_option linter.unusedSimpArgs false
set_option linter.unusedVariables false
set_option maxRecDepth 10000
set_option maxHeartbeats 1000000

structure SprP (vars : Nat) (list : List (List Int)) (tr : List Int) (left0 : Int) (e : List Int) (ok : Bool) (left : Int) : Prop where
  sp : SpI vars list tr e
  le : -20000 ≤ left ∧ left ≤ left0
  no : ok = false → cntM vars list tr = 0
  yes : ok = true → 0 ≤ left → ∀ l ∈ list, Met (tr ++ e) l
theorem spread_spec {vars : Nat} {list : List (List Int)} {tr : List Int} {left0 : Int} (hv : vars ≤ 20000) (htr : TrOk vars tr)
    (hn : list.length ≤ 10000) (hs : sumL list ≤ 10000) (hlit : ∀ l ∈ list, ∀ x ∈ l, LitOk vars x) (hl0 : 0 ≤ left0 ∧ left0 ≤ 100000000) :
    ACalls Try.prog 66 [.ptr 1 0 0] (RS vars list tr left0) fun r o' => ∃ e ok left', r = .tup [.sl 1 (vsI e), .b ok] ∧ o' = RS vars list (tr ++ e) left' ∧ SprP vars list tr left0 e ok left' := by
  refine ACalls_of' (n := 118) (rs := [.tmp 2, .tmp 3]) (show Try.prog.funcs[66]? = some Try.f66 by kernel_rfl) rfl rfl rfl (by simp) (by decide +kernel) ?_
  repeat (first | refine nav ?_ | refine bo ?_)
  (refine wr fun K R hK hR => ?_; simp (maxSteps := 10000000) only [go_sem]; (try go_ints); (repeat refine And.intro side ?_); (first | refine hK _ ?_ | refine hR _ _ ?_); clear hK hR K R)
  repeat (first | refine nav ?_ | refine bo ?_)
  (refine wr fun K R hK hR => ?_; simp (maxSteps := 10000000) only [go_sem]; (try go_ints); (repeat refine And.intro side ?_); (first | refine hK _ ?_ | refine hR _ _ ?_); clear hK hR K R)
  repeat (first | refine nav ?_ | refine bo ?_)
  (refine wr fun K R hK hR => ?_; simp (maxSteps := 10000000) only [go_sem]; (try go_ints); (repeat refine And.intro side ?_); (first | refine hK _ ?_ | refine hR _ _ ?_); clear hK hR K R)
  repeat (first | refine nav ?_ | refine bo ?_)
  refine W_for 13 117 [4, 5, 6, 7, 8, 9, 10, 11, 12] (fun m t o => ∃ (e : List Int) (again : Bool) (left : Int), o = RS vars list (tr ++ e) left ∧ SpI vars list tr e ∧ t 4 = .own 1 (vsI e) ∧ t 5 = .b again ∧ m = (if again then 1 + (vars - (tr ++ e).length) else 0) ∧
      (again = false → ∀ l ∈ list, Met (tr ++ e) l) ∧ -20000 ≤ left ∧ left ≤ left0) (1 + (vars - tr.length))
    ⟨[], true, left0, by rw [List.append_nil], ⟨by rw [List.append_nil]; exact htr, by rw [List.append_nil]⟩, by simp only [go_sem] <;> rfl, by simp only [go_sem] <;> rfl, by rw [List.append_nil, if_pos rfl], fun h => (by cases h), by omega, by omega⟩ ?_
  rintro m t o ⟨e, again, left, rfl, hsp, h4, h5, rfl, hmet, hl1, hl2⟩
  have htl := hsp.ok.len
  repeat (first | refine nav ?_ | refine bo ?_)
  (refine wr fun K R hK hR => ?_; simp (maxSteps := 10000000) only [go_sem, h5, RS_get1]; (try go_ints); (try simp only [go_sem, h5, RS_get1]); (repeat refine And.intro side ?_); (first | refine hK _ ?_ | refine hR _ _ ?_); clear hK hR K R)
  repeat (first | refine nav ?_ | refine bo ?_)
  refine W_cond (b := again && decide (left ≥ 0)) (by simp only [go_sem] <;> rfl) (fun hb => ?_) (fun hb => ?_)
  · simp only [Bool.and_eq_true, decide_eq_true_eq] at hb
    obtain ⟨rfl, hb⟩ := hb
    repeat (first | refine nav ?_ | refine bo ?_)
    (refine wr fun K R hK hR => ?_; simp (maxSteps := 10000000) only [go_sem]; (try go_ints); (repeat refine And.intro side ?_); (first | refine hK _ ?_ | refine hR _ _ ?_); clear hK hR K R)
    repeat (first | refine nav ?_ | refine bo ?_)
    (refine wr fun K R hK hR => ?_; simp (maxSteps := 10000000) only [go_sem]; (try go_ints); (repeat refine And.intro side ?_); (first | refine hK _ ?_ | refine hR _ _ ?_); clear hK hR K R)
    repeat (first | refine nav ?_ | refine bo ?_)
    refine passLoop (by rfl) hv hsp hn hs hlit (by omega) ?_ ?_ ?_ ?_ ?_ ?_
    · simp only [go_sem] <;> rfl
    · simp only [go_sem, h4]
    · simp only [go_sem]
    · simp only [go_sem]
    · intro t2 e2 left2 hsp2 hz q1 q2 k2 k3
      have hok := RS_ok vars list (tr ++ e2) left2
      repeat (first | refine nav ?_ | refine bo ?_)
      refine endQ_all (by simp only [resAV, resL, res1, k2, k3, AV.dat, ung] <;> exact rfl) (Le.refl _) (Nat.le_refl _) hok (by simp [AV.ltk, AV.ltks]) ⟨e2, false, left2, rfl, rfl, hsp2, by omega, fun _ => hz, fun h => by cases h⟩
    · intro t2 e2 again2 left2 hI k4 k5
      have h2l := hI.sp.ok.len
      have hy := hI.yes
      have hle := hI.left
      rw [List.take_length] at hle
      repeat (first | refine nav ?_ | refine bo ?_)
      rw [mix_mix (lo := 21) (lo' := 13) rfl]
      have hn0 := hI.no
      refine forQ_normal (if again2 then 1 + (vars - (tr ++ e2).length) else 0) ?_ ⟨e2, again2, left2, rfl, hI.sp, by simp only [go_sem, k4], by simp only [go_sem, k5], rfl, fun h l hl => ?_, by omega, by omega⟩
      · rw [List.length_append] at h2l htl ⊢
        rw [List.length_append]
        cases again2 with
        | true => have := hy rfl; simp only [if_true]; omega
        | false => simp; omega
      · obtain ⟨i, hi, rfl⟩ := List.mem_iff_getElem.1 hl
        exact (hn0 h).2 i hi _ (List.getElem?_eq_getElem hi)
  · have hb : again = false ∨ ¬ left ≥ 0 := by
      cases again with
      | false => exact .inl rfl
      | true => right; simpa using hb
    repeat (first | refine nav ?_ | refine bo ?_)
    (refine W_reg [117] fun K R hK hR => ?_; simp (maxSteps := 10000000) only [go_sem, h4]; (try go_ints); (try simp only [go_sem, h4]); (repeat refine And.intro side ?_); (first | refine hK _ ?_ | refine hR _ _ ?_); clear hK hR K R)
    repeat (first | refine nav ?_ | refine bo ?_)
    have hok := RS_ok vars list (tr ++ e) left
    refine endQ_all (by simp only [go_sem] <;> exact rfl) (Le.refl _) (Nat.le_refl _) hok ?_ ⟨e, true, left, rfl, rfl, hsp, ⟨hl1, hl2⟩, fun h => (by cases h), fun _ h l hl => ?_⟩
    · simp [AV.ltk, AV.ltks]
    · rcases hb with hb | hb
      · exact hmet hb l hl
      · omega
end Go.AW
/-
The document's search for models: the count.
-/
namespace Go.AW
open Go Go.Proofs TyTry Go.IntWalk
set_option linter.unusedSimpArgs false
set_option linter.unusedVariables false
set_option maxRecDepth 10000
set_option maxHeartbeats 1000000

theorem val_mid {n : Nat} {tr r : List Int} {x : Int} (htr : TrOk n (tr ++ x :: r)) : (valL n (tr ++ x :: r)).set (varI x).toNat 0 = valL n (tr ++ r) ∧ TrOk n (tr ++ r) := by
  have hp : (tr ++ x :: r).Perm (tr ++ r ++ [x]) := by
    rw [List.append_assoc]
    exact List.Perm.append_left tr (by simpa using (List.perm_append_singleton x r).symm)
  have hm : ∀ y, y ∈ tr ++ x :: r ↔ y ∈ tr ++ r ++ [x] := fun y => hp.mem_iff
  have hv : valL n (tr ++ x :: r) = valL n (tr ++ r ++ [x]) := by
    unfold valL
    refine List.map_congr_left fun v _ => ?_
    simp only [valOf, List.contains_eq_mem, hm]
  have hnd : (tr ++ r ++ [x]).Nodup := hp.nodup_iff.1 htr.nd
  have hx : x ∉ tr ++ r := by
    intro h
    rw [List.nodup_append] at hnd
    exact hnd.2.2 x h x (by simp) rfl
  have hok : TrOk n (tr ++ r) := ⟨(List.nodup_append.1 hnd).1, fun y hy => htr.lit y ((hm y).2 (by simp only [List.mem_append] at hy ⊢; exact .inl hy)), fun y hy h => htr.opp y ((hm y).2 (by simp only [List.mem_append] at hy ⊢; exact .inl hy)) ((hm _).2 (by simp only [List.mem_append] at h ⊢; exact .inl h))⟩
  have hnx : -x ∉ tr ++ r := fun h => htr.opp x (by simp) ((hm _).2 (by simp only [List.mem_append] at h ⊢; exact .inl h))
  rw [hv]
  exact ⟨val_undo hx hnx (htr.lit x (by simp)), hok⟩
theorem all_len : ∀ (n : Nat) (l : List Nat), (∀ v < n, v ∈ l) → n ≤ l.length
  | 0, _, _ => Nat.zero_le _
  | n + 1, l, h => by
    have hm := h n (by omega)
    have := all_len n (l.erase n) fun v hv => (List.mem_erase_of_ne (by omega)).2 (h v (by omega))
    rw [List.length_erase_of_mem hm] at this
    have := List.length_pos_of_mem hm
    omega
theorem full_len {n : Nat} {tr : List Int} (h : ∀ v < n, valOf tr v ≠ 0) : n ≤ tr.length := by
  have := all_len n (tr.map fun x => (varI x).toNat) fun v hv => ?_
  · rwa [List.length_map] at this
  · have := h v hv
    rw [List.mem_map]
    unfold valOf at this
    by_cases h1 : (v : Int) + 1 ∈ tr
    · exact ⟨_, h1, by rw [varI, if_pos (by omega)]; omega⟩
    · by_cases h2 : -((v : Int) + 1) ∈ tr
      · exact ⟨_, h2, by rw [varI, if_neg (by omega)]; omega⟩
      · simp [h1, h2] at this
/-- All is said: one model. -/
theorem full_one {n : Nat} {list : List (List Int)} {tr : List Int} (htr : TrOk n tr) (hlit : ∀ l ∈ list, ∀ x ∈ l, LitOk n x) (h : ∀ v < n, valOf tr v ≠ 0) (hm : ∀ l ∈ list, Met tr l) : cntM n list tr = 1 := by
  have hl := full_len h
  have hl2 := htr.len
  rw [cntM_all htr fun i hi => ?_]
  · rw [show n - tr.length = 0 by omega]
  · have hli : list.getD i [] = list[i] := by simp [hi]
    have hmet := hm list[i] (List.getElem_mem hi)
    have : ∃ x ∈ list[i], isL tr x = 1 := by
      rcases hmet with q | ⟨x, hx, h0⟩
      · rw [(scan_ok tr _).met] at q
        obtain ⟨x, hx, h1⟩ := List.any_eq_true.1 q
        exact ⟨x, hx, by simpa using h1⟩
      · exfalso
        obtain ⟨z0, z1, z2⟩ := hlit _ (List.getElem_mem hi) x hx
        by_cases hp : x > 0
        · refine h (x - 1).toNat (by omega) ?_
          rw [← isL_val, show (((x - 1).toNat : Nat) : Int) + 1 = x by omega]; exact h0
        · refine h (-x - 1).toNat (by omega) ?_
          have e := isL_neg htr (v := (-x - 1).toNat)
          rw [show -((((-x - 1).toNat : Nat) : Int) + 1) = x by omega, h0] at e
          omega
    obtain ⟨x, hx, h1⟩ := this
    have hxt : x ∈ tr := by
      rcases isL_cases htr x with q | q | q
      · exact q.2.1
      · rw [q.1] at h1; cases h1
      · rw [q.1] at h1; cases h1
    unfold goodOf
    rw [hli]
    intro h0
    have := List.eq_nil_of_length_eq_zero h0
    have h3 : x ∈ list[i].filter fun y => tr.contains y := by simp [hx, hxt]
    rw [this] at h3
    cases h3
theorem undoLoop {c : Code} (hc : blkAt 4 (Try.f49.body.getD .skip) = some c) {Q : Exit → St → Prop} {vars : Nat} {list : List (List Int)} {tr e : List Int} {left : Int} (hv : vars ≤ 20000) (htr : TrOk vars (tr ++ e))
    {t0 : Nat → AV} (h0 : t0 0 = .ptr 1 0 0) (h5 : t0 5 = .sl 1 (vsI e)) (h11 : t0 11 = .i .i64 0)
    (hend : ∀ t, Q (.exit 4) ⟨mix 100 115 [11] t t0, RS vars list tr left⟩) : W Try.prog 116 c Q ⟨t0, RS vars list (tr ++ e) left⟩ := by
  simp only [Try.f49, Option.getD_some, blkAt, Nat.reduceEqDiff, reduceIte, Option.some.injEq] at hc
  subst hc
  have htl := htr.len
  rw [List.length_append] at htl
  have hel : (vsI e).length = e.length := by rw [vsI, ints_len, List.length_map]
  repeat (first | refine nav ?_ | refine bo ?_)
  refine W_for 100 115 [11] (fun m t o => ∃ i : Nat, o = RS vars list (tr ++ e.drop i) left ∧ TrOk vars (tr ++ e.drop i) ∧ t 11 = .i .i64 i ∧ m = e.length - i ∧ i ≤ e.length) e.length ⟨0, rfl, htr, h11, rfl, by omega⟩ ?_
  rintro m t o ⟨i, rfl, hok, h11, rfl, hi⟩
  repeat (first | refine nav ?_ | refine bo ?_)
  (refine wr fun K R hK hR => ?_; simp (maxSteps := 10000000) only [go_sem, h11, h5, hel]; (try go_ints); (try simp only [go_sem, h11, h5, hel]); (repeat refine And.intro side ?_); (first | refine hK _ ?_ | refine hR _ _ ?_); clear hK hR K R)
  repeat (first | refine nav ?_ | refine bo ?_)
  refine W_cond (by simp only [go_sem] <;> exact rfl) (fun hb => ?_) (fun hb => ?_)
  · have hb : i < e.length := by simpa using hb
    obtain ⟨x, hx⟩ : ∃ x, e[i]? = some x := ⟨_, List.getElem?_eq_getElem hb⟩
    have hd : e.drop i = x :: e.drop (i + 1) := by
      rw [List.drop_eq_getElem_cons hb]
      congr 1
      exact Option.some.inj (by rw [← List.getElem?_eq_getElem hb, hx])
    rw [hd] at hok
    obtain ⟨m1, m2⟩ := val_mid hok
    have hvb := varI_bd (hok.lit x (by simp))
    have hvl := valL_len vars (tr ++ e.drop i)
    have hxv : (e.map varI)[i]? = some (varI x) := by rw [List.getElem?_map, hx]; rfl
    have hgt : (valL vars (tr ++ e.drop i))[(varI x).toNat]? = some (valOf (tr ++ e.drop i) (varI x).toNat) := valL_get (by omega)
    repeat (first | refine nav ?_ | refine bo ?_)
    refine W_joinN 106 115 [] (fun t o' => o' = RS vars list (tr ++ e.drop (i + 1)) left) ?_ ?_
    · (refine W_dreg (by decide +kernel) [] [0, 1, 2, 3, 4, 5, 6, 7, 8, 9] [[], [0], [0, 1], [1, 0, 2], [], [], [5, 4], [4, 5, 6], [6, 5, 4, 7, 2, 0, 1, 3], [3, 1, 0, 2, 7, 4, 5, 6, 8]] (by decide +kernel) rfl fun K R hK hR => ?_; simp only [List.filterMap_cons, List.filterMap_nil, List.getElem?_cons_zero, List.getElem?_cons_succ, List.cons_append, List.nil_append]; simp (maxSteps := 10000000) only [go_sem, h0, h5, h11, vsI, ints_get hxv, RS_get1, RS_get0, ints_get hgt, ints_set, hvl]; (try go_ints); (try simp only [go_sem, h0, h5, h11, vsI, ints_get hxv, RS_get1, RS_get0, ints_get hgt, ints_set, hvl]); (repeat refine And.intro side ?_); (first | refine hK _ ?_ | refine hR _ _ ?_); clear hK hR K R)
      refine ⟨_, rfl, ?_⟩
      rw [← hd] at m1
      show [Ob.cells 1 (ints ((valL vars (tr ++ e.drop i)).set (varI x).toNat 0)), _] = _
      rw [m1]
      rfl
    rintro t1 o1 ho1
    rw [ho1, mix_mix (lo := 106) (lo' := 100) rfl]
    clear ho1 o1
    repeat (first | refine nav ?_ | refine bo ?_)
    (refine wr fun K R hK hR => ?_; simp (maxSteps := 10000000) only [go_sem, h11]; (try go_ints); (try simp only [go_sem, h11]); (repeat refine And.intro side ?_); (first | refine hK _ ?_ | refine hR _ _ ?_); clear hK hR K R)
    repeat (first | refine nav ?_ | refine bo ?_)
    refine forQ_normal (e.length - (i + 1)) (by omega) ⟨i + 1, rfl, m2, ?_, rfl, by omega⟩
    simp only [go_sem] <;> simp
  · have hb : ¬ i < e.length := by simpa using hb
    obtain rfl : i = e.length := by omega
    rw [List.drop_length, List.append_nil]
    repeat (first | refine nav ?_ | refine bo ?_)
    exact hend _
/-- What a count brings. -/
structure CoP (vars : Nat) (list : List (List Int)) (tr : List Int) (most left n left' : Int) : Prop where
  n0 : 0 ≤ n ∧ n ≤ most
  cost : n * vars ≤ left - left'
  ex : 0 ≤ left' → n = min (cntM vars list tr : Int) most
  neg : left < 0 → left' = left - vars
  pos : 0 ≤ left → -(20000 + ((vars - tr.length + 1) * vars : Nat)) ≤ left'
theorem count_spec {vars : Nat} {list : List (List Int)} (hv : vars ≤ 60) (hn : list.length ≤ 10000) (hs : sumL list ≤ 10000) (hlit : ∀ l ∈ list, ∀ x ∈ l, LitOk vars x) :
    ∀ (N : Nat) (tr : List Int) (left most : Int), vars - tr.length < N → TrOk vars tr → 1 ≤ most → most ≤ 1048576 → -90000000 ≤ left → left ≤ 2000000 →
    ACalls Try.prog 49 [.ptr 1 0 0, .i .i64 most] (RS vars list tr left) fun r o' => ∃ n left' : Int, r = .i .i64 n ∧ o' = RS vars list tr left' ∧ CoP vars list tr most left n left'
  | 0, _, _, _, h, _, _, _, _, _ => by omega
  | N + 1, tr, left, most, hN, htr, hm1, hm2, hl1, hl2 => by
    have ih := count_spec hv hn hs hlit N
    have htl := htr.len
    have hvl := valL_len vars tr
    have hok0 : ∀ T y, okO (RS vars list T y) = true := fun T y => RS_ok vars list T y
    refine ACalls_of' (n := 116) (rs := [.tmp 4]) (show Try.prog.funcs[49]? = some Try.f49 by kernel_rfl) rfl rfl rfl (by simp) (by decide +kernel) ?_
    repeat (first | refine nav ?_ | refine bo ?_)
    (refine wr fun K R hK hR => ?_; simp (maxSteps := 10000000) only [go_sem]; (try go_ints); (repeat refine And.intro side ?_); (first | refine hK _ ?_ | refine hR _ _ ?_); clear hK hR K R)
    repeat (first | refine nav ?_ | refine bo ?_)
    refine W_joinS 12 25 [] (fun t o' => o' = RS vars list tr (left - vars)) ?_ ?_
    · (refine W_dreg (by decide +kernel) [] [0, 1, 2, 3, 4, 5, 6, 7, 8, 9, 10, 11, 12, 13] [[], [], [1], [1, 2], [2, 1, 3], [], [5], [5, 6], [6, 5, 7], [7, 5, 6, 8], [8, 6, 5, 7, 9, 3, 1, 2, 4], [10, 9, 8, 7, 6, 5, 4, 3, 2, 1, 0], [0, 1, 2, 3, 4, 5, 6, 7, 8, 9, 10, 11], [11, 10, 9, 8, 7, 6, 5, 4, 3, 2, 1, 0, 12]] (by decide +kernel) rfl fun K R hK hR => ?_; simp only [List.filterMap_cons, List.filterMap_nil, List.getElem?_cons_zero, List.getElem?_cons_succ, List.cons_append, List.nil_append]; simp (maxSteps := 10000000) only [go_sem, RS_get1]; (try go_ints); (try simp only [go_sem, RS_get1]); (repeat refine And.intro side ?_); (first | refine hK _ ?_ | refine hR _ _ ?_); clear hK hR K R)
      exact ⟨_, rfl, rfl⟩
    rintro t1 o1 ho1
    rw [ho1]
    clear ho1 o1
    repeat (first | refine nav ?_ | refine bo ?_)
    (refine wr fun K R hK hR => ?_; simp (maxSteps := 10000000) only [go_sem, RS_get1]; (try go_ints); (try simp only [go_sem, RS_get1]); (repeat refine And.intro side ?_); (first | refine hK _ ?_ | refine hR _ _ ?_); clear hK hR K R)
    repeat (first | refine nav ?_ | refine bo ?_)
    refine W_cond (b := decide (left - vars < 0)) (by simp only [go_sem]) (fun hb => ?_) (fun hb => ?_)
    · have hb : left - vars < 0 := by simpa using hb
      repeat (first | refine nav ?_ | refine bo ?_)
      (refine wr fun K R hK hR => ?_; simp (maxSteps := 10000000) only [go_sem]; (try go_ints); (repeat refine And.intro side ?_); (first | refine hK _ ?_ | refine hR _ _ ?_); clear hK hR K R)
      repeat (first | refine nav ?_ | refine bo ?_)
      refine endQ_all (by simp only [go_sem] <;> exact rfl) (Le.refl _) (Nat.le_refl _) (hok0 _ _) rfl ⟨0, left - vars, rfl, rfl, ⟨by omega, by omega⟩, by omega, fun h => by omega, fun h => by omega, fun h => ?_⟩
      omega
    · have hb : ¬ left - vars < 0 := by simpa using hb
      repeat (first | refine nav ?_ | refine bo ?_)
      (refine wr fun K R hK hR => ?_; simp (maxSteps := 10000000) only [go_sem]; (try go_ints); (repeat refine And.intro side ?_); (first | refine hK _ ?_ | refine hR _ _ ?_); clear hK hR K R)
      refine RL_callE (spread_spec (left0 := left - vars) (by omega) htr hn hs hlit (by omega)) (fun r o' ⟨e, ok, left', e1, e2, e3⟩ => ⟨by rw [e2]; exact Nat.le_refl _, by rw [e1]; rfl, by rw [e2]; exact hok0 _ _⟩) (by simp only [go_sem] <;> exact rfl) rfl rfl (by simp) (by simp only [go_sem] <;> exact LeA.refl _) (hok0 _ _) rfl ?_
      rintro r o2 ⟨e, ok, left2, rfl, rfl, hsp⟩
      (refine rr fun K R hK hR => ?_; simp (maxSteps := 10000000) only [go_sem]; (try go_ints); (repeat refine And.intro side ?_); (first | refine hK _ ?_ | refine hR _ _ ?_); clear hK hR K R)
      repeat (first | refine nav ?_ | refine bo ?_)
      (refine wr fun K R hK hR => ?_; simp (maxSteps := 10000000) only [go_sem]; (try go_ints); (repeat refine And.intro side ?_); (first | refine hK _ ?_ | refine hR _ _ ?_); clear hK hR K R)
      repeat (first | refine nav ?_ | refine bo ?_)
      (refine wr fun K R hK hR => ?_; simp (maxSteps := 10000000) only [go_sem, RS_get1]; (try go_ints); (try simp only [go_sem, RS_get1]); (repeat refine And.intro side ?_); (first | refine hK _ ?_ | refine hR _ _ ?_); clear hK hR K R)
      repeat (first | refine nav ?_ | refine bo ?_)
      have hle2 := hsp.le
      have htT := hsp.sp.ok
      have hcT := hsp.sp.cnt
      have hTl := htT.len
      have hTl2 : tr.length ≤ (tr ++ e).length := by rw [List.length_append]; omega
      have hok9 := hsp.no
      have hyes := hsp.yes
      clear hsp
      generalize hT : tr ++ e = T at htT hcT hTl hTl2 hyes
      have hTv := valL_len vars T
      have hmulp : 0 ≤ (((vars - tr.length + 1) * vars : Nat) : Int) := Int.natCast_nonneg _
      refine W_joinS 43 100 [7, 8, 9, 10] (fun t o' => ∃ n left3 : Int, o' = RS vars list T left3 ∧ t 7 = .i .i64 n ∧ CoP vars list tr most left n left3) ?_ ?_
      · refine W_cond (b := ok && decide (left2 ≥ 0)) (by simp only [go_sem]) (fun hb2 => ?_) (fun hb2 => ?_)
        · simp only [Bool.and_eq_true, decide_eq_true_eq] at hb2
          obtain ⟨rfl, hl20⟩ := hb2
          have hmet := hyes rfl hl20
          repeat (first | refine nav ?_ | refine bo ?_)
          (refine wr fun K R hK hR => ?_; simp (maxSteps := 10000000) only [go_sem]; (try go_ints); (repeat refine And.intro side ?_); (first | refine hK _ ?_ | refine hR _ _ ?_); clear hK hR K R)
          repeat (first | refine nav ?_ | refine bo ?_)
          (refine wr fun K R hK hR => ?_; simp (maxSteps := 10000000) only [go_sem]; (try go_ints); (repeat refine And.intro side ?_); (first | refine hK _ ?_ | refine hR _ _ ?_); clear hK hR K R)
          refine seqQ_normal ?_
          refine W_joinN 43 65 [8, 9] (fun t o' => o' = RS vars list T left2 ∧ ((t 8 = .i .i64 (-1) ∧ ∀ v < vars, valOf T v ≠ 0) ∨ ∃ f : Nat, t 8 = .i .i64 f ∧ f < vars ∧ valOf T f = 0)) ?_ ?_
          · rw [mix_self]
            repeat (first | refine nav ?_ | refine bo ?_)
            refine W_for 43 65 [8, 9] (fun m t o => ∃ v : Nat, o = RS vars list T left2 ∧ t 9 = .i .i64 v ∧ v ≤ vars ∧ m = vars - v ∧ ((t 8 = .i .i64 (-1) ∧ ∀ u < v, valOf T u ≠ 0) ∨ ∃ f : Nat, t 8 = .i .i64 f ∧ f < vars ∧ valOf T f = 0)) vars ⟨0, rfl, by simp only [go_sem] <;> rfl, by omega, rfl, .inl ⟨by simp only [go_sem] <;> rfl, fun u hu => by omega⟩⟩ ?_
            rintro m t o ⟨v, rfl, h9, hvv, rfl, hI⟩
            repeat (first | refine nav ?_ | refine bo ?_)
            rcases hI with ⟨h8, hI⟩ | ⟨f, h8, hf, hf0⟩
            · (refine wr fun K R hK hR => ?_; simp (maxSteps := 10000000) only [go_sem, h8, h9, RS_get1, hTv]; (try go_ints); (try simp only [go_sem, h8, h9, RS_get1, hTv]); (repeat refine And.intro side ?_); (first | refine hK _ ?_ | refine hR _ _ ?_); clear hK hR K R)
              repeat (first | refine nav ?_ | refine bo ?_)
              refine W_cond (b := decide (v < vars)) (by simp only [go_sem] <;> simp) (fun hb => ?_) (fun hb => ?_)
              · have hb : v < vars := by simpa using hb
                have hgt := valL_get (tr := T) hb
                have hvb : -1 ≤ valOf T v ∧ valOf T v ≤ 1 := by unfold valOf; split <;> (try split) <;> omega
                repeat (first | refine nav ?_ | refine bo ?_)
                (refine wr fun K R hK hR => ?_; simp (maxSteps := 10000000) only [go_sem, h8, h9, RS_get1, RS_get0, hTv, ints_get hgt]; (try go_ints); (try simp only [go_sem, h8, h9, RS_get1, RS_get0, hTv, ints_get hgt]); (repeat refine And.intro side ?_); (first | refine hK _ ?_ | refine hR _ _ ?_); clear hK hR K R)
                repeat (first | refine nav ?_ | refine bo ?_)
                refine W_cond (b := valOf T v == 0) (by simp only [go_sem]) (fun hb2 => ?_) (fun hb2 => ?_)
                · have hb2 : valOf T v = 0 := by simpa using hb2
                  repeat (first | refine nav ?_ | refine bo ?_)
                  (refine wr fun K R hK hR => ?_; simp (maxSteps := 10000000) only [go_sem, h9]; (try go_ints); (try simp only [go_sem, h9]); (repeat refine And.intro side ?_); (first | refine hK _ ?_ | refine hR _ _ ?_); clear hK hR K R)
                  repeat (first | refine nav ?_ | refine bo ?_)
                  (refine wr fun K R hK hR => ?_; simp (maxSteps := 10000000) only [go_sem, h9]; (try go_ints); (try simp only [go_sem, h9]); (repeat refine And.intro side ?_); (first | refine hK _ ?_ | refine hR _ _ ?_); clear hK hR K R)
                  repeat (first | refine nav ?_ | refine bo ?_)
                  refine forQ_normal (vars - (v + 1)) (by omega) ⟨v + 1, rfl, ?_, by omega, rfl, .inr ⟨v, ?_, hb, hb2⟩⟩
                  · simp only [go_sem] <;> simp
                  · simp only [go_sem]
                · have hb2 : ¬ valOf T v = 0 := by simpa using hb2
                  repeat (first | refine nav ?_ | refine bo ?_)
                  (refine wr fun K R hK hR => ?_; simp (maxSteps := 10000000) only [go_sem, h9]; (try go_ints); (try simp only [go_sem, h9]); (repeat refine And.intro side ?_); (first | refine hK _ ?_ | refine hR _ _ ?_); clear hK hR K R)
                  repeat (first | refine nav ?_ | refine bo ?_)
                  refine forQ_normal (vars - (v + 1)) (by omega) ⟨v + 1, rfl, ?_, by omega, rfl, .inl ⟨?_, fun u hu => ?_⟩⟩
                  · simp only [go_sem] <;> simp
                  · simp only [go_sem, h8]
                  · rcases Nat.lt_succ_iff_lt_or_eq.1 hu with hu | rfl
                    · exact hI u hu
                    · exact hb2
              · have hb : ¬ v < vars := by simpa using hb
                obtain rfl : v = vars := by omega
                repeat (first | refine nav ?_ | refine bo ?_)
                refine ⟨_, rfl, rfl, .inl ⟨?_, hI⟩⟩
                simp only [go_sem, h8]
            · (refine wr fun K R hK hR => ?_; simp (maxSteps := 10000000) only [go_sem, h8, h9, RS_get1, hTv]; (try go_ints); (try simp only [go_sem, h8, h9, RS_get1, hTv]); (repeat refine And.intro side ?_); (first | refine hK _ ?_ | refine hR _ _ ?_); clear hK hR K R)
              repeat (first | refine nav ?_ | refine bo ?_)
              refine W_cond (b := false) (by simp only [go_sem] <;> simp <;> omega) (fun hb => by cases hb) (fun _ => ?_)
              repeat (first | refine nav ?_ | refine bo ?_)
              refine ⟨_, rfl, rfl, .inr ⟨f, ?_, hf, hf0⟩⟩
              simp only [go_sem, h8]
          rintro t2 o2 ⟨ho2, hfr⟩
          rw [ho2, mix_mix (lo := 43) (lo' := 43) rfl]
          clear ho2 o2
          rcases hfr with ⟨h8, hfull⟩ | ⟨f, h8, hf, hf0⟩
          · have hM1 := full_one htT hlit hfull hmet
            rw [hcT] at hM1
            repeat (first | refine nav ?_ | refine bo ?_)
            (refine wr fun K R hK hR => ?_; simp (maxSteps := 10000000) only [go_sem, h8]; (try go_ints); (try simp only [go_sem, h8]); (repeat refine And.intro side ?_); (first | refine hK _ ?_ | refine hR _ _ ?_); clear hK hR K R)
            repeat (first | refine nav ?_ | refine bo ?_)
            refine W_cond (b := true) (by simp only [go_sem] <;> rfl) (fun _ => ?_) (fun hb => by cases hb)
            repeat (first | refine nav ?_ | refine bo ?_)
            (refine wr fun K R hK hR => ?_; simp (maxSteps := 10000000) only [go_sem]; (try go_ints); (repeat refine And.intro side ?_); (first | refine hK _ ?_ | refine hR _ _ ?_); clear hK hR K R)
            repeat (first | refine nav ?_ | refine bo ?_)
            (refine wr fun K R hK hR => ?_; simp (maxSteps := 10000000) only [go_sem]; (try go_ints); (repeat refine And.intro side ?_); (first | refine hK _ ?_ | refine hR _ _ ?_); clear hK hR K R)
            repeat (first | refine nav ?_ | refine bo ?_)
            refine W_for 67 100 [7, 10] (fun m t o => o = RS vars list T left2 ∧ t 7 = .i .i64 1 ∧ t 10 = .i .i64 1) 0 ⟨rfl, by simp only [go_sem], by simp only [go_sem]⟩ ?_
            rintro m t o ⟨rfl, h7, h10⟩
            repeat (first | refine nav ?_ | refine bo ?_)
            (refine wr fun K R hK hR => ?_; simp (maxSteps := 10000000) only [go_sem, h7, h8, h10]; (try go_ints); (try simp only [go_sem, h7, h8, h10]); (repeat refine And.intro side ?_); (first | refine hK _ ?_ | refine hR _ _ ?_); clear hK hR K R)
            repeat (first | refine nav ?_ | refine bo ?_)
            refine W_cond (b := false) (by simp only [go_sem] <;> rfl) (fun hb => by cases hb) (fun _ => ?_)
            repeat (first | refine nav ?_ | refine bo ?_)
            rw [mix_mix (lo := 67) (lo' := 43) rfl]
            refine ⟨_, rfl, 1, left2, rfl, ?_, ⟨by omega, by omega, fun h => ?_, fun h => by omega, fun h => by omega⟩⟩
            · simp only [go_sem, h7]
            · rw [hM1]; omega
          · obtain ⟨xs, hxs⟩ : ∃ xs : Nat → Int, xs = fun j => if j = 0 then (f : Int) + 1 else -((f : Int) + 1) := ⟨_, rfl⟩
            obtain ⟨Mj, hMj⟩ : ∃ Mj : Nat → Nat, Mj = fun j => if j = 0 then 0 else if j = 1 then cntM vars list (T ++ [(f : Int) + 1]) else cntM vars list T := ⟨_, rfl⟩
            have hxn : (f : Int) + 1 ∉ T ∧ -((f : Int) + 1) ∉ T := by
              unfold valOf at hf0
              by_cases q1 : (f : Int) + 1 ∈ T
              · simp [q1] at hf0
              · by_cases q2 : -((f : Int) + 1) ∈ T
                · simp [q1, q2] at hf0
                · exact ⟨q1, q2⟩
            have hTlt : T.length < vars := by
              have hsn := htT.snoc (x := (f : Int) + 1) ⟨by omega, by omega, by omega⟩ hxn.1 hxn.2
              have := hsn.len
              rw [List.length_append, List.length_singleton] at this
              omega
            have hM2 : Mj 2 = cntM vars list T := by rw [hMj]; rfl
            have hM0 : Mj 0 = 0 := by rw [hMj]; rfl
            have hMs : ∀ j < 2, Mj (j + 1) = Mj j + cntM vars list (T ++ [xs j]) := by
              intro j hj
              rw [hMj, hxs]
              match j, hj with
              | 0, _ => simp
              | 1, _ =>
                simp only [Nat.reduceAdd, Nat.reduceEqDiff, if_false, if_true]
                rw [cntM_split (x := (f : Int) + 1) (by omega)]
            have hxl : ∀ j < 2, LitOk vars (xs j) ∧ xs j ∉ T ∧ -(xs j) ∉ T ∧ (varI (xs j)).toNat = f ∧ (if xs j > 0 then (1 : Int) else -1) = 1 - 2 * (j : Int) := by
              intro j hj
              rw [hxs]
              match j, hj with
              | 0, _ =>
                simp only [if_true]
                refine ⟨⟨by omega, by omega, by omega⟩, hxn.1, hxn.2, ?_, ?_⟩
                · rw [varI, if_pos (by omega)]; omega
                · rw [if_pos (by omega)]; rfl
              | 1, _ =>
                simp only [Nat.reduceEqDiff, if_false]
                refine ⟨⟨by omega, by omega, by omega⟩, hxn.2, by rw [Int.neg_neg]; exact hxn.1, ?_, ?_⟩
                · rw [varI, if_neg (by omega)]; omega
                · rw [if_neg (by omega)]; rfl
            have hgt := valL_get (tr := T) hf
            obtain ⟨D, hD⟩ : ∃ D : Nat, D = (vars - T.length) * vars := ⟨_, rfl⟩
            have hD1 : D ≤ 3600 := by
              rw [hD]
              exact Nat.mul_le_mul (by omega : vars - T.length ≤ 60) hv
            have hD2 : D + vars ≤ (vars - tr.length + 1) * vars := by
              have : (vars - T.length + 1) * vars ≤ (vars - tr.length + 1) * vars := Nat.mul_le_mul_right _ (by omega)
              rw [Nat.add_mul, Nat.one_mul] at this
              omega
            have hDk : ((vars - (T.length + 1) + 1) * vars) = D := by rw [hD]; congr 1; omega
            repeat (first | refine nav ?_ | refine bo ?_)
            (refine wr fun K R hK hR => ?_; simp (maxSteps := 10000000) only [go_sem, h8]; (try go_ints); (try simp only [go_sem, h8]); (repeat refine And.intro side ?_); (first | refine hK _ ?_ | refine hR _ _ ?_); clear hK hR K R)
            repeat (first | refine nav ?_ | refine bo ?_)
            refine W_cond (b := false) (by simp only [go_sem] <;> simp <;> omega) (fun hb => by cases hb) (fun _ => ?_)
            repeat (first | refine nav ?_ | refine bo ?_)
            (refine wr fun K R hK hR => ?_; simp (maxSteps := 10000000) only [go_sem]; (try go_ints); (repeat refine And.intro side ?_); (first | refine hK _ ?_ | refine hR _ _ ?_); clear hK hR K R)
            repeat (first | refine nav ?_ | refine bo ?_)
            refine W_for 67 100 [7, 10] (fun m t o => ∃ (j : Nat) (n lj : Int), o = RS vars list T lj ∧ t 7 = .i .i64 n ∧ t 10 = .i .i64 (1 - 2 * (j : Int)) ∧ m = 2 - j ∧ j ≤ 2 ∧ 0 ≤ n ∧ n ≤ most ∧ n * vars ≤ left2 - lj ∧ (0 ≤ lj → n = min (Mj j : Int) most) ∧ (j ≤ 1 → -(20000 + (D : Int)) ≤ lj) ∧ -(20000 + (D : Int) + vars) ≤ lj ∧ lj ≤ left2 ∧ (j = 0 → lj = left2)) 2
              ⟨0, 0, left2, rfl, by simp only [go_sem] <;> rfl, by simp only [go_sem] <;> rfl, rfl, by omega, by omega, by omega, by omega, fun _ => by rw [hM0]; omega, fun _ => by omega, by omega, by omega, fun _ => rfl⟩ ?_
            rintro m t o ⟨j, n, lj, rfl, h7, h10, rfl, hj, hn0, hn1, hnc, hnx, hlb, hlb2, hub, hj0⟩
            repeat (first | refine nav ?_ | refine bo ?_)
            (refine wr fun K R hK hR => ?_; simp (maxSteps := 10000000) only [go_sem, h7, h8, h10]; (try go_ints); (try simp only [go_sem, h7, h8, h10]); (repeat refine And.intro side ?_); (first | refine hK _ ?_ | refine hR _ _ ?_); clear hK hR K R)
            repeat (first | refine nav ?_ | refine bo ?_)
            refine W_cond (b := decide (1 - 2 * (j : Int) ≥ -1) && decide (n < most)) (by simp only [go_sem] <;> simp <;> omega) (fun hb => ?_) (fun hb => ?_)
            · simp only [Bool.and_eq_true, decide_eq_true_eq] at hb
              obtain ⟨hb1, hb2⟩ := hb
              have hj2 : j < 2 := by omega
              obtain ⟨hxo, hx1, hx2, hxv, hxs2⟩ := hxl j hj2
              have hMs := hMs j hj2
              have hput := val_put hx1 hx2 hxo
              have hund := val_undo hx1 hx2 hxo
              have hsn := htT.snoc hxo hx1 hx2
              generalize xs j = x at *
              rw [hxs2, show ((if x > 0 then x else -x) - 1).toNat = f from hxv] at hput
              rw [show ((if x > 0 then x else -x) - 1).toNat = f from hxv] at hund
              have hgt2 := valL_get (tr := T ++ [x]) hf
              have hTv2 := valL_len vars (T ++ [x])
              repeat (first | refine nav ?_ | refine bo ?_)
              refine W_joinS 80 87 [] (fun t o' => o' = RS vars list (T ++ [x]) lj) ?_ ?_
              · (refine wr fun K R hK hR => ?_; simp (maxSteps := 10000000) only [go_sem, h8, h10, RS_get1, RS_get0, hTv, ints_get hgt, ints_set]; (try go_ints); (try simp only [go_sem, h8, h10, RS_get1, RS_get0, hTv, ints_get hgt, ints_set]); (repeat refine And.intro side ?_); (first | refine hK _ ?_ | refine hR _ _ ?_); clear hK hR K R)
                refine ⟨_, rfl, ?_⟩
                show [Ob.cells 1 (ints ((valL vars T).set f (1 - 2 * (j : Int)))), _] = _
                rw [← hput]
                rfl
              rintro t5 o5 ho5
              rw [ho5, mix_mix (lo := 80) (lo' := 67) rfl]
              clear ho5 o5
              repeat (first | refine nav ?_ | refine bo ?_)
              (refine wr fun K R hK hR => ?_; simp (maxSteps := 10000000) only [go_sem, h7]; (try go_ints); (try simp only [go_sem, h7]); (repeat refine And.intro side ?_); (first | refine hK _ ?_ | refine hR _ _ ?_); clear hK hR K R)
              refine RL_callE (ih (T ++ [x]) lj (most - n) (by rw [List.length_append, List.length_singleton]; omega) hsn (by omega) (by omega) (by omega) (by omega)) (fun r o' ⟨n', l', e1, e2, e3⟩ => ⟨by rw [e2]; exact Nat.le_refl _, by rw [e1]; rfl, by rw [e2]; exact hok0 _ _⟩) (by simp only [go_sem] <;> exact rfl) rfl rfl (by simp) (by simp only [go_sem] <;> exact LeA.refl _) (hok0 _ _) rfl ?_
              rintro r o6 ⟨n', l', rfl, rfl, hco⟩
              obtain ⟨⟨c0, c1⟩, c2, c3, c4, c5⟩ := hco
              rw [List.length_append, List.length_singleton, hDk] at c5
              have c6 : 0 ≤ n' * (vars : Int) := Int.mul_nonneg c0 (Int.natCast_nonneg _)
              have c7 : (n + n') * (vars : Int) ≤ left2 - l' := by rw [Int.add_mul]; omega
              (refine rr fun K R hK hR => ?_; simp (maxSteps := 10000000) only [go_sem]; (try go_ints); (repeat refine And.intro side ?_); (first | refine hK _ ?_ | refine hR _ _ ?_); clear hK hR K R)
              repeat (first | refine nav ?_ | refine bo ?_)
              refine W_joinN 94 100 [] (fun t o' => o' = RS vars list T l') ?_ ?_
              · (refine wr fun K R hK hR => ?_; simp (maxSteps := 10000000) only [go_sem, h8, RS_get1, RS_get0, hTv2, ints_get hgt2, ints_set]; (try go_ints); (try simp only [go_sem, h8, RS_get1, RS_get0, hTv2, ints_get hgt2, ints_set]); (repeat refine And.intro side ?_); (first | refine hK _ ?_ | refine hR _ _ ?_); clear hK hR K R)
                refine ⟨_, rfl, ?_⟩
                show [Ob.cells 1 (ints ((valL vars (T ++ [x])).set f 0)), _] = _
                rw [hund]
                rfl
              rintro t6 o7 ho7
              rw [ho7, mix_mix (lo := 94) (lo' := 67) rfl]
              clear ho7 o7
              repeat (first | refine nav ?_ | refine bo ?_)
              (refine wr fun K R hK hR => ?_; simp (maxSteps := 10000000) only [go_sem, h10]; (try go_ints); (try simp only [go_sem, h10]); (repeat refine And.intro side ?_); (first | refine hK _ ?_ | refine hR _ _ ?_); clear hK hR K R)
              repeat (first | refine nav ?_ | refine bo ?_)
              refine forQ_normal (2 - (j + 1)) (by omega) ⟨j + 1, n + n', l', rfl, ?_, ?_, rfl, by omega, by omega, by omega, c7, fun h => ?_, fun hj1 => ?_, ?_, by omega, fun h => by omega⟩
              · simp only [go_sem]
              · simp only [go_sem]
                congr 1
                omega
              · have h1 := c3 h
                have h2 := hnx (by omega)
                rw [hMs]
                omega
              · obtain rfl : j = 0 := by omega
                have : 0 ≤ lj := by
                  rw [hj0 rfl]; exact hl20
                have := c5 this
                omega
              · rcases Int.lt_or_le lj 0 with q | q
                · have := c4 q
                  have := hlb (by omega)
                  omega
                · have := c5 q
                  omega
            · have hb : j = 2 ∨ n = most := by
                by_cases q : n < most
                · left
                  have : ¬ (1 - 2 * (j : Int) ≥ -1) := fun h => by simp [q, h] at hb
                  omega
                · right; omega
              repeat (first | refine nav ?_ | refine bo ?_)
              rw [mix_mix (lo := 67) (lo' := 43) rfl]
              have hcc : n * (vars : Int) ≤ left - lj := by omega
              refine ⟨_, rfl, n, lj, rfl, ?_, ⟨⟨hn0, hn1⟩, hcc, fun h => ?_, fun h => by omega, fun h => by omega⟩⟩
              · simp only [go_sem, h7]
              · have h1 := hnx h
                rw [← hcT, ← hM2]
                rcases hb with rfl | rfl
                · exact h1
                · have : Mj j ≤ Mj 2 := by
                    match j, hj with
                    | 0, _ => have := hMs 0 (by omega); have := hMs 1 (by omega); simp only [Nat.zero_add, Nat.reduceAdd] at *; omega
                    | 1, _ => have := hMs 1 (by omega); simp only [Nat.reduceAdd] at *; omega
                    | 2, _ => exact Nat.le_refl _
                  omega
        · repeat (first | refine nav ?_ | refine bo ?_)
          refine ⟨_, rfl, 0, left2, rfl, ?_, ⟨by omega, by omega, fun h => ?_, fun h => by omega, fun h => by omega⟩⟩
          · simp only [go_sem]
          · have : ok = false := by
              cases ok with
              | false => rfl
              | true => simp at hb2; omega
            rw [hok9 this]
            have : (((0 : Nat) : Int)) = 0 := rfl
            omega
      rintro t3 o3 ⟨n, left3, ho3, h7, hco⟩
      rw [ho3, ← hT]
      clear ho3 o3
      repeat (first | refine nav ?_ | refine bo ?_)
      (refine wr fun K R hK hR => ?_; simp (maxSteps := 10000000) only [go_sem]; (try go_ints); (repeat refine And.intro side ?_); (first | refine hK _ ?_ | refine hR _ _ ?_); clear hK hR K R)
      repeat (first | refine nav ?_ | refine bo ?_)
      refine undoLoop (by rfl) (by omega) (by rw [hT]; exact htT) ?_ ?_ ?_ ?_
      · simp only [go_sem] <;> rfl
      · simp only [go_sem]
      · simp only [go_sem]
      intro t4
      repeat (first | refine nav ?_ | refine bo ?_)
      (refine wr fun K R hK hR => ?_; simp (maxSteps := 10000000) only [go_sem, h7]; (try go_ints); (try simp only [go_sem, h7]); (repeat refine And.intro side ?_); (first | refine hK _ ?_ | refine hR _ _ ?_); clear hK hR K R)
      repeat (first | refine nav ?_ | refine bo ?_)
      refine endQ_all (by simp only [go_sem] <;> exact rfl) (Le.refl _) (Nat.le_refl _) (hok0 _ _) rfl ⟨n, left3, rfl, rfl, hco⟩
end Go.AW
/-
The document's Models, Valid and Holds of clauses.
-/
namespace Go.AW
open Go Go.Proofs TyTry Go.IntWalk
set_option linter.unusedSimpArgs false
set_option linter.unusedVariables false
set_option maxRecDepth 10000
set_option maxHeartbeats 1000000

def RefM (vars : Nat) (cls : List (List Int)) (r : AV) : Prop := ∃ (n : Int) (ok : Bool), r = .tup [.i .i64 n, .b ok] ∧ (ok = true → n = (cntM vars cls [] : Int))
theorem refModels_spec {vars : Nat} {cls : List (List Int)} (hv : vars ≤ 60) (hn : cls.length ≤ 10000) (hs : sumL cls ≤ 10000) (hlit : ∀ l ∈ cls, ∀ x ∈ l, LitOk vars x) :
    ACalls Try.prog 25 [.i .i64 vars, .sl 1 (tups cls), .i .i64 1048576, .i .i64 2000000] [] fun r o => RefM vars cls r ∧ o = [] := by
  have hcs := count_spec hv hn hs hlit (vars + 1) [] 2000000 1048576 (by simp) (TrOk_nil _) (by omega) (by omega) (by omega) (by omega)
  refine ACalls_of' (n := 27) (rs := [.tmp 8, .tmp 9]) (show Try.prog.funcs[25]? = some Try.f25 by kernel_rfl) rfl rfl rfl (by simp) (by decide +kernel) ?_
  repeat (first | refine nav ?_ | refine bo ?_)
  (refine wr fun K R hK hR => ?_; simp (maxSteps := 10000000) only [go_sem]; (try go_ints); (repeat refine And.intro side ?_); (first | refine hK _ ?_ | refine hR _ _ ?_); clear hK hR K R)
  repeat (first | refine nav ?_ | refine bo ?_)
  have hrs : [Ob.cells 1 (List.replicate vars [AV.i .i64 0]), Ob.cells 3 [[.sl 1 (tups cls), .ref 0 0 vars, .i .i64 2000000]]] = RS vars cls [] 2000000 := by
    simp [RS, valL_nil, ints]
  (refine wr fun K R hK hR => ?_; simp (maxSteps := 10000000) only [go_sem]; (try go_ints); (repeat refine And.intro side ?_); (first | refine hK _ ?_ | refine hR _ _ ?_); clear hK hR K R)
  repeat (first | refine nav ?_ | refine bo ?_)
  rw [hrs]
  clear hrs
  have hok0 : ∀ T y, okO (RS vars cls T y) = true := fun T y => RS_ok vars cls T y
  (refine wr fun K R hK hR => ?_; simp (maxSteps := 10000000) only [go_sem]; (try go_ints); (repeat refine And.intro side ?_); (first | refine hK _ ?_ | refine hR _ _ ?_); clear hK hR K R)
  refine RL_callE hcs (fun r o' ⟨n', l', e1, e2, e3⟩ => ⟨by rw [e2]; exact Nat.le_refl _, by rw [e1]; rfl, by rw [e2]; exact hok0 _ _⟩) (by simp only [go_sem] <;> exact rfl) rfl rfl (by simp) (by simp only [go_sem] <;> exact LeA.refl _) (hok0 _ _) rfl ?_
  rintro r o6 ⟨n, l', rfl, rfl, ⟨c0, c1⟩, c2, c3, c4, c5⟩
  have c6 : 0 ≤ n * (vars : Int) := Int.mul_nonneg c0 (Int.natCast_nonneg _)
  have c5 := c5 (by omega)
  have hD : (vars - ([] : List Int).length + 1) * vars ≤ 61 * 60 := Nat.mul_le_mul (by simp; omega) hv
  (refine rr fun K R hK hR => ?_; simp (maxSteps := 10000000) only [go_sem]; (try go_ints); (repeat refine And.intro side ?_); (first | refine hK _ ?_ | refine hR _ _ ?_); clear hK hR K R)
  repeat (first | refine nav ?_ | refine bo ?_)
  (refine W_dreg (by decide +kernel) [] [0, 1, 2, 3, 4, 5, 6, 7] [[], [], [1], [1, 2], [2, 1, 3], [3, 1, 2, 4], [0], [0, 6, 4, 2, 1, 3, 5]] (by decide +kernel) rfl fun K R hK hR => ?_; simp only [List.filterMap_cons, List.filterMap_nil, List.getElem?_cons_zero, List.getElem?_cons_succ, List.cons_append, List.nil_append]; simp (maxSteps := 10000000) only [go_sem, RS_get1]; (try go_ints); (try simp only [go_sem, RS_get1]); (repeat refine And.intro side ?_); (first | refine hK _ ?_ | refine hR _ _ ?_); clear hK hR K R)
  repeat (first | refine nav ?_ | refine bo ?_)
  refine endQ_rel (by simp only [go_sem] <;> exact rfl) (Le.refl _) rfl ⟨n, _, rfl, fun h => ?_⟩
  have h : 0 ≤ l' := by simpa using h
  have h1 := c3 h
  have hM := cntP_le vars fun a => satC cls a && agr [] a
  by_cases hv2 : vars ≤ 19
  · have h2 : 2 ^ vars ≤ 2 ^ 19 := Nat.pow_le_pow_right (by omega) hv2
    have h3 : cntM vars cls [] ≤ 2 ^ 19 := Nat.le_trans hM h2
    omega
  · have h2 : n * 20 ≤ n * (vars : Int) := Int.mul_le_mul_of_nonneg_left (by omega) c0
    omega
theorem refHolds_spec {cls : List (List Int)} {a : List Bool} (hn : cls.length ≤ 10000) (hs : sumL cls ≤ 10000) (ha : a.length ≤ 20000) (hlit : ∀ l ∈ cls, ∀ x ∈ l, LitOk a.length x) :
    ACallsD Try.prog 24 [.sl 1 (tups cls), .sl 1 (bools a)] (.b (satC cls a)) := by
  have hlk := sumL_take cls
  refine ACalls_of' (n := 58) (rs := [.tmp 4]) (show Try.prog.funcs[24]? = some Try.f24 by kernel_rfl) rfl rfl rfl (by simp) (by decide +kernel) ?_
  repeat (first | refine nav ?_ | refine bo ?_)
  (refine wr fun K R hK hR => ?_; simp (maxSteps := 10000000) only [go_sem]; (try go_ints); (repeat refine And.intro side ?_); (first | refine hK _ ?_ | refine hR _ _ ?_); clear hK hR K R)
  repeat (first | refine nav ?_ | refine bo ?_)
  (refine wr fun K R hK hR => ?_; simp (maxSteps := 10000000) only [go_sem]; (try go_ints); (repeat refine And.intro side ?_); (first | refine hK _ ?_ | refine hR _ _ ?_); clear hK hR K R)
  repeat (first | refine nav ?_ | refine bo ?_)
  refine W_for 9 58 [5, 6, 7, 8] (fun m t o => ∃ i : Nat, o = [] ∧ t 5 = .i .i64 i ∧ m = cls.length - i ∧ i ≤ cls.length ∧ satC (cls.take i) a = true) cls.length ⟨0, rfl, by simp only [go_sem] <;> rfl, rfl, by omega, by simp [satC]⟩ ?_
  rintro m t o ⟨i, rfl, h5, rfl, hi, hok⟩
  repeat (first | refine nav ?_ | refine bo ?_)
  (refine wr fun K R hK hR => ?_; simp (maxSteps := 10000000) only [go_sem, h5]; (try go_ints); (try simp only [go_sem, h5]); (repeat refine And.intro side ?_); (first | refine hK _ ?_ | refine hR _ _ ?_); clear hK hR K R)
  repeat (first | refine nav ?_ | refine bo ?_)
  refine W_cond (by simp only [go_sem] <;> exact rfl) (fun hb => ?_) (fun hb => ?_)
  · have hb : i < cls.length := by simpa using hb
    obtain ⟨l, hl⟩ : ∃ l, cls[i]? = some l := ⟨_, List.getElem?_eq_getElem hb⟩
    have hsl := sumL_get hl
    have hs1 := hlk (i + 1)
    have hll := hlit l (List.mem_of_getElem? hl)
    have htk : satC (cls.take (i + 1)) a = l.any (litB a) := by
      rw [List.take_add_one, hl]
      simp only [satC, List.all_append, Option.toList_some, List.all_cons, List.all_nil, Bool.and_true]
      rw [show (cls.take i).all (fun l => l.any (litB a)) = true from hok, Bool.true_and]
    repeat (first | refine nav ?_ | refine bo ?_)
    (refine wr fun K R hK hR => ?_; simp (maxSteps := 10000000) only [go_sem]; (try go_ints); (repeat refine And.intro side ?_); (first | refine hK _ ?_ | refine hR _ _ ?_); clear hK hR K R)
    repeat (first | refine nav ?_ | refine bo ?_)
    (refine wr fun K R hK hR => ?_; simp (maxSteps := 10000000) only [go_sem]; (try go_ints); (repeat refine And.intro side ?_); (first | refine hK _ ?_ | refine hR _ _ ?_); clear hK hR K R)
    repeat (first | refine nav ?_ | refine bo ?_)
    refine W_for 15 56 [6, 7, 8] (fun m t o => ∃ j : Nat, o = [] ∧ t 7 = .i .i64 j ∧ t 6 = .b ((l.take j).any (litB a)) ∧ m = l.length - j ∧ j ≤ l.length) l.length ⟨0, rfl, by simp only [go_sem] <;> rfl, by simp only [go_sem] <;> simp, rfl, by omega⟩ ?_
    rintro m t2 o ⟨j, rfl, h7, h6, rfl, hj⟩
    repeat (first | refine nav ?_ | refine bo ?_)
    (refine wr fun K R hK hR => ?_; simp (maxSteps := 10000000) only [go_sem, h5, h7, tups_get hl]; (try go_ints); (try simp only [go_sem, h5, h7, tups_get hl]); (repeat refine And.intro side ?_); (first | refine hK _ ?_ | refine hR _ _ ?_); clear hK hR K R)
    repeat (first | refine nav ?_ | refine bo ?_)
    refine W_cond (by simp only [go_sem] <;> exact rfl) (fun hb => ?_) (fun hb => ?_)
    · have hb : j < l.length := by simpa using hb
      obtain ⟨x, hx⟩ : ∃ x, l[j]? = some x := ⟨_, List.getElem?_eq_getElem hb⟩
      obtain ⟨x0, x1, x2⟩ := hll x (List.mem_of_getElem? hx)
      have htk2 : (l.take (j + 1)).any (litB a) = ((l.take j).any (litB a) || litB a x) := by
        rw [List.take_add_one, hx, List.any_append]
        simp
      generalize (l.take j).any (litB a) = met at h6 htk2
      repeat (first | refine nav ?_ | refine bo ?_)
      (refine wr fun K R hK hR => ?_; simp (maxSteps := 10000000) only [go_sem, h5, h7, tups_get hl, ints_get hx]; (try go_ints); (try simp only [go_sem, h5, h7, tups_get hl, ints_get hx]); (repeat refine And.intro side ?_); (first | refine hK _ ?_ | refine hR _ _ ?_); clear hK hR K R)
      repeat (first | refine nav ?_ | refine bo ?_)
      have hw1 : IntKind.i64.wrap (0 - x) = 0 - x := by go_ints; trivial
      have hw2 : IntKind.i64.wrap (0 - x - 1) = 0 - x - 1 := by go_ints; trivial
      have hw3 : IntKind.i64.wrap (x - 1) = x - 1 := by go_ints; trivial
      refine W_joinN 31 56 [6] (fun t o' => o' = [] ∧ t 6 = .b (met || litB a x)) ?_ ?_
      · by_cases hp : x > 0
        · have hp2 : decide (x > 0) = true := by simpa using hp
          have hp3 : decide (x < 0) = false := by simp; omega
          obtain ⟨b, hb⟩ : ∃ b, a[(x - 1).toNat]? = some b := ⟨_, List.getElem?_eq_getElem (by omega)⟩
          obtain ⟨b0, hb0⟩ : ∃ b, a[0]? = some b := ⟨_, List.getElem?_eq_getElem (by omega)⟩
          have hz : (0 - x - 1).toNat = 0 := by omega
          have hlb : litB a x = b := by simp only [litB, if_pos hp, getD_of2 hb]
          rw [hlb]
          cases met <;> cases b
          all_goals
            (refine wr fun K R hK hR => ?_; simp (maxSteps := 10000000) only [go_sem, h6, hp2, hp3, hw1, hw2, hw3, hz, bools_get hb, bools_get hb0]; (try go_ints); (try simp only [go_sem, h6, hp2, hp3, hw1, hw2, hw3, hz, bools_get hb, bools_get hb0]); (repeat refine And.intro side ?_); (first | refine hK _ ?_ | refine hR _ _ ?_); clear hK hR K R)
            exact ⟨_, rfl, rfl, by simp only [go_sem] <;> rfl⟩
        · have hp2 : decide (x > 0) = false := by simpa using hp
          have hp3 : decide (x < 0) = true := by simp; omega
          obtain ⟨b, hb⟩ : ∃ b, a[(0 - x - 1).toNat]? = some b := ⟨_, List.getElem?_eq_getElem (by omega)⟩
          obtain ⟨b0, hb0⟩ : ∃ b, a[0]? = some b := ⟨_, List.getElem?_eq_getElem (by omega)⟩
          have hz : (x - 1).toNat = 0 := by omega
          have hn : (-x - 1).toNat = (0 - x - 1).toNat := by omega
          have hlb : litB a x = !b := by simp only [litB, if_neg hp, hn, getD_of2 hb]
          rw [hlb]
          cases met <;> cases b
          all_goals
            (refine wr fun K R hK hR => ?_; simp (maxSteps := 10000000) only [go_sem, h6, hp2, hp3, hw1, hw2, hw3, hz, bools_get hb, bools_get hb0]; (try go_ints); (try simp only [go_sem, h6, hp2, hp3, hw1, hw2, hw3, hz, bools_get hb, bools_get hb0]); (repeat refine And.intro side ?_); (first | refine hK _ ?_ | refine hR _ _ ?_); clear hK hR K R)
            exact ⟨_, rfl, rfl, by simp only [go_sem] <;> rfl⟩
      rintro t3 o3 ⟨e3, h36⟩
      rw [e3, mix_mix (lo := 31) (lo' := 15) rfl]
      clear e3 o3
      repeat (first | refine nav ?_ | refine bo ?_)
      (refine wr fun K R hK hR => ?_; simp (maxSteps := 10000000) only [go_sem, h7]; (try go_ints); (try simp only [go_sem, h7]); (repeat refine And.intro side ?_); (first | refine hK _ ?_ | refine hR _ _ ?_); clear hK hR K R)
      repeat (first | refine nav ?_ | refine bo ?_)
      refine forQ_normal (l.length - (j + 1)) (by omega) ⟨j + 1, rfl, ?_, ?_, rfl, by omega⟩
      · simp only [go_sem] <;> simp
      · simp only [go_sem, h36, htk2]
    · have hb : ¬ j < l.length := by simpa using hb
      obtain rfl : j = l.length := by omega
      rw [List.take_length] at h6
      repeat (first | refine nav ?_ | refine bo ?_)
      rw [mix_mix (lo := 15) (lo' := 9) rfl]
      (refine wr fun K R hK hR => ?_; simp (maxSteps := 10000000) only [go_sem, h6]; (try go_ints); (try simp only [go_sem, h6]); (repeat refine And.intro side ?_); (first | refine hK _ ?_ | refine hR _ _ ?_); clear hK hR K R)
      repeat (first | refine nav ?_ | refine bo ?_)
      refine W_cond (b := !(l.any (litB a))) (by simp only [go_sem]) (fun hb2 => ?_) (fun hb2 => ?_)
      · repeat (first | refine nav ?_ | refine bo ?_)
        (refine wr fun K R hK hR => ?_; simp (maxSteps := 10000000) only [go_sem]; (try go_ints); (repeat refine And.intro side ?_); (first | refine hK _ ?_ | refine hR _ _ ?_); clear hK hR K R)
        repeat (first | refine nav ?_ | refine bo ?_)
        refine endQ_data (by simp only [go_sem] <;> exact rfl) (Le.of_eq ?_) rfl
        congr 1
        symm
        rw [satC, List.all_eq_false]
        exact ⟨l, List.mem_of_getElem? hl, by simpa using hb2⟩
      · repeat (first | refine nav ?_ | refine bo ?_)
        (refine wr fun K R hK hR => ?_; simp (maxSteps := 10000000) only [go_sem, h5]; (try go_ints); (try simp only [go_sem, h5]); (repeat refine And.intro side ?_); (first | refine hK _ ?_ | refine hR _ _ ?_); clear hK hR K R)
        repeat (first | refine nav ?_ | refine bo ?_)
        refine forQ_normal (cls.length - (i + 1)) (by omega) ⟨i + 1, rfl, ?_, rfl, by omega, by rw [htk]; simpa using hb2⟩
        simp only [go_sem] <;> simp
  · have hb : ¬ i < cls.length := by simpa using hb
    obtain rfl : i = cls.length := by omega
    rw [List.take_length] at hok
    repeat (first | refine nav ?_ | refine bo ?_)
    (refine wr fun K R hK hR => ?_; simp (maxSteps := 10000000) only [go_sem]; (try go_ints); (repeat refine And.intro side ?_); (first | refine hK _ ?_ | refine hR _ _ ?_); clear hK hR K R)
    repeat (first | refine nav ?_ | refine bo ?_)
    refine endQ_data (by simp only [go_sem] <;> exact rfl) (Le.of_eq ?_) rfl
    rw [hok]
theorem refValid_spec {vars : Int} {cls : List (List Int)} (hn : cls.length ≤ 10000) (hs : sumL cls ≤ 10000) : ACallsD Try.prog 19 [.i .i64 vars, .sl 1 (tups cls)] (.b (validC vars cls)) := by
  have hlk := sumL_take cls
  refine ACalls_of' (n := 64) (rs := [.tmp 4]) (show Try.prog.funcs[19]? = some Try.f19 by kernel_rfl) rfl rfl rfl (by simp) (by decide +kernel) ?_
  repeat (first | refine nav ?_ | refine bo ?_)
  (refine wr fun K R hK hR => ?_; simp (maxSteps := 10000000) only [go_sem]; (try go_ints); (repeat refine And.intro side ?_); (first | refine hK _ ?_ | refine hR _ _ ?_); clear hK hR K R)
  repeat (first | refine nav ?_ | refine bo ?_)
  (refine wr fun K R hK hR => ?_; simp (maxSteps := 10000000) only [go_sem]; (try go_ints); (repeat refine And.intro side ?_); (first | refine hK _ ?_ | refine hR _ _ ?_); clear hK hR K R)
  repeat (first | refine nav ?_ | refine bo ?_)
  refine W_cond (by simp only [go_sem] <;> exact rfl) (fun hb => ?_) (fun hb => ?_)
  · repeat (first | refine nav ?_ | refine bo ?_)
    (refine wr fun K R hK hR => ?_; simp (maxSteps := 10000000) only [go_sem]; (try go_ints); (repeat refine And.intro side ?_); (first | refine hK _ ?_ | refine hR _ _ ?_); clear hK hR K R)
    repeat (first | refine nav ?_ | refine bo ?_)
    refine endQ_data (by simp only [go_sem] <;> exact rfl) (Le.of_eq ?_) rfl
    simp only [Bool.or_eq_true, decide_eq_true_eq] at hb
    simp only [validC]
    congr 1
    symm
    rw [Bool.and_eq_false_iff]
    left
    simp only [Bool.and_eq_false_iff, decide_eq_false_iff_not]
    omega
  · simp only [Bool.or_eq_false_iff, decide_eq_false_iff_not] at hb
    have hv0 : 0 ≤ vars := by omega
    have hv1 : vars ≤ 20000 := by omega
    have hval : validC vars cls = litsOk vars cls := by simp [validC, hv0, hv1]
    rw [hval]
    repeat (first | refine nav ?_ | refine bo ?_)
    (refine wr fun K R hK hR => ?_; simp (maxSteps := 10000000) only [go_sem]; (try go_ints); (repeat refine And.intro side ?_); (first | refine hK _ ?_ | refine hR _ _ ?_); clear hK hR K R)
    repeat (first | refine nav ?_ | refine bo ?_)
    (refine wr fun K R hK hR => ?_; simp (maxSteps := 10000000) only [go_sem]; (try go_ints); (repeat refine And.intro side ?_); (first | refine hK _ ?_ | refine hR _ _ ?_); clear hK hR K R)
    repeat (first | refine nav ?_ | refine bo ?_)
    refine W_for 20 62 [5, 6, 7, 8] (fun m t o => ∃ i : Nat, o = [] ∧ t 5 = .i .i64 (sumL (cls.take i)) ∧ t 6 = .i .i64 i ∧ m = cls.length - i ∧ i ≤ cls.length ∧ litsOk vars (cls.take i) = true) cls.length ⟨0, rfl, by simp only [go_sem] <;> simp [sumL], by simp only [go_sem] <;> rfl, rfl, by omega, by simp [litsOk]⟩ ?_
    rintro m t o ⟨i, rfl, h5, h6, rfl, hi, hok⟩
    repeat (first | refine nav ?_ | refine bo ?_)
    (refine wr fun K R hK hR => ?_; simp (maxSteps := 10000000) only [go_sem, h6]; (try go_ints); (try simp only [go_sem, h6]); (repeat refine And.intro side ?_); (first | refine hK _ ?_ | refine hR _ _ ?_); clear hK hR K R)
    repeat (first | refine nav ?_ | refine bo ?_)
    refine W_cond (by simp only [go_sem] <;> exact rfl) (fun hb => ?_) (fun hb => ?_)
    · have hb : i < cls.length := by simpa using hb
      obtain ⟨l, hl⟩ : ∃ l, cls[i]? = some l := ⟨_, List.getElem?_eq_getElem hb⟩
      have hsl := sumL_get hl
      have hs1 := hlk (i + 1)
      have htk : litsOk vars (cls.take (i + 1)) = !(l.any (badL vars)) := by
        rw [List.take_add_one, hl]
        simp only [litsOk, List.all_append, Option.toList_some, List.all_cons, List.all_nil, Bool.and_true]
        rw [show (cls.take i).all (fun l => !(l.any (badL vars))) = true from hok, Bool.true_and]
      repeat (first | refine nav ?_ | refine bo ?_)
      (refine wr fun K R hK hR => ?_; simp (maxSteps := 10000000) only [go_sem, h5, h6, tups_get hl]; (try go_ints); (try simp only [go_sem, h5, h6, tups_get hl]); (repeat refine And.intro side ?_); (first | refine hK _ ?_ | refine hR _ _ ?_); clear hK hR K R)
      repeat (first | refine nav ?_ | refine bo ?_)
      (refine wr fun K R hK hR => ?_; simp (maxSteps := 10000000) only [go_sem]; (try go_ints); (repeat refine And.intro side ?_); (first | refine hK _ ?_ | refine hR _ _ ?_); clear hK hR K R)
      repeat (first | refine nav ?_ | refine bo ?_)
      refine W_for 33 62 [7, 8] (fun m t o => ∃ j : Nat, o = [] ∧ t 7 = .i .i64 j ∧ m = l.length - j ∧ j ≤ l.length ∧ (l.take j).any (badL vars) = false) l.length ⟨0, rfl, by simp only [go_sem] <;> rfl, rfl, by omega, by simp⟩ ?_
      rintro m t2 o ⟨j, rfl, h7, rfl, hj, hok2⟩
      repeat (first | refine nav ?_ | refine bo ?_)
      (refine wr fun K R hK hR => ?_; simp (maxSteps := 10000000) only [go_sem, h6, h7, tups_get hl]; (try go_ints); (try simp only [go_sem, h6, h7, tups_get hl]); (repeat refine And.intro side ?_); (first | refine hK _ ?_ | refine hR _ _ ?_); clear hK hR K R)
      repeat (first | refine nav ?_ | refine bo ?_)
      refine W_cond (by simp only [go_sem] <;> exact rfl) (fun hb => ?_) (fun hb => ?_)
      · have hb : j < l.length := by simpa using hb
        obtain ⟨x, hx⟩ : ∃ x, l[j]? = some x := ⟨_, List.getElem?_eq_getElem hb⟩
        have htk2 : (l.take (j + 1)).any (badL vars) = badL vars x := by
          rw [List.take_add_one, hx, List.any_append, hok2]
          simp
        repeat (first | refine nav ?_ | refine bo ?_)
        (refine wr fun K R hK hR => ?_; simp (maxSteps := 10000000) only [go_sem, h6, h7, tups_get hl, ints_get hx]; (try go_ints); (try simp only [go_sem, h6, h7, tups_get hl, ints_get hx]); (repeat refine And.intro side ?_); (first | refine hK _ ?_ | refine hR _ _ ?_); clear hK hR K R)
        repeat (first | refine nav ?_ | refine bo ?_)
        (refine wr fun K R hK hR => ?_; simp (maxSteps := 10000000) only [go_sem]; (try go_ints); (repeat refine And.intro side ?_); (first | refine hK _ ?_ | refine hR _ _ ?_); clear hK hR K R)
        repeat (first | refine nav ?_ | refine bo ?_)
        refine W_cond (b := badL vars x) (by simp only [go_sem, badL] <;> simp <;> omega) (fun hb2 => ?_) (fun hb2 => ?_)
        · repeat (first | refine nav ?_ | refine bo ?_)
          (refine wr fun K R hK hR => ?_; simp (maxSteps := 10000000) only [go_sem]; (try go_ints); (repeat refine And.intro side ?_); (first | refine hK _ ?_ | refine hR _ _ ?_); clear hK hR K R)
          repeat (first | refine nav ?_ | refine bo ?_)
          refine endQ_data (by simp only [go_sem] <;> exact rfl) (Le.of_eq ?_) rfl
          congr 1
          symm
          rw [litsOk, List.all_eq_false]
          exact ⟨l, List.mem_of_getElem? hl, by simp only [Bool.not_eq_true', Bool.not_eq_false']; rw [Bool.not_eq_false]; exact List.any_eq_true.2 ⟨x, List.mem_of_getElem? hx, hb2⟩⟩
        · repeat (first | refine nav ?_ | refine bo ?_)
          (refine wr fun K R hK hR => ?_; simp (maxSteps := 10000000) only [go_sem, h7]; (try go_ints); (try simp only [go_sem, h7]); (repeat refine And.intro side ?_); (first | refine hK _ ?_ | refine hR _ _ ?_); clear hK hR K R)
          repeat (first | refine nav ?_ | refine bo ?_)
          refine forQ_normal (l.length - (j + 1)) (by omega) ⟨j + 1, rfl, ?_, rfl, by omega, by rw [htk2, hb2]⟩
          simp only [go_sem] <;> simp
      · have hb : ¬ j < l.length := by simpa using hb
        obtain rfl : j = l.length := by omega
        rw [List.take_length] at hok2
        repeat (first | refine nav ?_ | refine bo ?_)
        rw [mix_mix (lo := 33) (lo' := 20) rfl]
        (refine wr fun K R hK hR => ?_; simp (maxSteps := 10000000) only [go_sem, h6]; (try go_ints); (try simp only [go_sem, h6]); (repeat refine And.intro side ?_); (first | refine hK _ ?_ | refine hR _ _ ?_); clear hK hR K R)
        repeat (first | refine nav ?_ | refine bo ?_)
        refine forQ_normal (cls.length - (i + 1)) (by omega) ⟨i + 1, rfl, ?_, ?_, rfl, by omega, by rw [htk, hok2]; rfl⟩
        · simp only [go_sem]
          congr 1
          omega
        · simp only [go_sem] <;> simp
    · have hb : ¬ i < cls.length := by simpa using hb
      obtain rfl : i = cls.length := by omega
      rw [List.take_length] at hok h5
      repeat (first | refine nav ?_ | refine bo ?_)
      (refine wr fun K R hK hR => ?_; simp (maxSteps := 10000000) only [go_sem, h5]; (try go_ints); (try simp only [go_sem, h5]); (repeat refine And.intro side ?_); (first | refine hK _ ?_ | refine hR _ _ ?_); clear hK hR K R)
      repeat (first | refine nav ?_ | refine bo ?_)
      refine endQ_data (by simp only [go_sem] <;> exact rfl) (Le.of_eq ?_) rfl
      rw [hok]
      congr 1
      simp
      omega
end Go.AW
