/-
The law HardClauses.
-/
import Derived.Test.YtilaieleaiadeaaKao
import Derived.Test.YtilaieleaiadeaaKal
import Derived.Test.YtilaieleaiadeaaKag
namespace Go.AW
open Go Go.Proofs TyTry Go.IntWalk
set_option linter.unusedSimpArgs false
set_option linter.unusedVariables false
set_option maxRecDepth 10000
set_option maxHeartbeats 1000000

/-- A call that brings plain data, of which something is known. -/
theorem RL_callR {P : Program} {n : Nat} {gd : List (Option Nat)} {Q : Exit → St → Prop} {s : St} {d : Option Tmp} {f : FuncId} {xs : List Operand} {ats : Array TypeId} {ty : TypeId} {pos : String} {aft : Array Edge} {rest : List Oper} {ac : List AV} {R : AV → Prop} (h : ACalls P f ac [] fun r o' => R r ∧ o' = []) (hpl : ∀ r, R r → r.ltk 0 = true)
    (hin : xs.all (opIn n) = true) (hd : dstOk n d = true) (hlen : xs.length = ac.length) (hle : LeA (argVals xs ac s.t) ac) (harg : ac.all (AV.ltk 0) = true) (hoc : okO s.o = true)
    (hK : ∀ r, R r → RL P n gd rest Q ((⟨argDrop xs ac s.t, s.o⟩ : St).put d r)) : RL P n gd (⟨d, .call ⟨.value (.func f), xs.toArray, ats⟩, ty, pos, aft, none⟩ :: rest) Q s := by
  have ht : ac.take xs.length = ac := by rw [List.take_of_length_le]; omega
  refine RL_callE (caps := []) (h.frameR harg hpl s.o) (fun r o' ⟨h1, h2⟩ => ⟨by rw [h2]; exact Nat.le_refl _, ltk_mono (Nat.zero_le _) _ (hpl r h1), by rw [h2]; exact hoc⟩) rfl hin hd (by omega) (by rw [ht]; simpa using hle) hoc ?_ ?_
  · rw [List.all_eq_true] at harg ⊢
    exact fun x hx => ltk_mono (Nat.zero_le _) _ (harg x hx)
  · rintro r o' ⟨h1, rfl⟩
    rw [ht]
    exact hK r h1
def wideC (cls : List (List Int)) : Bool := decide (cls.length + sumL cls > 6000)
theorem wide_spec {vars : Int} {cls : List (List Int)} (hcl : cls.length ≤ 140737488355328) (hll : ∀ l ∈ cls, l.length ≤ 140737488355328) : ACallsD Try.prog 16 [.agg [.i .i64 vars, .sl 1 (tups cls)]] (.b (wideC cls)) := by
  have hlk := sumL_take cls
  refine ACalls_of' (n := 29) (rs := [.tmp 2]) (show Try.prog.funcs[16]? = some Try.f16 by kernel_rfl) rfl rfl rfl (by simp) (by decide +kernel) ?_
  repeat (first | refine nav ?_ | refine bo ?_)
  (refine wr fun K R hK hR => ?_; simp (maxSteps := 10000000) only [go_sem]; (try go_ints); (repeat refine And.intro side ?_); (first | refine hK _ ?_ | refine hR _ _ ?_); clear hK hR K R)
  repeat (first | refine nav ?_ | refine bo ?_)
  (refine wr fun K R hK hR => ?_; simp (maxSteps := 10000000) only [go_sem]; (try go_ints); (repeat refine And.intro side ?_); (first | refine hK _ ?_ | refine hR _ _ ?_); clear hK hR K R)
  repeat (first | refine nav ?_ | refine bo ?_)
  (refine wr fun K R hK hR => ?_; simp (maxSteps := 10000000) only [go_sem]; (try go_ints); (repeat refine And.intro side ?_); (first | refine hK _ ?_ | refine hR _ _ ?_); clear hK hR K R)
  repeat (first | refine nav ?_ | refine bo ?_)
  refine W_for 8 27 [3, 4] (fun m t o => ∃ i : Nat, o = [Ob.cells 2 [[.i .i64 vars, .sl 1 (tups cls)]]] ∧ t 3 = .i .i64 ((cls.length + sumL (cls.take i) : Nat) : Int) ∧ t 4 = .i .i64 i ∧ m = cls.length - i ∧ i ≤ cls.length ∧ sumL (cls.take i) ≤ 140737488361328) cls.length ⟨0, rfl, by simp only [go_sem] <;> simp [sumL], by simp only [go_sem] <;> rfl, rfl, by omega, by simp [sumL]⟩ ?_
  rintro m t o ⟨i, rfl, h3, h4, rfl, hi, hsb⟩
  repeat (first | refine nav ?_ | refine bo ?_)
  (refine wr fun K R hK hR => ?_; simp (maxSteps := 10000000) only [go_sem, h3, h4]; (try go_ints); (try simp only [go_sem, h3, h4]); (repeat refine And.intro side ?_); (first | refine hK _ ?_ | refine hR _ _ ?_); clear hK hR K R)
  repeat (first | refine nav ?_ | refine bo ?_)
  refine W_cond (b := decide (i < cls.length) && decide (cls.length + sumL (cls.take i) ≤ 6000)) (by simp only [go_sem] <;> (rw [Bool.eq_iff_iff]; simp only [Bool.and_eq_true, decide_eq_true_eq]; omega)) (fun hb => ?_) (fun hb => ?_)
  · simp only [Bool.and_eq_true, decide_eq_true_eq] at hb
    obtain ⟨hb1, hb2⟩ := hb
    obtain ⟨l, hl⟩ : ∃ l, cls[i]? = some l := ⟨_, List.getElem?_eq_getElem hb1⟩
    have hsl := sumL_get hl
    have hlm := hll l (List.mem_of_getElem? hl)
    repeat (first | refine nav ?_ | refine bo ?_)
    (refine wr fun K R hK hR => ?_; simp (maxSteps := 10000000) only [go_sem, h3, h4, tups_get hl]; (try go_ints); (try simp only [go_sem, h3, h4, tups_get hl]); (repeat refine And.intro side ?_); (first | refine hK _ ?_ | refine hR _ _ ?_); clear hK hR K R)
    repeat (first | refine nav ?_ | refine bo ?_)
    (refine wr fun K R hK hR => ?_; simp (maxSteps := 10000000) only [go_sem, h4]; (try go_ints); (try simp only [go_sem, h4]); (repeat refine And.intro side ?_); (first | refine hK _ ?_ | refine hR _ _ ?_); clear hK hR K R)
    repeat (first | refine nav ?_ | refine bo ?_)
    refine forQ_normal (cls.length - (i + 1)) (by omega) ⟨i + 1, rfl, ?_, ?_, rfl, by omega, by omega⟩
    · simp only [go_sem]
      congr 1
      omega
    · simp only [go_sem] <;> simp
  · repeat (first | refine nav ?_ | refine bo ?_)
    (refine wr fun K R hK hR => ?_; simp (maxSteps := 10000000) only [go_sem, h3]; (try go_ints); (try simp only [go_sem, h3]); (repeat refine And.intro side ?_); (first | refine hK _ ?_ | refine hR _ _ ?_); clear hK hR K R)
    repeat (first | refine nav ?_ | refine bo ?_)
    refine endQ_data (by simp only [go_sem] <;> exact rfl) (Le.of_eq ?_) rfl
    congr 1
    simp only [wideC]
    have hle := hlk i
    rcases Nat.lt_or_ge i cls.length with q | q
    · have : ¬ (cls.length + sumL (cls.take i) ≤ 6000) := fun h => by simp [q, h] at hb
      rw [decide_eq_true (by omega), decide_eq_true (by omega)]
    · obtain rfl : i = cls.length := by omega
      rw [List.take_length]
      congr 1
      apply propext
      omega
theorem solveR_plain {vars : Nat} {cls : List (List Int)} (r : AV) (h : SolveR vars cls r) : r.ltk 0 = true := by
  rcases h with ⟨rfl, _⟩ | ⟨rfl, _⟩ | ⟨a, rfl, _⟩ <;> simp [AV.ltk, AV.ltks]
theorem modelsR_plain {vars : Nat} {cls : List (List Int)} (r : AV) (h : ModelsR vars cls r) : r.ltk 0 = true := by
  rcases h with ⟨rfl, _⟩ | ⟨rfl, _⟩ <;> simp [AV.ltk, AV.ltks]
theorem refM_plain {vars : Nat} {cls : List (List Int)} (r : AV) (h : RefM vars cls r) : r.ltk 0 = true := by
  obtain ⟨n, ok, rfl, _⟩ := h
  simp [AV.ltk, AV.ltks]
theorem pow_big {vars : Nat} (h : 200000 < 2 ^ vars) : 12 < vars := by
  rcases Nat.lt_or_ge 12 vars with q | q
  · exact q
  · have : 2 ^ vars ≤ 2 ^ 12 := Nat.pow_le_pow_right (by omega) q
    omega
theorem cnt_big {vars : Nat} {cls : List (List Int)} (h : 1099511627776 < cntM vars cls []) : 12 < vars := by
  have := cntP_le vars fun a => satC cls a && agr [] a
  refine pow_big (Nat.lt_of_lt_of_le ?_ this)
  have : 1099511627776 < cntP vars fun a => satC cls a && agr [] a := h
  omega
theorem cnt_sat {vars : Nat} {cls : List (List Int)} {a : List Bool} (h1 : a.length = vars) (h2 : satC cls a = true) : 0 < cntM vars cls [] :=
  (cntP_pos vars).2 ⟨a, h1, by rw [h2]; rfl⟩
theorem hardClauses_spec {vars : Int} {cls : List (List Int)} {a : List Bool} (hcl : cls.length ≤ 140737488355328) (hll : ∀ l ∈ cls, l.length ≤ 140737488355328) (ha : a.length ≤ 140737488355328) :
    ACallsD Try.prog 5 [.agg [.i .i64 vars, .sl 1 (tups cls)], .sl 1 (bools a)] (.b true) := by
  have hbl : (bools a).length = a.length := by simp [bools]
  have hbg : decide ((a.length : Int) > 30000) = decide (a.length > 30000) := by rw [decide_eq_decide]; omega
  refine ACalls_of' (n := 190) (rs := [.tmp 4]) (show Try.prog.funcs[5]? = some Try.f5 by kernel_rfl) rfl rfl rfl (by simp) (by decide +kernel) ?_
  repeat (first | refine nav ?_ | refine bo ?_)
  (refine wr fun K R hK hR => ?_; simp (maxSteps := 10000000) only [go_sem]; (try go_ints); (repeat refine And.intro side ?_); (first | refine hK _ ?_ | refine hR _ _ ?_); clear hK hR K R)
  repeat (first | refine nav ?_ | refine bo ?_)
  (refine wr fun K R hK hR => ?_; simp (maxSteps := 10000000) only [go_sem]; (try go_ints); (repeat refine And.intro side ?_); (first | refine hK _ ?_ | refine hR _ _ ?_); clear hK hR K R)
  refine RL_callF (wide_spec hcl hll) rfl rfl rfl (by first | (simp only [go_sem] <;> first | exact LeA.refl _ | exact Le.refl _) | exact LeA.refl _) rfl rfl ?_
  (refine rr fun K R hK hR => ?_; simp (maxSteps := 10000000) only [go_sem, hbl]; (try go_ints); (try simp only [go_sem, hbl]); (repeat refine And.intro side ?_); (first | refine hK _ ?_ | refine hR _ _ ?_); clear hK hR K R)
  repeat (first | refine nav ?_ | refine bo ?_)
  refine W_cond (b := wideC cls || decide (a.length > 30000)) (by simp only [go_sem, hbg]) (fun hb => ?_) (fun hb => ?_)
  · repeat (first | refine nav ?_ | refine bo ?_)
    (refine wr fun K R hK hR => ?_; simp (maxSteps := 10000000) only [go_sem]; (try go_ints); (repeat refine And.intro side ?_); (first | refine hK _ ?_ | refine hR _ _ ?_); clear hK hR K R)
    refine RL_callF (awake_spec) rfl rfl rfl (by first | (simp only [go_sem] <;> first | exact LeA.refl _ | exact Le.refl _) | exact LeA.refl _) rfl rfl ?_
    (refine rr fun K R hK hR => ?_; simp (maxSteps := 10000000) only [go_sem]; (try go_ints); (repeat refine And.intro side ?_); (first | refine hK _ ?_ | refine hR _ _ ?_); clear hK hR K R)
    repeat (first | refine nav ?_ | refine bo ?_)
    refine endQ_data (by simp only [go_sem] <;> exact rfl) (Le.of_eq ?_) rfl
    rfl
  · simp only [Bool.or_eq_false_iff, decide_eq_false_iff_not, wideC] at hb
    obtain ⟨hw, hal⟩ := hb
    have hn : cls.length ≤ 10000 := by omega
    have hs : sumL cls ≤ 10000 := by omega
    have hal : a.length ≤ 30000 := by omega
    have hH := holdsC_spec (vars := vars) hn hs hal
    cases hv : validC vars cls with
    | false =>
      have hres : holdsA vars cls a = .tup [.b false, .i .i64 1] := by rw [holdsA, if_pos hv]
      rw [hres] at hH
      repeat (first | refine nav ?_ | refine bo ?_)
      (refine wr fun K R hK hR => ?_; simp (maxSteps := 10000000) only [go_sem]; (try go_ints); (repeat refine And.intro side ?_); (first | refine hK _ ?_ | refine hR _ _ ?_); clear hK hR K R)
      refine RL_callF (hH) rfl rfl rfl (by first | (simp only [go_sem] <;> first | exact LeA.refl _ | exact Le.refl _) | exact LeA.refl _) rfl rfl ?_
      (refine rr fun K R hK hR => ?_; simp (maxSteps := 10000000) only [go_sem]; (try go_ints); (repeat refine And.intro side ?_); (first | refine hK _ ?_ | refine hR _ _ ?_); clear hK hR K R)
      repeat (first | refine nav ?_ | refine bo ?_)
      (refine wr fun K R hK hR => ?_; simp (maxSteps := 10000000) only [go_sem]; (try go_ints); (repeat refine And.intro side ?_); (first | refine hK _ ?_ | refine hR _ _ ?_); clear hK hR K R)
      refine RL_callF (refValid_spec hn hs) rfl rfl rfl (by first | (simp only [go_sem] <;> first | exact LeA.refl _ | exact Le.refl _) | exact LeA.refl _) rfl rfl ?_
      (refine rr fun K R hK hR => ?_; simp (maxSteps := 10000000) only [go_sem, hv]; (try go_ints); (try simp only [go_sem, hv]); (repeat refine And.intro side ?_); (first | refine hK _ ?_ | refine hR _ _ ?_); clear hK hR K R)
      repeat (first | refine nav ?_ | refine bo ?_)
      refine W_cond (b := true) (by simp only [go_sem] <;> rfl) (fun _ => ?_) (fun hb => by cases hb)
      repeat (first | refine nav ?_ | refine bo ?_)
      (refine wr fun K R hK hR => ?_; simp (maxSteps := 10000000) only [go_sem]; (try go_ints); (repeat refine And.intro side ?_); (first | refine hK _ ?_ | refine hR _ _ ?_); clear hK hR K R)
      refine RL_callF (solve0_spec hn hs hv) rfl rfl rfl (by first | (simp only [go_sem] <;> first | exact LeA.refl _ | exact Le.refl _) | exact LeA.refl _) rfl rfl ?_
      (refine rr fun K R hK hR => ?_; simp (maxSteps := 10000000) only [go_sem]; (try go_ints); (repeat refine And.intro side ?_); (first | refine hK _ ?_ | refine hR _ _ ?_); clear hK hR K R)
      repeat (first | refine nav ?_ | refine bo ?_)
      (refine wr fun K R hK hR => ?_; simp (maxSteps := 10000000) only [go_sem]; (try go_ints); (repeat refine And.intro side ?_); (first | refine hK _ ?_ | refine hR _ _ ?_); clear hK hR K R)
      refine RL_callF (models0_spec hn hs hv) rfl rfl rfl (by first | (simp only [go_sem] <;> first | exact LeA.refl _ | exact Le.refl _) | exact LeA.refl _) rfl rfl ?_
      (refine rr fun K R hK hR => ?_; simp (maxSteps := 10000000) only [go_sem]; (try go_ints); (repeat refine And.intro side ?_); (first | refine hK _ ?_ | refine hR _ _ ?_); clear hK hR K R)
      repeat (first | refine nav ?_ | refine bo ?_)
      (refine wr fun K R hK hR => ?_; simp (maxSteps := 10000000) only [go_sem]; (try go_ints); (repeat refine And.intro side ?_); (first | refine hK _ ?_ | refine hR _ _ ?_); clear hK hR K R)
      refine RL_callF (validC_spec hn hs) rfl rfl rfl (by first | (simp only [go_sem] <;> first | exact LeA.refl _ | exact Le.refl _) | exact LeA.refl _) rfl rfl ?_
      (refine rr fun K R hK hR => ?_; simp (maxSteps := 10000000) only [go_sem, hv]; (try go_ints); (try simp only [go_sem, hv]); (repeat refine And.intro side ?_); (first | refine hK _ ?_ | refine hR _ _ ?_); clear hK hR K R)
      refine RL_callDg rfl (by simp only [go_sem] <;> exact rfl) (fun e => awake_spec) rfl rfl rfl (fun e => by (try simp only [go_sem] at e); simp only [go_sem, e] <;> (try simp only [go_sem]) <;> first | exact LeA.refl _ | exact Le.refl _) rfl rfl ?_
      (refine rr fun K R hK hR => ?_; simp (maxSteps := 10000000) only [go_sem]; (try go_ints); (repeat refine And.intro side ?_); (first | refine hK _ ?_ | refine hR _ _ ?_); clear hK hR K R)
      repeat (first | refine nav ?_ | refine bo ?_)
      refine endQ_data (by simp only [go_sem] <;> exact rfl) (Le.of_eq ?_) rfl
      rfl
    | true =>
      obtain ⟨v, rfl⟩ : ∃ v : Nat, vars = v := ⟨vars.toNat, by simp only [validC, Bool.and_eq_true, decide_eq_true_eq] at hv; omega⟩
      obtain ⟨hv1, hlit⟩ := validC_lit hv
      obtain ⟨is, e, hres, hr1, hr2⟩ : ∃ is e, holdsA v cls a = .tup [.b is, .i .i64 e] ∧ (a.length ≠ v → is = false ∧ e = 2) ∧ (a.length = v → is = satC cls a ∧ e = 0) := by
        by_cases h : (a.length : Int) = v
        · exact ⟨satC cls a, 0, by rw [holdsA, if_neg (by rw [hv]; simp), if_neg (by simp [h])], fun h2 => by omega, fun _ => ⟨rfl, rfl⟩⟩
        · exact ⟨false, 2, by rw [holdsA, if_neg (by rw [hv]; simp), if_pos h], fun _ => ⟨rfl, rfl⟩, fun h2 => by omega⟩
      rw [hres] at hH
      clear hres
      repeat (first | refine nav ?_ | refine bo ?_)
      (refine wr fun K R hK hR => ?_; simp (maxSteps := 10000000) only [go_sem]; (try go_ints); (repeat refine And.intro side ?_); (first | refine hK _ ?_ | refine hR _ _ ?_); clear hK hR K R)
      refine RL_callF (hH) rfl rfl rfl (by first | (simp only [go_sem] <;> first | exact LeA.refl _ | exact Le.refl _) | exact LeA.refl _) rfl rfl ?_
      (refine rr fun K R hK hR => ?_; simp (maxSteps := 10000000) only [go_sem]; (try go_ints); (repeat refine And.intro side ?_); (first | refine hK _ ?_ | refine hR _ _ ?_); clear hK hR K R)
      repeat (first | refine nav ?_ | refine bo ?_)
      (refine wr fun K R hK hR => ?_; simp (maxSteps := 10000000) only [go_sem]; (try go_ints); (repeat refine And.intro side ?_); (first | refine hK _ ?_ | refine hR _ _ ?_); clear hK hR K R)
      refine RL_callF (refValid_spec hn hs) rfl rfl rfl (by first | (simp only [go_sem] <;> first | exact LeA.refl _ | exact Le.refl _) | exact LeA.refl _) rfl rfl ?_
      (refine rr fun K R hK hR => ?_; simp (maxSteps := 10000000) only [go_sem, hv]; (try go_ints); (try simp only [go_sem, hv]); (repeat refine And.intro side ?_); (first | refine hK _ ?_ | refine hR _ _ ?_); clear hK hR K R)
      repeat (first | refine nav ?_ | refine bo ?_)
      refine W_cond (b := false) (by simp only [go_sem] <;> rfl) (fun hb => by cases hb) (fun _ => ?_)
      repeat (first | refine nav ?_ | refine bo ?_)
      (refine wr fun K R hK hR => ?_; simp (maxSteps := 10000000) only [go_sem]; (try go_ints); (repeat refine And.intro side ?_); (first | refine hK _ ?_ | refine hR _ _ ?_); clear hK hR K R)
      refine RL_callF (validC_spec hn hs) rfl rfl rfl (by first | (simp only [go_sem] <;> first | exact LeA.refl _ | exact Le.refl _) | exact LeA.refl _) rfl rfl ?_
      (refine rr fun K R hK hR => ?_; simp (maxSteps := 10000000) only [go_sem, hv]; (try go_ints); (try simp only [go_sem, hv]); (repeat refine And.intro side ?_); (first | refine hK _ ?_ | refine hR _ _ ?_); clear hK hR K R)
      repeat (first | refine nav ?_ | refine bo ?_)
      refine W_cond (b := false) (by simp only [go_sem] <;> rfl) (fun hb => by cases hb) (fun _ => ?_)
      repeat (first | refine nav ?_ | refine bo ?_)
      (refine wr fun K R hK hR => ?_; simp (maxSteps := 10000000) only [go_sem, hbl]; (try go_ints); (try simp only [go_sem, hbl]); (repeat refine And.intro side ?_); (first | refine hK _ ?_ | refine hR _ _ ?_); clear hK hR K R)
      repeat (first | refine nav ?_ | refine bo ?_)
      refine W_joinS 86 101 [] (fun t o => o = [Ob.cells 2 [[.i .i64 v, .sl 1 (tups cls)]]]) ?_ ?_
      · refine W_cond (b := !((a.length : Int) == v)) (by simp only [go_sem] <;> rfl) (fun hb2 => ?_) (fun hb2 => ?_)
        · have hb2 : ¬ ((a.length : Int) = v) := by simpa using hb2
          obtain ⟨rfl, rfl⟩ := hr1 (by omega)
          repeat (first | refine nav ?_ | refine bo ?_)
          (refine wr fun K R hK hR => ?_; simp (maxSteps := 10000000) only [go_sem]; (try go_ints); (repeat refine And.intro side ?_); (first | refine hK _ ?_ | refine hR _ _ ?_); clear hK hR K R)
          repeat (first | refine nav ?_ | refine bo ?_)
          refine W_cond (b := false) (by simp only [go_sem] <;> rfl) (fun hb => by cases hb) (fun _ => ?_)
          repeat (first | refine nav ?_ | refine bo ?_)
          exact ⟨_, rfl, rfl⟩
        · have hb2 : (a.length : Int) = v := by simpa using hb2
          have hb2 : a.length = v := by omega
          obtain ⟨rfl, rfl⟩ := hr2 hb2
          have hRH := refHolds_spec (a := a) hn hs (by omega) (by rw [hb2]; exact hlit)
          generalize satC cls a = sat at hRH
          repeat (first | refine nav ?_ | refine bo ?_)
          (refine wr fun K R hK hR => ?_; simp (maxSteps := 10000000) only [go_sem]; (try go_ints); (repeat refine And.intro side ?_); (first | refine hK _ ?_ | refine hR _ _ ?_); clear hK hR K R)
          refine RL_callDg rfl (by simp only [go_sem] <;> exact rfl) (fun e => hRH) rfl rfl rfl (fun e => by (try simp only [go_sem] at e); simp only [go_sem, e] <;> (try simp only [go_sem]) <;> first | exact LeA.refl _ | exact Le.refl _) rfl rfl ?_
          (refine rr fun K R hK hR => ?_; simp (maxSteps := 10000000) only [go_sem]; (try go_ints); (repeat refine And.intro side ?_); (first | refine hK _ ?_ | refine hR _ _ ?_); clear hK hR K R)
          repeat (first | refine nav ?_ | refine bo ?_)
          refine W_cond (b := false) (by simp only [go_sem] <;> simp) (fun hb => by cases hb) (fun _ => ?_)
          repeat (first | refine nav ?_ | refine bo ?_)
          exact ⟨_, rfl, rfl⟩
      rintro t1 o1 ho1
      rw [ho1]
      clear ho1 o1 hr1 hr2 hH
      repeat (first | refine nav ?_ | refine bo ?_)
      (refine wr fun K R hK hR => ?_; simp (maxSteps := 10000000) only [go_sem]; (try go_ints); (repeat refine And.intro side ?_); (first | refine hK _ ?_ | refine hR _ _ ?_); clear hK hR K R)
      repeat (first | refine nav ?_ | refine bo ?_)
      refine W_cond (b := decide (v > 60)) (by simp only [go_sem] <;> (try (rw [decide_eq_decide]; omega))) (fun hb => ?_) (fun hb => ?_)
      · repeat (first | refine nav ?_ | refine bo ?_)
        (refine wr fun K R hK hR => ?_; simp (maxSteps := 10000000) only [go_sem]; (try go_ints); (repeat refine And.intro side ?_); (first | refine hK _ ?_ | refine hR _ _ ?_); clear hK hR K R)
        refine RL_callF (awake_spec) rfl rfl rfl (by first | (simp only [go_sem] <;> first | exact LeA.refl _ | exact Le.refl _) | exact LeA.refl _) rfl rfl ?_
        (refine rr fun K R hK hR => ?_; simp (maxSteps := 10000000) only [go_sem]; (try go_ints); (repeat refine And.intro side ?_); (first | refine hK _ ?_ | refine hR _ _ ?_); clear hK hR K R)
        repeat (first | refine nav ?_ | refine bo ?_)
        refine endQ_data (by simp only [go_sem] <;> exact rfl) (Le.of_eq ?_) rfl
        rfl
      · have hb : ¬ v > 60 := by simpa using hb
        repeat (first | refine nav ?_ | refine bo ?_)
        (refine wr fun K R hK hR => ?_; simp (maxSteps := 10000000) only [go_sem]; (try go_ints); (repeat refine And.intro side ?_); (first | refine hK _ ?_ | refine hR _ _ ?_); clear hK hR K R)
        refine RL_callR (refModels_spec (vars := v) (by omega) hn hs hlit) refM_plain rfl rfl rfl (by simp only [go_sem] <;> exact LeA.refl _) rfl rfl ?_
        rintro r ⟨n, ok, rfl, hnM⟩
        (refine rr fun K R hK hR => ?_; simp (maxSteps := 10000000) only [go_sem]; (try go_ints); (repeat refine And.intro side ?_); (first | refine hK _ ?_ | refine hR _ _ ?_); clear hK hR K R)
        repeat (first | refine nav ?_ | refine bo ?_)
        (refine wr fun K R hK hR => ?_; simp (maxSteps := 10000000) only [go_sem]; (try go_ints); (repeat refine And.intro side ?_); (first | refine hK _ ?_ | refine hR _ _ ?_); clear hK hR K R)
        repeat (first | refine nav ?_ | refine bo ?_)
        refine W_cond (b := !ok) (by simp only [go_sem]) (fun hb2 => ?_) (fun hb2 => ?_)
        · repeat (first | refine nav ?_ | refine bo ?_)
          (refine wr fun K R hK hR => ?_; simp (maxSteps := 10000000) only [go_sem]; (try go_ints); (repeat refine And.intro side ?_); (first | refine hK _ ?_ | refine hR _ _ ?_); clear hK hR K R)
          refine RL_callF (awake_spec) rfl rfl rfl (by first | (simp only [go_sem] <;> first | exact LeA.refl _ | exact Le.refl _) | exact LeA.refl _) rfl rfl ?_
          (refine rr fun K R hK hR => ?_; simp (maxSteps := 10000000) only [go_sem]; (try go_ints); (repeat refine And.intro side ?_); (first | refine hK _ ?_ | refine hR _ _ ?_); clear hK hR K R)
          repeat (first | refine nav ?_ | refine bo ?_)
          refine endQ_data (by simp only [go_sem] <;> exact rfl) (Le.of_eq ?_) rfl
          rfl
        · have hnM := hnM (by simpa using hb2)
          repeat (first | refine nav ?_ | refine bo ?_)
          (refine wr fun K R hK hR => ?_; simp (maxSteps := 10000000) only [go_sem]; (try go_ints); (repeat refine And.intro side ?_); (first | refine hK _ ?_ | refine hR _ _ ?_); clear hK hR K R)
          refine RL_callR (solve_spec hn hs hv) solveR_plain rfl rfl rfl (by simp only [go_sem] <;> exact LeA.refl _) rfl rfl ?_
          intro r hsR
          have hsR2 : (r = .tup [.sl 1 [], .i .i64 5] ∧ 12 < v) ∨ (r = .tup [.sl 1 [], .i .i64 6] ∧ n = 0) ∨ ∃ a', r = .tup [.sl 1 (bools a'), .i .i64 0] ∧ a'.length = v ∧ satC cls a' = true ∧ n ≠ 0 := by
            rcases hsR with ⟨h1, h2⟩ | ⟨h1, h2⟩ | ⟨a', h1, h2, h3⟩
            · exact .inl ⟨h1, pow_big h2⟩
            · exact .inr (.inl ⟨h1, by omega⟩)
            · have := cnt_sat h2 h3
              exact .inr (.inr ⟨a', h1, h2, h3, by omega⟩)
          clear hsR
          have hMo : ∀ r, ModelsR v cls r → (r = .tup [.i .i64 0, .i .i64 5] ∧ 12 < v) ∨ (r = .tup [.i .i64 n, .i .i64 0]) := by
            intro r h
            rcases h with ⟨h1, h2 | h2⟩ | ⟨h1, h2⟩
            · exact .inl ⟨h1, pow_big h2⟩
            · exact .inl ⟨h1, cnt_big h2⟩
            · exact .inr (by rw [h1, hnM])
          obtain ⟨sv, se, hse, hs1, hs2, hs3⟩ : ∃ sv se, r = .tup [.sl 1 sv, .i .i64 se] ∧ (se = 5 ∧ 12 < v ∨ se = 6 ∧ sv = [] ∧ n = 0 ∨ se = 0 ∧ n ≠ 0) ∧ (se = 0 → ∃ a', sv = bools a' ∧ a'.length = v ∧ satC cls a' = true) ∧ True := by
            rcases hsR2 with ⟨h1, h2⟩ | ⟨h1, h2⟩ | ⟨a', h1, h2, h3, h4⟩
            · exact ⟨_, _, h1, .inl ⟨rfl, h2⟩, fun h => (by cases h), trivial⟩
            · exact ⟨_, _, h1, .inr (.inl ⟨rfl, rfl, h2⟩), fun h => (by cases h), trivial⟩
            · exact ⟨_, _, h1, .inr (.inr ⟨rfl, h4⟩), fun _ => ⟨a', rfl, h2, h3⟩, trivial⟩
          subst hse
          clear hsR2 hs3
          (refine rr fun K R hK hR => ?_; simp (maxSteps := 10000000) only [go_sem]; (try go_ints); (repeat refine And.intro side ?_); (first | refine hK _ ?_ | refine hR _ _ ?_); clear hK hR K R)
          repeat (first | refine nav ?_ | refine bo ?_)
          (refine wr fun K R hK hR => ?_; simp (maxSteps := 10000000) only [go_sem]; (try go_ints); (repeat refine And.intro side ?_); (first | refine hK _ ?_ | refine hR _ _ ?_); clear hK hR K R)
          refine RL_callR (models_spec hn hs hv) modelsR_plain rfl rfl rfl (by simp only [go_sem] <;> exact LeA.refl _) rfl rfl ?_
          intro r hmR
          obtain ⟨mv, me, hme, hm1⟩ : ∃ mv me : Int, r = .tup [.i .i64 mv, .i .i64 me] ∧ (me = 5 ∧ 12 < v ∨ me = 0 ∧ mv = n) := by
            rcases hMo r hmR with ⟨h1, h2⟩ | h1
            · exact ⟨_, _, h1, .inl ⟨rfl, h2⟩⟩
            · exact ⟨_, _, h1, .inr ⟨rfl, rfl⟩⟩
          subst hme
          clear hmR hMo
          (refine rr fun K R hK hR => ?_; simp (maxSteps := 10000000) only [go_sem]; (try go_ints); (repeat refine And.intro side ?_); (first | refine hK _ ?_ | refine hR _ _ ?_); clear hK hR K R)
          repeat (first | refine nav ?_ | refine bo ?_)
          (refine wr fun K R hK hR => ?_; simp (maxSteps := 10000000) only [go_sem]; (try go_ints); (repeat refine And.intro side ?_); (first | refine hK _ ?_ | refine hR _ _ ?_); clear hK hR K R)
          repeat (first | refine nav ?_ | refine bo ?_)
          refine W_cond (b := (se == 5 && decide ((v : Int) > 12)) || (me == 5 && decide ((v : Int) > 12))) (by simp only [go_sem]) (fun hb3 => ?_) (fun hb3 => ?_)
          · repeat (first | refine nav ?_ | refine bo ?_)
            (refine wr fun K R hK hR => ?_; simp (maxSteps := 10000000) only [go_sem]; (try go_ints); (repeat refine And.intro side ?_); (first | refine hK _ ?_ | refine hR _ _ ?_); clear hK hR K R)
            refine RL_callF (awake_spec) rfl rfl rfl (by first | (simp only [go_sem] <;> first | exact LeA.refl _ | exact Le.refl _) | exact LeA.refl _) rfl rfl ?_
            (refine rr fun K R hK hR => ?_; simp (maxSteps := 10000000) only [go_sem]; (try go_ints); (repeat refine And.intro side ?_); (first | refine hK _ ?_ | refine hR _ _ ?_); clear hK hR K R)
            repeat (first | refine nav ?_ | refine bo ?_)
            refine endQ_data (by simp only [go_sem] <;> exact rfl) (Le.of_eq ?_) rfl
            rfl
          · simp only [Bool.or_eq_false_iff, Bool.and_eq_false_iff, beq_eq_false_iff_ne, decide_eq_false_iff_not] at hb3
            obtain ⟨rfl, rfl⟩ : me = 0 ∧ n = mv := by omega
            have hsc : (se = 6 ∧ sv = [] ∧ n = 0) ∨ (se = 0 ∧ n ≠ 0) := by
              rcases hs1 with h | h | h
              · omega
              · exact .inl h
              · exact .inr h
            rcases hsc with ⟨rfl, rfl, rfl⟩ | ⟨rfl, hn0⟩
            · repeat (first | refine nav ?_ | refine bo ?_)
              (refine wr fun K R hK hR => ?_; simp (maxSteps := 10000000) only [go_sem]; (try go_ints); (repeat refine And.intro side ?_); (first | refine hK _ ?_ | refine hR _ _ ?_); clear hK hR K R)
              repeat (first | refine nav ?_ | refine bo ?_)
              refine W_cond (b := true) (by simp only [go_sem] <;> rfl) (fun _ => ?_) (fun hb => by cases hb)
              repeat (first | refine nav ?_ | refine bo ?_)
              (refine wr fun K R hK hR => ?_; simp (maxSteps := 10000000) only [go_sem]; (try go_ints); (repeat refine And.intro side ?_); (first | refine hK _ ?_ | refine hR _ _ ?_); clear hK hR K R)
              refine RL_callDg rfl (by simp only [go_sem] <;> exact rfl) (fun e => awake_spec) rfl rfl rfl (fun e => by (try simp only [go_sem] at e); simp only [go_sem, e] <;> (try simp only [go_sem]) <;> first | exact LeA.refl _ | exact Le.refl _) rfl rfl ?_
              (refine rr fun K R hK hR => ?_; simp (maxSteps := 10000000) only [go_sem]; (try go_ints); (repeat refine And.intro side ?_); (first | refine hK _ ?_ | refine hR _ _ ?_); clear hK hR K R)
              repeat (first | refine nav ?_ | refine bo ?_)
              refine endQ_data (by simp only [go_sem] <;> exact rfl) (Le.of_eq ?_) rfl
              rfl
            · obtain ⟨a', rfl, h2, h3⟩ := hs2 rfl
              have hbl' : (bools a').length = v := by simp [bools, h2]
              have hRH := refHolds_spec (a := a') hn hs (by omega) (by rw [h2]; exact hlit)
              rw [h3] at hRH
              have hn1 : (n == 0) = false := by simpa using hn0
              repeat (first | refine nav ?_ | refine bo ?_)
              (refine wr fun K R hK hR => ?_; simp (maxSteps := 10000000) only [go_sem, hn1]; (try go_ints); (try simp only [go_sem, hn1]); (repeat refine And.intro side ?_); (first | refine hK _ ?_ | refine hR _ _ ?_); clear hK hR K R)
              repeat (first | refine nav ?_ | refine bo ?_)
              refine W_cond (b := false) (by simp only [go_sem, hn1]) (fun hb => by cases hb) (fun _ => ?_)
              repeat (first | refine nav ?_ | refine bo ?_)
              (refine wr fun K R hK hR => ?_; simp (maxSteps := 10000000) only [go_sem, hbl']; (try go_ints); (try simp only [go_sem, hbl']); (repeat refine And.intro side ?_); (first | refine hK _ ?_ | refine hR _ _ ?_); clear hK hR K R)
              refine RL_callDg rfl (by simp only [go_sem] <;> exact rfl) (fun e => hRH) rfl rfl rfl (fun e => by (try simp only [go_sem] at e); simp only [go_sem, e] <;> (try simp only [go_sem]) <;> first | exact LeA.refl _ | exact Le.refl _) rfl rfl ?_
              (refine rr fun K R hK hR => ?_; simp (maxSteps := 10000000) only [go_sem]; (try go_ints); (repeat refine And.intro side ?_); (first | refine hK _ ?_ | refine hR _ _ ?_); clear hK hR K R)
              refine RL_callDg rfl (by simp only [go_sem] <;> exact rfl) (fun e => awake_spec) rfl rfl rfl (fun e => by (try simp only [go_sem] at e); simp only [go_sem, e] <;> (try simp only [go_sem]) <;> first | exact LeA.refl _ | exact Le.refl _) rfl rfl ?_
              (refine rr fun K R hK hR => ?_; simp (maxSteps := 10000000) only [go_sem]; (try go_ints); (repeat refine And.intro side ?_); (first | refine hK _ ?_ | refine hR _ _ ?_); clear hK hR K R)
              repeat (first | refine nav ?_ | refine bo ?_)
              refine endQ_data (by simp only [go_sem] <;> exact rfl) (Le.of_eq ?_) rfl
              simp
end Go.AW
/-
Contracts: the games' small functions.
-/
namespace Go.AW
open Go Go.Proofs TyTry Go.IntWalk
set_option linter.unusedSimpArgs false
set_option linter.unusedVariables false
set_option maxRecDepth 10000

theorem edges_spec : ACallsD Try.prog 35 [] (.agg [.s ⟨#[69]⟩, .i .i64 2]) := by
  refine ACalls_of' (n := 2) (rs := [.cell 0 68]) (show Try.prog.funcs[35]? = some Try.f35 by kernel_rfl) rfl rfl rfl (by simp) (by decide +kernel) ?_
  repeat (first | refine nav ?_ | refine bo ?_)
  (refine wr fun K R hK hR => ?_; simp (maxSteps := 10000000) only [go_sem]; (try go_ints); (repeat refine And.intro side ?_); (first | refine hK _ ?_ | refine hR _ _ ?_); clear hK hR K R)
  repeat (first | refine nav ?_ | refine bo ?_)
  (refine wr fun K R hK hR => ?_; simp (maxSteps := 10000000) only [go_sem]; (try go_ints); (repeat refine And.intro side ?_); (first | refine hK _ ?_ | refine hR _ _ ?_); clear hK hR K R)
  repeat (first | refine nav ?_ | refine bo ?_)
  refine endQ_data (by simp only [go_sem] <;> exact rfl) (Le.of_eq ?_) rfl
  rfl
theorem universal_spec : ACallsD Try.prog 50 [] (.agg [.s ⟨#[65]⟩, .i .i64 1]) := by
  refine ACalls_of' (n := 2) (rs := [.cell 0 68]) (show Try.prog.funcs[50]? = some Try.f50 by kernel_rfl) rfl rfl rfl (by simp) (by decide +kernel) ?_
  repeat (first | refine nav ?_ | refine bo ?_)
  (refine wr fun K R hK hR => ?_; simp (maxSteps := 10000000) only [go_sem]; (try go_ints); (repeat refine And.intro side ?_); (first | refine hK _ ?_ | refine hR _ _ ?_); clear hK hR K R)
  repeat (first | refine nav ?_ | refine bo ?_)
  (refine wr fun K R hK hR => ?_; simp (maxSteps := 10000000) only [go_sem]; (try go_ints); (repeat refine And.intro side ?_); (first | refine hK _ ?_ | refine hR _ _ ?_); clear hK hR K R)
  repeat (first | refine nav ?_ | refine bo ?_)
  refine endQ_data (by simp only [go_sem] <;> exact rfl) (Le.of_eq ?_) rfl
  rfl
theorem always_spec {oc : List Ob} (ho : okO oc = true) (x y : Int) : ACallsQ Try.prog 54 [.i .i64 x, .i .i64 y] oc (.b true) := by
  refine ACalls_of' (n := 5) (rs := [.tmp 4]) (show Try.prog.funcs[54]? = some Try.f54 by kernel_rfl) rfl rfl rfl (by simp) (by decide +kernel) ?_
  repeat (first | refine nav ?_ | refine bo ?_)
  (refine wr fun K R hK hR => ?_; simp (maxSteps := 10000000) only [go_sem]; (try go_ints); (repeat refine And.intro side ?_); (first | refine hK _ ?_ | refine hR _ _ ?_); clear hK hR K R)
  repeat (first | refine nav ?_ | refine bo ?_)
  (refine wr fun K R hK hR => ?_; simp (maxSteps := 10000000) only [go_sem]; (try go_ints); (repeat refine And.intro side ?_); (first | refine hK _ ?_ | refine hR _ _ ?_); clear hK hR K R)
  repeat (first | refine nav ?_ | refine bo ?_)
  refine endQ_quiet0 (by simp only [go_sem] <;> exact rfl) (Le.of_eq ?_) (by assumption) rfl
  rfl
theorem wins1_spec {oc : List Ob} (ho : okO oc = true) {i : Nat} {s : StrD} (hi : oc[i]? = some (.cells 2 [[.i .i64 s.size, .sl 3 (rels s.rels)]])) (x : Int) :
    ACallsQ Try.prog 51 [.i .i64 x, .ptr i 0 0] oc (.b (decide (x < -1) || decide (x ≥ s.size))) := by
  refine ACalls_of' (n := 12) (rs := [.tmp 3]) (show Try.prog.funcs[51]? = some Try.f51 by kernel_rfl) rfl rfl rfl (by simp) (by decide +kernel) ?_
  repeat (first | refine nav ?_ | refine bo ?_)
  (refine wr fun K R hK hR => ?_; simp (maxSteps := 10000000) only [go_sem]; (try go_ints); (repeat refine And.intro side ?_); (first | refine hK _ ?_ | refine hR _ _ ?_); clear hK hR K R)
  repeat (first | refine nav ?_ | refine bo ?_)
  (refine wr fun K R hK hR => ?_; simp (maxSteps := 10000000) only [go_sem, hi]; (try go_ints); (try simp only [go_sem, hi]); (repeat refine And.intro side ?_); (first | refine hK _ ?_ | refine hR _ _ ?_); clear hK hR K R)
  repeat (first | refine nav ?_ | refine bo ?_)
  refine endQ_quiet0 (by simp only [go_sem] <;> exact rfl) (Le.of_eq ?_) (by assumption) rfl
  rfl
theorem wins2_spec {oc : List Ob} (ho : okO oc = true) {i : Nat} {l : List Int} (hi : oc[i]? = some (.cells 1 [[.sl 1 (ints l)]])) (x : Nat) (y : Int) {v : Int} (hv : l[x]? = some v) (hl : l.length ≤ 1099511627776) :
    ACallsQ Try.prog 53 [.i .i64 x, .i .i64 y, .ptr i 0 0] oc (.b (v == y)) := by
  have hlt := (List.getElem?_eq_some_iff.1 hv).1
  refine ACalls_of' (n := 12) (rs := [.tmp 5]) (show Try.prog.funcs[53]? = some Try.f53 by kernel_rfl) rfl rfl rfl (by simp) (by decide +kernel) ?_
  repeat (first | refine nav ?_ | refine bo ?_)
  (refine wr fun K R hK hR => ?_; simp (maxSteps := 10000000) only [go_sem]; (try go_ints); (repeat refine And.intro side ?_); (first | refine hK _ ?_ | refine hR _ _ ?_); clear hK hR K R)
  repeat (first | refine nav ?_ | refine bo ?_)
  (refine wr fun K R hK hR => ?_; simp (maxSteps := 10000000) only [go_sem, hi, ints_get hv]; (try go_ints); (try simp only [go_sem, hi, ints_get hv]); (repeat refine And.intro side ?_); (first | refine hK _ ?_ | refine hR _ _ ?_); clear hK hR K R)
  repeat (first | refine nav ?_ | refine bo ?_)
  refine endQ_quiet0 (by simp only [go_sem] <;> exact rfl) (Le.of_eq ?_) (by assumption) rfl
  rfl
theorem won2_spec {oc : List Ob} (ho : okO oc = true) {i : Nat} {l : List Bool} {a : AV} (ha : a = .own 1 (bools l) ∨ a = .sl 1 (bools l)) (hi : oc[i]? = some (.cells 1 [[a]])) (x : Nat) {v : Bool} (hv : l[x]? = some v) (hl : l.length ≤ 1099511627776) :
    ACallsQ Try.prog 69 [.i .i64 x, .ptr i 0 0] oc (.b (!v)) := by
  have hlt := (List.getElem?_eq_some_iff.1 hv).1
  have had : a.dat = .sl 1 (bools l) := by rcases ha with rfl | rfl <;> rfl
  refine ACalls_of' (n := 9) (rs := [.tmp 3]) (show Try.prog.funcs[69]? = some Try.f69 by kernel_rfl) rfl rfl rfl (by simp) (by decide +kernel) ?_
  repeat (first | refine nav ?_ | refine bo ?_)
  (refine wr fun K R hK hR => ?_; simp (maxSteps := 10000000) only [go_sem]; (try go_ints); (repeat refine And.intro side ?_); (first | refine hK _ ?_ | refine hR _ _ ?_); clear hK hR K R)
  repeat (first | refine nav ?_ | refine bo ?_)
  rcases ha with rfl | rfl
  · (refine wr fun K R hK hR => ?_; simp (maxSteps := 10000000) only [go_sem, hi, bools_get hv]; (try go_ints); (try simp only [go_sem, hi, bools_get hv]); (repeat refine And.intro side ?_); (first | refine hK _ ?_ | refine hR _ _ ?_); clear hK hR K R)
    repeat (first | refine nav ?_ | refine bo ?_)
    refine endQ_quiet0 (by simp only [go_sem] <;> exact rfl) (Le.of_eq ?_) (by assumption) rfl
    rfl
  · (refine wr fun K R hK hR => ?_; simp (maxSteps := 10000000) only [go_sem, hi, bools_get hv]; (try go_ints); (try simp only [go_sem, hi, bools_get hv]); (repeat refine And.intro side ?_); (first | refine hK _ ?_ | refine hR _ _ ?_); clear hK hR K R)
    repeat (first | refine nav ?_ | refine bo ?_)
    refine endQ_quiet0 (by simp only [go_sem] <;> exact rfl) (Le.of_eq ?_) (by assumption) rfl
    rfl
theorem won1_spec {oc : List Ob} (ho : okO oc = true) {i j k : Nat} {l : List Bool} {f : FuncId} {caps : List AV} (hi : oc[i]? = some (.cells 1 [[.own 1 (bools l)]])) (hj : oc[j]? = some (.cells 1 [[.fn f caps]])) (hc : caps.all (AV.ltk oc.length) = true) (hcd : caps.map AV.dat = caps)
    (x y : Nat) (hk : oc[k]? = some (.cells 1 [[.i .i64 x]])) {v b : Bool} (hv : l[y]? = some v) (hl : l.length ≤ 1099511627776) (hf : ACallsQ Try.prog f (.i .i64 x :: .i .i64 y :: caps) oc (.b b)) :
    ACallsQ Try.prog 68 [.i .i64 y, .ptr i 0 0, .ptr j 0 0, .ptr k 0 0] oc (.b (v && b)) := by
  have hlt := (List.getElem?_eq_some_iff.1 hv).1
  refine ACalls_of' (n := 16) (rs := [.tmp 5]) (show Try.prog.funcs[68]? = some Try.f68 by kernel_rfl) rfl rfl rfl (by simp) (by decide +kernel) ?_
  repeat (first | refine nav ?_ | refine bo ?_)
  (refine wr fun K R hK hR => ?_; simp (maxSteps := 10000000) only [go_sem]; (try go_ints); (repeat refine And.intro side ?_); (first | refine hK _ ?_ | refine hR _ _ ?_); clear hK hR K R)
  repeat (first | refine nav ?_ | refine bo ?_)
  (refine wr fun K R hK hR => ?_; simp (maxSteps := 10000000) only [go_sem, hi, hj, hk, bools_get hv]; (try go_ints); (try simp only [go_sem, hi, hj, hk, bools_get hv]); (repeat refine And.intro side ?_); (first | refine hK _ ?_ | refine hR _ _ ?_); clear hK hR K R)
  refine RL_callQg rfl (by simp only [go_sem] <;> exact rfl) (fun e => hf) (fun e => by (try simp only [go_sem] at e); simp only [go_sem, e] <;> exact rfl) rfl rfl (by simp) (fun e => by (try simp only [go_sem] at e); simp only [go_sem, e, hcd] <;> exact LeA.refl _) ho ?_ rfl ?_
  · simpa [AV.ltk] using hc
  (refine rr fun K R hK hR => ?_; simp (maxSteps := 10000000) only [go_sem]; (try go_ints); (repeat refine And.intro side ?_); (first | refine hK _ ?_ | refine hR _ _ ?_); clear hK hR K R)
  repeat (first | refine nav ?_ | refine bo ?_)
  refine endQ_quiet0 (by simp only [go_sem] <;> exact rfl) (Le.of_eq ?_) (by assumption) rfl
  rfl
theorem bools_ok (l : List Bool) : rowsOk true (bools l) = true := by
  simp [rowsOk, bools, AV.isOwn, AV.ltk, AV.plain]
theorem cloneB_spec {oc : List Ob} (ho : okO oc = true) {i : Nat} {l : List Bool} (hi : oc[i]? = some (.cells 1 (bools l))) (h1 : 0 < l.length) (h2 : l.length ≤ 1048576) :
    ACallsQ Try.prog 67 [.ref i 0 l.length] oc (.own 1 (bools l)) := by
  refine ACalls_of' (n := 8) (rs := [.tmp 2]) (show Try.prog.funcs[67]? = some Try.f67 by kernel_rfl) rfl rfl rfl (by simp) (by decide +kernel) ?_
  repeat (first | refine nav ?_ | refine bo ?_)
  (refine wr fun K R hK hR => ?_; simp (maxSteps := 10000000) only [go_sem]; (try go_ints); (repeat refine And.intro side ?_); (first | refine hK _ ?_ | refine hR _ _ ?_); clear hK hR K R)
  repeat (first | refine nav ?_ | refine bo ?_)
  (refine wr fun K R hK hR => ?_; simp (maxSteps := 10000000) only [go_sem, h1]; (try go_ints); (try simp only [go_sem, h1]); (repeat refine And.intro side ?_); (first | refine hK _ ?_ | refine hR _ _ ?_); clear hK hR K R)
  repeat (first | refine nav ?_ | refine bo ?_)
  refine W_cond (b := false) (by simp only [go_sem]) (fun hb => by cases hb) (fun _ => ?_)
  repeat (first | refine nav ?_ | refine bo ?_)
  have htk : List.take l.length (bools l) = bools l := List.take_of_length_le (by simp [bools])
  refine W_reg [5] fun K R hK hR => ?_
  simp only [go_sem, hi, bools_ok, Nat.le_refl, and_self, List.drop_zero, htk]
  refine ⟨by simp; omega, hK _ ?_⟩
  clear hK hR K R
  repeat (first | refine nav ?_ | refine bo ?_)
  refine endQ_quiet0 (by simp only [go_sem] <;> exact rfl) (Le.of_eq ?_) (by assumption) rfl
  rfl
/-- One round's new state, and whether anything turned. -/
def isF (may : Nat → Nat → Bool) (next : List (List Int)) (all was : List Bool) (x : Nat) : Bool :=
  if all.getD x false then !((next.getD x []).any fun y => !(was.getD y.toNat false)) else (next.getD x []).any fun y => was.getD y.toNat false && may x y.toNat
def stepI (may : Nat → Nat → Bool) (next : List (List Int)) (all was : List Bool) : List Bool := (List.range was.length).map fun x => was.getD x false || isF may next all was x
def stepR (may : Nat → Nat → Bool) (next : List (List Int)) (all was : List Bool) (d : Int) (r : List Int) : List Int := (List.range was.length).map fun x => if isF may next all was x && !(was.getD x false) then d else r.getD x 0
def stepM (may : Nat → Nat → Bool) (next : List (List Int)) (all was : List Bool) : Bool := (List.range was.length).any fun x => isF may next all was x && !(was.getD x false)
def wonL (may : Nat → Nat → Bool) (next : List (List Int)) (all : List Bool) : Nat → Int → List Bool → List Int → List Bool × List Int
  | 0, _, i, r => (i, r)
  | f + 1, d, i, r => if stepM may next all i then wonL may next all f (d + 1) (stepI may next all i) (stepR may next all i d r) else (stepI may next all i, stepR may next all i d r)
def wonF (may : Nat → Nat → Bool) (next : List (List Int)) (all : List Bool) (n : Nat) : List Bool × List Int := wonL may next all (n + 1) 1 ((List.replicate n false).set (n - 1) true) (List.replicate n 0)
def cntF (l : List Bool) : Nat := (l.filter fun b => !b).length
theorem step_get (may : Nat → Nat → Bool) (next : List (List Int)) (all was : List Bool) (d : Int) (r : List Int) (x : Nat) (h : x < was.length) :
    (stepI may next all was)[x]? = some (was.getD x false || isF may next all was x) ∧ (stepR may next all was d r)[x]? = some (if isF may next all was x && !(was.getD x false) then d else r.getD x 0) := by
  simp [stepI, stepR, h]
theorem step_len (may : Nat → Nat → Bool) (next : List (List Int)) (all was : List Bool) (d : Int) (r : List Int) : (stepI may next all was).length = was.length ∧ (stepR may next all was d r).length = was.length := by
  simp [stepI, stepR]
theorem cntF_le (l : List Bool) : cntF l ≤ l.length := List.length_filter_le _ _
/-- Where something turned, fewer are left. -/
theorem cntF_lt : ∀ (a b : List Bool), a.length = b.length → (∀ x : Nat, a[x]? = some true → b[x]? = some true) → (∃ x : Nat, a[x]? = some false ∧ b[x]? = some true) → cntF b < cntF a
  | [], [], _, _, ⟨x, h, _⟩ => by simp at h
  | [], _ :: _, h, _, _ => by simp at h
  | _ :: _, [], h, _, _ => by simp at h
  | a :: l, b :: r, hl, h1, ⟨x, h2, h3⟩ => by
    have hle : ∀ (a b : List Bool), a.length = b.length → (∀ x : Nat, a[x]? = some true → b[x]? = some true) → cntF b ≤ cntF a := by
      intro a
      induction a with
      | nil => intro b hb _; cases b with | nil => exact Nat.le_refl _ | cons => simp at hb
      | cons a l ih =>
        intro b hb h
        cases b with
        | nil => simp at hb
        | cons b r =>
          have h4 := ih r (by simpa using hb) (fun x hx => by have := h (x + 1) (by simpa using hx); simpa using this)
          have h0 := h 0
          simp only [List.getElem?_cons_zero, Option.some.injEq] at h0
          simp only [cntF, List.filter_cons] at h4 ⊢
          cases a <;> cases b <;> simp at h0 ⊢ <;> omega
    have hl' : l.length = r.length := by simpa using hl
    have h1' : ∀ x : Nat, l[x]? = some true → r[x]? = some true := fun x hx => by have := h1 (x + 1) (by simpa using hx); simpa using this
    cases x with
    | zero =>
      simp only [List.getElem?_cons_zero, Option.some.injEq] at h2 h3
      subst h2 h3
      have := hle l r hl' h1'
      simp only [cntF, List.filter_cons] at this ⊢
      simp; omega
    | succ x =>
      have := cntF_lt l r hl' h1' ⟨x, by simpa using h2, by simpa using h3⟩
      have h0 := h1 0
      simp only [List.getElem?_cons_zero, Option.some.injEq] at h0
      simp only [cntF, List.filter_cons] at this ⊢
      cases a <;> cases b <;> simp at h0 ⊢ <;> omega
theorem stepM_cnt {may : Nat → Nat → Bool} {next : List (List Int)} {all was : List Bool} (h : stepM may next all was = true) : cntF (stepI may next all was) < cntF was := by
  refine cntF_lt _ _ (step_len may next all was 0 []).1.symm ?_ ?_
  · intro x hx
    have hlt := (List.getElem?_eq_some_iff.1 hx).1
    rw [(step_get may next all was 0 [] x hlt).1, List.getD_eq_getElem?_getD, hx]
    simp
  · simp only [stepM, List.any_eq_true, List.mem_range] at h
    obtain ⟨x, hlt, hx⟩ := h
    simp only [Bool.and_eq_true, Bool.not_eq_true'] at hx
    refine ⟨x, ?_, ?_⟩
    · have := hx.2
      rw [List.getD_eq_getElem?_getD, List.getElem?_eq_getElem hlt] at this
      rw [List.getElem?_eq_getElem hlt]
      simpa using this
    · rw [(step_get may next all was 0 [] x hlt).1, hx.1]
      simp
end Go.AW
/-
What clauses, truth values and a law's third argument read as.
-/
namespace Go.AW
open Go Go.Proofs TyTry
set_option linter.unusedSimpArgs false
set_option linter.unusedVariables false
set_option maxRecDepth 100000
theorem undBool4 : Try.prog.underlying 4 = some .bool := by kernel_rfl
theorem undBools : Try.prog.underlying 51 = some (.slice 4) := by kernel_rfl
theorem undClau : Try.prog.underlying 42 = some (.struct (fldsOf Try.prog 42)) := by kernel_rfl
theorem fldsClau : (fldsOf Try.prog 42).toList.map (·.type) = [3, 40] := by kernel_rfl
theorem undMore : Try.prog.underlying 44 = some (.struct (fldsOf Try.prog 44)) := by kernel_rfl
theorem fldsMore : (fldsOf Try.prog 44).toList.map (·.type) = [29, 3, 29] := by kernel_rfl
section
variable {H : Type} {w : World} {enc : TypeId × Value → H} {base : Nat} {spare : Nat → Bool} {held : Bool}
theorem read_bool {k : Nat} {cs : List Value} {d : DataW H} {ps : List MemPlace} (h : DataW.trod enc Try.prog w base spare held k 4 cs = some (d, ps)) : ∃ n, cellsAV Try.prog k 4 d = [.b n] := by
  cases k with
  | zero => simp [DataW.trod] at h
  | succ k =>
    unfold DataW.trod at h
    rw [undBool4] at h
    rcases cs with _ | ⟨v, _ | ⟨v2, r⟩⟩
    · simp at h
    · cases v <;> simp at h
      obtain ⟨rfl, _⟩ := h
      exact ⟨_, by simp only [cellsAV, undBool4]; exact rfl⟩
    · simp at h
theorem read_bools {k : Nat} {cs : List Value} {d : DataW H} {ps : List MemPlace} (h : DataW.trod enc Try.prog w base spare held k 51 cs = some (d, ps)) (hw : Lite 51 d) : ∃ l : List Bool, cellsAV Try.prog k 51 d = [.sl 1 (bools l)] ∧ l.length ≤ reachBytes := by
  cases k with
  | zero => simp [DataW.trod] at h
  | succ k =>
    obtain ⟨elems, h1, h2, h3⟩ := read_sl undBools (by decide +kernel) h hw
    obtain ⟨r, e1, e2, _⟩ := read_map (F := fun x => cellsAV Try.prog k 4 x) (G := fun n : Bool => [AV.b n]) (Pr := fun _ => True) (l := elems) fun x hx => by
      obtain ⟨⟨cells, q, hq⟩, _⟩ := h3 x hx
      obtain ⟨n, hn⟩ := read_bool hq
      exact ⟨n, hn, trivial⟩
    exact ⟨r, by rw [h1, e1, sz4]; rfl, by omega⟩
theorem read_clau {k : Nat} {cs : List Value} {d : DataW H} {ps : List MemPlace} (h : DataW.trod enc Try.prog w base spare held k 42 cs = some (d, ps)) (hw : Lite 42 d) :
    ∃ (vars : Int) (cls : List (List Int)), cellsAV Try.prog k 42 d = [.i .i64 vars, .sl 1 (tups cls)] ∧ cls.length ≤ reachBytes ∧ ∀ t ∈ cls, t.length ≤ reachBytes := by
  cases k with
  | zero => simp [DataW.trod] at h
  | succ k =>
    obtain ⟨parts, h1, h2, h3⟩ := read_fields undClau h hw
    rw [fldsClau] at h1 h2 h3
    match parts, h2 with
    | [a, b], _ =>
      obtain ⟨⟨_, _, q0⟩, w0⟩ := h3 0 3 a rfl rfl
      obtain ⟨⟨_, _, q1⟩, w1⟩ := h3 1 40 b rfl rfl
      obtain ⟨n, en⟩ := read_int q0
      obtain ⟨l, el, bl, bt⟩ := read_tups q1 w1
      refine ⟨n, l, ?_, bl, bt⟩
      rw [h1]
      simp only [List.zip_cons_cons, List.zip_nil_right, List.flatMap_cons, List.flatMap_nil, en, el]
      rfl
theorem read_more {k : Nat} {cs : List Value} {d : DataW H} {ps : List MemPlace} (h : DataW.trod enc Try.prog w base spare held k 44 cs = some (d, ps)) (hw : Lite 44 d) :
    ∃ (edge : List Int) (most : Int) (clause : List Int), cellsAV Try.prog k 44 d = [.sl 1 (ints edge), .i .i64 most, .sl 1 (ints clause)] ∧ edge.length ≤ reachBytes ∧ clause.length ≤ reachBytes := by
  cases k with
  | zero => simp [DataW.trod] at h
  | succ k =>
    obtain ⟨parts, h1, h2, h3⟩ := read_fields undMore h hw
    rw [fldsMore] at h1 h2 h3
    match parts, h2 with
    | [a, b, c], _ =>
      obtain ⟨⟨_, _, q0⟩, w0⟩ := h3 0 29 a rfl rfl
      obtain ⟨⟨_, _, q1⟩, w1⟩ := h3 1 3 b rfl rfl
      obtain ⟨⟨_, _, q2⟩, w2⟩ := h3 2 29 c rfl rfl
      obtain ⟨e, ee, be⟩ := read_ints q0 w0
      obtain ⟨n, en⟩ := read_int q1
      obtain ⟨l, el, bl⟩ := read_ints q2 w2
      refine ⟨e, n, l, ?_, be, bl⟩
      rw [h1]
      simp only [List.zip_cons_cons, List.zip_nil_right, List.flatMap_cons, List.flatMap_nil, ee, en, el]
      rfl
end
theorem plainBool (k : Nat) : plainT Try.prog k 4 = true := by
  cases k with
  | zero => rfl
  | succ k => unfold plainT; rw [undBool4]; exact (by decide +kernel : decide (Try.prog.cellsOf 4 = 1) = true)
theorem plainBools (k : Nat) : plainT Try.prog k 51 = true := plainSl undBools (by decide +kernel) (by decide +kernel) plainBool k
theorem plainClau (k : Nat) : plainT Try.prog k 42 = true := plainStruct undClau (by decide +kernel) (fun k e he => by
  rw [fldsClau] at he
  simp only [List.mem_cons, List.not_mem_nil, or_false] at he
  rcases he with rfl | rfl
  · exact plainInt k
  · exact plainTups k) k
theorem plainMore (k : Nat) : plainT Try.prog k 44 = true := plainStruct undMore (by decide +kernel) (fun k e he => by
  rw [fldsMore] at he
  simp only [List.mem_cons, List.not_mem_nil, or_false] at he
  rcases he with rfl | rfl | rfl
  · exact plainInts k
  · exact plainInt k
  · exact plainInts k) k
end Go.AW
