/-
The law's question that comes last: the chapter's first example.
-/
import Derived.Test.YtfjdiofipbchcaaKah
import Derived.Test.YtfjdiofipbchcaaKag
import Derived.Test.YtfjdiofipbchcaaKaf
import Derived.SizedLaws
namespace Go.AW
open Go Go.Proofs TyTry Go.IntWalk
set_option linter.unusedSimpArgs false
set_option linter.unusedVariables false
set_option maxRecDepth 100000
set_option maxHeartbeats 1000000
def nmE : ByteArray := ⟨#[69]⟩
def sA : StrD := ⟨3, [⟨nmE, 2, [[0, 1], [1, 2]]⟩]⟩
def pE : PlanD := .mk 0 2 0 0 nmE [] []
def pJ : PlanD := .mk 4 0 0 0 ⟨#[]⟩ [] [pE, pE]
def pS : PlanD := .mk 2 0 1 2 ⟨#[]⟩ [] [pJ]
def pP : PlanD := .mk 5 0 0 0 ⟨#[]⟩ [0, 3] [pS]
theorem find_run : ACallsD Try.prog 36 [.agg sA.cells, .s nmE, .i .i64 2] (.i .i64 0) := run0 (k := 60) (by kernel_rfl)
theorem svalid_run : ACallsD Try.prog 35 [.agg sA.cells] (.b true) := run0 (k := 200) (by kernel_rfl)
theorem large_run : ACallsD Try.prog 37 [.agg pP.cells, .i .i64 3] (.b false) := run0 (k := 200) (by kernel_rfl)
theorem clone_run : ACallsD Try.prog 40 [.sl 1 (ints [0, 2])] (.sl 1 (ints [0, 2])) := (run0 (r := .own 1 (ints [0, 2])) (k := 60) (by kernel_rfl)).le (Le.dat _ _)
def jRows : List (List Int) := [[0, 1, 0, 1], [0, 1, 1, 2], [1, 2, 0, 1], [1, 2, 1, 2]]
theorem pick_run : ACallsD Try.prog 59 [.any, .agg pS.cells, .sl 1 (kid3 [jRows])] (.sl 1 (tups [[0, 1, 1, 2]])) := run0 (k := 100) (by kernel_rfl)
theorem walk_run : walkF pP 1 0 [] = some (2, 5, [(nmE, 2)]) := by kernel_rfl
theorem runs_E : Runs sA pE [[0, 1], [1, 2]] := by
  refine run_step sA pE [] _ (by decide) (by decide) rfl (fun i x l h => by cases h) ?_
  exact rel_spec (k := 0) (r := ⟨nmE, 2, [[0, 1], [1, 2]]⟩) (by decide) rfl find_run rfl
theorem runs_J : Runs sA pJ jRows := by
  refine run_step sA pJ [[[0, 1], [1, 2]], [[0, 1], [1, 2]]] _ (by decide) (by decide) rfl (fun i x l h h2 => ?_) ?_
  · match i, h, h2 with
    | 0, h, h2 => cases h; cases h2; exact runs_E
    | 1, h, h2 => cases h; cases h2; exact runs_E
  · exact meth_join _ _ rfl (by decide) (by decide) (by decide) (by decide) (by decide)
theorem runs_S : Runs sA pS [[0, 1, 1, 2]] := by
  refine run_step sA pS [jRows] _ (by decide) (by decide) rfl (fun i x l h h2 => ?_) ?_
  · match i, h, h2 with
    | 0, h, h2 => cases h; cases h2; exact runs_J
  · exact meth_any pick_run
theorem runs_P : Runs sA pP [[0, 2]] := by
  refine run_step sA pP [[[0, 1, 1, 2]]] _ (by decide) (by decide) rfl (fun i x l h h2 => ?_) ?_
  · match i, h, h2 with
    | 0, h, h2 => cases h; cases h2; exact runs_S
  · exact meth_project _ _ rfl (sorted1_spec [0, 2]) (by intro h; cases h) (by decide) (by decide) (by decide) (by decide)
theorem pP_sm : pP.Sm := sm_of_weigh (most := 1000) (by decide) pP 0 (by decide +kernel)
theorem arun_spec : ACallsD Try.prog 24 [.agg pP.cells, .agg sA.cells] (.tup [.sl 1 (tups [[0, 2]]), .i .i64 0]) := by
  have h := prun_spec pP pP_sm sA true (fun _ _ => 0) false [[0, 2]] svalid_run (fun _ w n ws h x hx => ?_) (fun _ _ => large_run) (fun _ _ _ _ _ _ _ => runs_P) (by decide) (fun x hx => ?_)
  · rw [walk_run] at h; exact h
  · rw [walk_run] at h
    cases h
    cases hx with
    | head => exact find_run
    | tail _ h => cases h
  · cases hx with
    | head => exact clone_run
    | tail _ h => cases h
theorem arel_run : ACallsD Try.prog 25 [.s nmE, .i .i64 2] (.agg pE.cells) := run0 (k := 60) (by kernel_rfl)
theorem atwo_run : ACallsD Try.prog 14 [.i .i64 4, .agg pE.cells, .agg pE.cells] (.agg pJ.cells) := run0 (k := 60) (by kernel_rfl)
theorem achosen_run : ACallsD Try.prog 17 [.i .i64 2, .i .i64 1, .i .i64 2, .agg pJ.cells] (.agg pS.cells) := run0 (k := 60) (by kernel_rfl)
theorem aproject_run : ACallsD Try.prog 18 [.agg pS.cells, .sl 1 (ints [0, 3])] (.agg pP.cells) := run0 (k := 60) (by kernel_rfl)
theorem aequal_run : ACallsD Try.prog 26 [.sl 1 (ints [0, 2]), .sl 1 (ints [0, 2])] (.b true) := run0 (k := 60) (by kernel_rfl)
theorem alive_spec : ACallsD Try.prog 8 [] (.b true) := by
  have ht : tups [[0, 2]] = [[.sl 1 (ints [0, 2])]] := rfl
  refine ACalls_of' (n := 35) (rs := [.tmp 0]) (show Try.prog.funcs[8]? = some Try.f8 by kernel_rfl) rfl rfl rfl (by simp) (by decide +kernel) ?_
  repeat (first | refine nav ?_ | refine bo ?_)
  (refine wr fun K R hK hR => ?_; simp (maxSteps := 10000000) only [go_sem]; (try go_ints); (repeat refine And.intro side ?_); (first | refine hK _ ?_ | refine hR _ _ ?_); clear hK hR K R)
  repeat (first | refine nav ?_ | refine bo ?_)
  (refine wr fun K R hK hR => ?_; simp (maxSteps := 10000000) only [go_sem]; (try go_ints); (repeat refine And.intro side ?_); (first | refine hK _ ?_ | refine hR _ _ ?_); clear hK hR K R)
  repeat (first | refine nav ?_ | refine bo ?_)
  (refine W_dreg (by decide +kernel) [] [0, 1, 2, 3, 4, 5, 6, 7, 8, 9, 10, 11, 12] [[], [0], [1, 0], [0, 1, 2], [], [4, 2, 1, 0, 3], [], [6, 3, 0, 1, 2, 4, 5], [5, 4, 2, 1, 0, 3, 6, 7], [7, 6, 3, 0, 1, 2, 4, 5, 8], [7, 6, 3, 0, 1, 2, 4, 5, 8], [8, 5, 4, 2, 1, 0, 3, 6, 7, 9], [9, 11, 8, 5, 4, 2, 1, 0, 3, 6, 7, 10]] (by decide +kernel) rfl fun K R hK hR => ?_; simp only [List.filterMap_cons, List.filterMap_nil, List.getElem?_cons_zero, List.getElem?_cons_succ, List.cons_append, List.nil_append]; simp (maxSteps := 10000000) only [go_sem]; (try go_ints); (repeat refine And.intro side ?_); (first | refine hK _ ?_ | refine hR _ _ ?_); clear hK hR K R)
  refine D_callD (arel_run) rfl rfl rfl (by first | (simp only [go_sem] <;> first | exact LeA.refl _ | exact Le.refl _) | exact LeA.refl _) rfl rfl rfl rfl ?_
  (refine D_reg fun K R hK hR => ?_; simp (maxSteps := 10000000) only [go_sem]; (try go_ints); (repeat refine And.intro side ?_); (first | refine hK _ ?_ | refine hR _ _ ?_); clear hK hR K R)
  refine D_callD (arel_run) rfl rfl rfl (by first | (simp only [go_sem] <;> first | exact LeA.refl _ | exact Le.refl _) | exact LeA.refl _) rfl rfl rfl rfl ?_
  (refine D_reg fun K R hK hR => ?_; simp (maxSteps := 10000000) only [go_sem]; (try go_ints); (repeat refine And.intro side ?_); (first | refine hK _ ?_ | refine hR _ _ ?_); clear hK hR K R)
  refine D_callD (atwo_run) rfl rfl rfl (by first | (simp only [go_sem] <;> first | exact LeA.refl _ | exact Le.refl _) | exact LeA.refl _) rfl rfl rfl rfl ?_
  (refine D_reg fun K R hK hR => ?_; simp (maxSteps := 10000000) only [go_sem]; (try go_ints); (repeat refine And.intro side ?_); (first | refine hK _ ?_ | refine hR _ _ ?_); clear hK hR K R)
  refine D_callD (achosen_run) rfl rfl rfl (by first | (simp only [go_sem] <;> first | exact LeA.refl _ | exact Le.refl _) | exact LeA.refl _) rfl rfl rfl rfl ?_
  (refine D_reg fun K R hK hR => ?_; simp (maxSteps := 10000000) only [go_sem]; (try go_ints); (repeat refine And.intro side ?_); (first | refine hK _ ?_ | refine hR _ _ ?_); clear hK hR K R)
  refine D_callD (aproject_run) rfl rfl rfl (by first | (simp only [go_sem] <;> first | exact LeA.refl _ | exact Le.refl _) | exact LeA.refl _) rfl rfl rfl rfl ?_
  (refine D_reg fun K R hK hR => ?_; simp (maxSteps := 10000000) only [go_sem]; (try go_ints); (repeat refine And.intro side ?_); (first | refine hK _ ?_ | refine hR _ _ ?_); clear hK hR K R)
  refine D_callD (arun_spec) rfl rfl rfl (by first | (simp only [go_sem] <;> first | exact LeA.refl _ | exact Le.refl _) | exact LeA.refl _) rfl rfl rfl rfl ?_
  (refine D_reg fun K R hK hR => ?_; simp (maxSteps := 10000000) only [go_sem]; (try go_ints); (repeat refine And.intro side ?_); (first | refine hK _ ?_ | refine hR _ _ ?_); clear hK hR K R)
  repeat (first | refine nav ?_ | refine bo ?_)
  (refine wr fun K R hK hR => ?_; simp (maxSteps := 10000000) only [go_sem, ht]; (try go_ints); (try simp only [go_sem, ht]); (repeat refine And.intro side ?_); (first | refine hK _ ?_ | refine hR _ _ ?_); clear hK hR K R)
  refine RL_callDg rfl (by simp only [go_sem] <;> exact rfl) (fun e => aequal_run) rfl rfl rfl (fun e => by (try simp only [go_sem] at e); simp only [go_sem, e] <;> (try simp only [go_sem]) <;> first | exact LeA.refl _ | exact Le.refl _) rfl rfl ?_
  (refine rr fun K R hK hR => ?_; simp (maxSteps := 10000000) only [go_sem]; (try go_ints); (repeat refine And.intro side ?_); (first | refine hK _ ?_ | refine hR _ _ ?_); clear hK hR K R)
  repeat (first | refine nav ?_ | refine bo ?_)
  refine endQ_data (by simp only [go_sem] <;> exact rfl) (Le.of_eq ?_) rfl
  rfl
end Go.AW
namespace Go.AW
open Go Go.Proofs TyTry Go.IntWalk
set_option linter.unusedSimpArgs false
set_option linter.unusedVariables false
set_option maxRecDepth 10000
set_option maxHeartbeats 1000000
theorem rletter_spec (c : Int) : ACallsD Try.prog 43 [.i .u8 c] (.b (letterF c)) := by
  refine ACalls_of' (n := 17) (rs := [.tmp 2]) (show Try.prog.funcs[43]? = some Try.f43 by kernel_rfl) rfl rfl rfl (by simp) (by decide +kernel) ?_
  repeat' (first | refine nav ?_ | refine bo ?_ | (refine wr fun K R hK hR => ?_; simp (maxSteps := 10000000) only [go_sem]; (try go_ints); (repeat refine And.intro side ?_); (first | refine hK _ ?_ | refine hR _ _ ?_); clear hK hR K R) | ((refine W_cond (by simp only [go_sem, *] <;> exact rfl) (fun hb => ?_) (fun hb => ?_)) <;> (try exact Bool.noConfusion hb)))
  refine endQ_data (by simp only [go_sem] <;> exact rfl) (Le.of_eq ?_) rfl
  try rfl
theorem rdigit_spec (c : Int) : ACallsD Try.prog 45 [.i .u8 c] (.b (digitF c)) := by
  refine ACalls_of' (n := 9) (rs := [.tmp 2]) (show Try.prog.funcs[45]? = some Try.f45 by kernel_rfl) rfl rfl rfl (by simp) (by decide +kernel) ?_
  repeat' (first | refine nav ?_ | refine bo ?_ | (refine wr fun K R hK hR => ?_; simp (maxSteps := 10000000) only [go_sem]; (try go_ints); (repeat refine And.intro side ?_); (first | refine hK _ ?_ | refine hR _ _ ?_); clear hK hR K R) | ((refine W_cond (by simp only [go_sem, *] <;> exact rfl) (fun hb => ?_) (fun hb => ?_)) <;> (try exact Bool.noConfusion hb)))
  refine endQ_data (by simp only [go_sem] <;> exact rfl) (Le.of_eq ?_) rfl
  try rfl
theorem rword_spec (x : ByteArray) : ACallsD Try.prog 44 [.s x] (.b (wordF x)) := by
  refine ACalls_of' (n := 16) (rs := [.tmp 2]) (show Try.prog.funcs[44]? = some Try.f44 by kernel_rfl) rfl rfl rfl (by simp) (by decide +kernel) ?_
  repeat' (first | refine nav ?_ | refine bo ?_ | (refine wr fun K R hK hR => ?_; simp (maxSteps := 10000000) only [go_sem]; (try go_ints); (repeat refine And.intro side ?_); (first | refine hK _ ?_ | refine hR _ _ ?_); clear hK hR K R) | ((refine W_cond (by simp only [go_sem, *] <;> exact rfl) (fun hb => ?_) (fun hb => ?_)) <;> (try exact Bool.noConfusion hb)))
  all_goals refine endQ_data (by simp only [go_sem] <;> exact rfl) (Le.of_eq ?_) rfl
  all_goals simp only [wordF, wordsL, List.any_cons, List.any_nil, Bool.or_true, Bool.true_or, Bool.or_false, Bool.false_or, *]
theorem rname_spec (x : ByteArray) (hx : x.size ≤ 1125899906842624) : ACallsD Try.prog 30 [.s x] (.b (nameF x)) := by
  refine ACalls_of' (n := 40) (rs := [.tmp 2]) (show Try.prog.funcs[30]? = some Try.f30 by kernel_rfl) rfl rfl rfl (by simp) (by decide +kernel) ?_
  repeat (first | refine nav ?_ | refine bo ?_)
  (refine wr fun K R hK hR => ?_; simp (maxSteps := 10000000) only [go_sem]; (try go_ints); (repeat refine And.intro side ?_); (first | refine hK _ ?_ | refine hR _ _ ?_); clear hK hR K R)
  repeat (first | refine nav ?_ | refine bo ?_)
  (refine wr fun K R hK hR => ?_; simp (maxSteps := 10000000) only [go_sem]; (try go_ints); (repeat refine And.intro side ?_); (first | refine hK _ ?_ | refine hR _ _ ?_); clear hK hR K R)
  refine RL_callDg rfl (by simp only [go_sem] <;> exact rfl) (fun e => rletter_spec (chF x 0)) rfl rfl rfl (fun e => by (try simp only [go_sem] at e); simp only [go_sem, e] <;> (try simp only [go_sem, chF]) <;> first | exact LeA.refl _ | exact Le.refl _) rfl rfl ?_
  (refine rr fun K R hK hR => ?_; simp (maxSteps := 10000000) only [go_sem]; (try go_ints); (repeat refine And.intro side ?_); (first | refine hK _ ?_ | refine hR _ _ ?_); clear hK hR K R)
  refine RL_callDg rfl (by simp only [go_sem] <;> exact rfl) (fun e => rword_spec x) rfl rfl rfl (fun e => by (try simp only [go_sem] at e); simp only [go_sem, e] <;> (try simp only [go_sem]) <;> first | exact LeA.refl _ | exact Le.refl _) rfl rfl ?_
  (refine rr fun K R hK hR => ?_; simp (maxSteps := 10000000) only [go_sem]; (try go_ints); (repeat refine And.intro side ?_); (first | refine hK _ ?_ | refine hR _ _ ?_); clear hK hR K R)
  repeat (first | refine nav ?_ | refine bo ?_)
  refine W_cond (by simp only [go_sem] <;> exact rfl) (fun hb => ?_) (fun hb => ?_)
  · simp only [Bool.or_eq_true, decide_eq_true_eq, Bool.not_eq_true'] at hb
    repeat (first | refine nav ?_ | refine bo ?_)
    (refine wr fun K R hK hR => ?_; simp (maxSteps := 10000000) only [go_sem]; (try go_ints); (repeat refine And.intro side ?_); (first | refine hK _ ?_ | refine hR _ _ ?_); clear hK hR K R)
    repeat (first | refine nav ?_ | refine bo ?_)
    refine endQ_data (by simp only [go_sem] <;> exact rfl) (Le.of_eq ?_) rfl
    rcases hb with ((hb | hb) | hb) | hb <;> simp [nameF, hb]
    all_goals (intros; omega)
  · simp only [Bool.or_eq_false_iff, decide_eq_false_iff_not, Bool.not_eq_false'] at hb
    obtain ⟨⟨⟨h1, h2⟩, h3⟩, h4⟩ := hb
    repeat (first | refine nav ?_ | refine bo ?_)
    (refine wr fun K R hK hR => ?_; simp (maxSteps := 10000000) only [go_sem]; (try go_ints); (repeat refine And.intro side ?_); (first | refine hK _ ?_ | refine hR _ _ ?_); clear hK hR K R)
    repeat (first | refine nav ?_ | refine bo ?_)
    refine W_for 3 40 [3] (fun m t o => ∃ k : Nat, [] = o ∧ t 3 = .i .i64 k ∧ m = x.size - k ∧ k ≤ x.size ∧ 1 ≤ k ∧ ∀ i < k, (letterF (chF x i) || digitF (chF x i)) = true) (x.size - 1) ⟨1, rfl, by simp only [go_sem] <;> rfl, rfl, by omega, by omega, fun i hi => by
      have : i = 0 := by omega
      subst this; rw [h3]; rfl⟩ ?_
    rintro m t o ⟨k, rfl, h23, rfl, hk, hk1, hi⟩
    repeat (first | refine nav ?_ | refine bo ?_)
    (refine wr fun K R hK hR => ?_; simp (maxSteps := 10000000) only [go_sem, h23]; (try go_ints); (try simp only [go_sem, h23]); (repeat refine And.intro side ?_); (first | refine hK _ ?_ | refine hR _ _ ?_); clear hK hR K R)
    repeat (first | refine nav ?_ | refine bo ?_)
    refine W_cond (by simp only [go_sem] <;> exact rfl) (fun hb => ?_) (fun hb => ?_)
    · simp at hb
      repeat (first | refine nav ?_ | refine bo ?_)
      (refine wr fun K R hK hR => ?_; simp (maxSteps := 10000000) only [go_sem, h23]; (try go_ints); (try simp only [go_sem, h23]); (repeat refine And.intro side ?_); (first | refine hK _ ?_ | refine hR _ _ ?_); clear hK hR K R)
      refine RL_callF (rletter_spec (chF x k)) rfl rfl rfl (by first | (simp only [go_sem, chF] <;> first | exact LeA.refl _ | exact Le.refl _) | exact LeA.refl _) rfl rfl ?_
      (refine rr fun K R hK hR => ?_; simp (maxSteps := 10000000) only [go_sem, h23]; (try go_ints); (try simp only [go_sem, h23]); (repeat refine And.intro side ?_); (first | refine hK _ ?_ | refine hR _ _ ?_); clear hK hR K R)
      refine RL_callDg rfl (by simp only [go_sem] <;> exact rfl) (fun e => rdigit_spec (chF x k)) rfl rfl rfl (fun e => by (try simp only [go_sem] at e); simp only [go_sem, e] <;> (try simp only [go_sem, chF]) <;> first | exact LeA.refl _ | exact Le.refl _) rfl rfl ?_
      (refine rr fun K R hK hR => ?_; simp (maxSteps := 10000000) only [go_sem]; (try go_ints); (repeat refine And.intro side ?_); (first | refine hK _ ?_ | refine hR _ _ ?_); clear hK hR K R)
      repeat (first | refine nav ?_ | refine bo ?_)
      refine W_cond (by simp only [go_sem] <;> exact rfl) (fun hc => ?_) (fun hc => ?_)
      · simp at hc
        repeat (first | refine nav ?_ | refine bo ?_)
        (refine wr fun K R hK hR => ?_; simp (maxSteps := 10000000) only [go_sem]; (try go_ints); (repeat refine And.intro side ?_); (first | refine hK _ ?_ | refine hR _ _ ?_); clear hK hR K R)
        repeat (first | refine nav ?_ | refine bo ?_)
        refine endQ_data (by simp only [go_sem] <;> exact rfl) (Le.of_eq ?_) rfl
        simp [nameF]
        intros
        exact ⟨k, hb, by simp [hc]⟩
      · repeat (first | refine nav ?_ | refine bo ?_)
        (refine wr fun K R hK hR => ?_; simp (maxSteps := 10000000) only [go_sem, h23]; (try go_ints); (try simp only [go_sem, h23]); (repeat refine And.intro side ?_); (first | refine hK _ ?_ | refine hR _ _ ?_); clear hK hR K R)
        refine forQ_normal (x.size - (k + 1)) (by omega) ⟨k + 1, ?_⟩
        ((try simp only [go_sem]); (repeat' refine And.intro ?_ ?_) <;> (try first | with_reducible rfl | omega | with_reducible assumption | (simp; done)))
        intro i hik
        rcases Nat.lt_succ_iff_lt_or_eq.1 hik with h | rfl
        · exact hi i h
        · simp at hc
          cases h : letterF (chF x i) <;> simp_all
    · simp at hb
      have : k = x.size := by omega
      subst this
      repeat (first | refine nav ?_ | refine bo ?_)
      (refine wr fun K R hK hR => ?_; simp (maxSteps := 10000000) only [go_sem]; (try go_ints); (repeat refine And.intro side ?_); (first | refine hK _ ?_ | refine hR _ _ ?_); clear hK hR K R)
      repeat (first | refine nav ?_ | refine bo ?_)
      refine endQ_data (by simp only [go_sem] <;> exact rfl) (Le.of_eq ?_) rfl
      simp only [nameF, h3, h4, AV.b.injEq]
      have a1 : decide (1 ≤ x.size) = true := by simp; omega
      have a2 : decide (x.size ≤ 12) = true := by simp; omega
      rw [a1, a2]
      simp
      intro i hlt
      simpa using hi i hlt
theorem places_spec (n : Int) (l : List Int) (hl : l.length ≤ 1125899906842624) : ACallsD Try.prog 31 [.sl 1 (ints l), .i .i64 n] (.b (insideF n l)) := by
  refine ACalls_of' (n := 25) (rs := [.tmp 4]) (show Try.prog.funcs[31]? = some Try.f31 by kernel_rfl) rfl rfl rfl (by simp) (by decide +kernel) ?_
  repeat (first | refine nav ?_ | refine bo ?_)
  (refine wr fun K R hK hR => ?_; simp (maxSteps := 10000000) only [go_sem]; (try go_ints); (repeat refine And.intro side ?_); (first | refine hK _ ?_ | refine hR _ _ ?_); clear hK hR K R)
  repeat (first | refine nav ?_ | refine bo ?_)
  (refine wr fun K R hK hR => ?_; simp (maxSteps := 10000000) only [go_sem]; (try go_ints); (repeat refine And.intro side ?_); (first | refine hK _ ?_ | refine hR _ _ ?_); clear hK hR K R)
  repeat (first | refine nav ?_ | refine bo ?_)
  refine W_for 5 25 [5] (fun m t o => ∃ k : Nat, [] = o ∧ t 5 = .i .i64 k ∧ m = l.length - k ∧ k ≤ l.length ∧ (l.take k).any (fun x => decide (x < 0) || decide (x ≥ n)) = false) l.length ⟨0, rfl, by simp only [go_sem] <;> rfl, by omega, by omega, rfl⟩ ?_
  rintro m t o ⟨k, rfl, h5, rfl, hk, hi⟩
  repeat (first | refine nav ?_ | refine bo ?_)
  (refine wr fun K R hK hR => ?_; simp (maxSteps := 10000000) only [go_sem, h5]; (try go_ints); (try simp only [go_sem, h5]); (repeat refine And.intro side ?_); (first | refine hK _ ?_ | refine hR _ _ ?_); clear hK hR K R)
  repeat (first | refine nav ?_ | refine bo ?_)
  refine W_cond (by simp only [go_sem] <;> exact rfl) (fun hb => ?_) (fun hb => ?_)
  · simp at hb
    obtain ⟨x, hx⟩ : ∃ x, l[k]? = some x := ⟨_, List.getElem?_eq_getElem hb⟩
    have hxm := List.mem_of_getElem? hx
    repeat (first | refine nav ?_ | refine bo ?_)
    (refine wr fun K R hK hR => ?_; simp (maxSteps := 10000000) only [go_sem, h5, ints_get hx]; (try go_ints); (try simp only [go_sem, h5, ints_get hx]); (repeat refine And.intro side ?_); (first | refine hK _ ?_ | refine hR _ _ ?_); clear hK hR K R)
    repeat (first | refine nav ?_ | refine bo ?_)
    refine W_cond (b := decide (x < 0) || decide (x ≥ n)) (by simp only [go_sem]) (fun hc => ?_) (fun hc => ?_)
    · repeat (first | refine nav ?_ | refine bo ?_)
      (refine wr fun K R hK hR => ?_; simp (maxSteps := 10000000) only [go_sem]; (try go_ints); (repeat refine And.intro side ?_); (first | refine hK _ ?_ | refine hR _ _ ?_); clear hK hR K R)
      repeat (first | refine nav ?_ | refine bo ?_)
      refine endQ_data (by simp only [go_sem] <;> exact rfl) (Le.of_eq ?_) rfl
      have : (l.any fun x => decide (x < 0) || decide (x ≥ n)) = true := List.any_eq_true.2 ⟨x, hxm, hc⟩
      unfold insideF
      rw [this]; rfl
    · repeat (first | refine nav ?_ | refine bo ?_)
      (refine wr fun K R hK hR => ?_; simp (maxSteps := 10000000) only [go_sem, h5]; (try go_ints); (try simp only [go_sem, h5]); (repeat refine And.intro side ?_); (first | refine hK _ ?_ | refine hR _ _ ?_); clear hK hR K R)
      refine forQ_normal (l.length - (k + 1)) (by omega) ⟨k + 1, ?_⟩
      ((try simp only [go_sem]); (repeat' refine And.intro ?_ ?_) <;> (try first | with_reducible rfl | omega | with_reducible assumption | (simp; done)))
      rw [List.take_add_one, hx, List.any_append, hi]
      simpa using hc
  · simp at hb
    have : k = l.length := by omega
    subst this
    rw [List.take_length] at hi
    repeat (first | refine nav ?_ | refine bo ?_)
    (refine wr fun K R hK hR => ?_; simp (maxSteps := 10000000) only [go_sem]; (try go_ints); (repeat refine And.intro side ?_); (first | refine hK _ ?_ | refine hR _ _ ?_); clear hK hR K R)
    repeat (first | refine nav ?_ | refine bo ?_)
    refine endQ_data (by simp only [go_sem] <;> exact rfl) (Le.of_eq ?_) rfl
    unfold insideF
    rw [hi]; rfl
end Go.AW
namespace Go.AW
open Go Go.Proofs TyTry Go.IntWalk
set_option linter.unusedSimpArgs false
set_option linter.unusedVariables false
set_option maxRecDepth 10000
set_option maxHeartbeats 4000000
theorem ints_snoc (l : List Int) (x : Int) : ints (l ++ [x]) = ints l ++ [[.i .i64 x]] := by simp [ints]
def outF (p : PlanD) (w : List Int) : Int :=
  if (p.kind == 0 && (w.length : Int) == 0 && !decide ((p.cols.length : Int) > 0) && !(p.i != 0 || p.j != 0) && nameF p.name) = true then p.width
  else if (p.kind == 1 && (w.length : Int) == 0 && !decide ((p.cols.length : Int) > 0) && !(p.i != 0 || p.j != 0) && !!decide (p.name.size = 0)) = true then p.width
  else if ((p.kind == 2 || p.kind == 3) && (w.length : Int) == 1 && !decide ((p.cols.length : Int) > 0) && !!decide (p.name.size = 0) && p.width == 0) = true then (if insideF (w.getD 0 0) [p.i, p.j] = true then w.getD 0 0 else -1)
  else if (p.kind == 4 && (w.length : Int) == 2 && !decide ((p.cols.length : Int) > 0) && !(p.i != 0 || p.j != 0) && !!decide (p.name.size = 0) && p.width == 0) = true then w.getD 0 0 + w.getD 1 0
  else if (p.kind == 5 && (w.length : Int) == 1 && !(p.i != 0 || p.j != 0) && !!decide (p.name.size = 0) && p.width == 0) = true then (if insideF (w.getD 0 0) p.cols = true then p.cols.length else -1)
  else if ((p.kind == 6 || p.kind == 7) && (w.length : Int) == 2 && !decide ((p.cols.length : Int) > 0) && !(p.i != 0 || p.j != 0) && !!decide (p.name.size = 0) && p.width == 0) = true then (if w.getD 0 0 = w.getD 1 0 then w.getD 0 0 else -1)
  else -1
def capW (x : Int) : Int := if x < 0 ∨ x > 12 then -1 else x
mutual
/-- A plan's width, or -1. -/
def widthR : PlanD → Int
  | .mk k w i j nm cs ks => match widthsR ks with
    | none => -1
    | some l => capW (outF (.mk k w i j nm cs ks) l)
def widthsR : List PlanD → Option (List Int)
  | [] => some []
  | p :: r => if widthR p < 0 then none else match widthsR r with
    | none => none
    | some l => some (widthR p :: l)
end
theorem widthR_eq (p : PlanD) : widthR p = match widthsR p.kids with
    | none => -1
    | some l => capW (outF p l) := by cases p; rfl
theorem widthR_le (p : PlanD) : -1 ≤ widthR p ∧ widthR p ≤ 12 := by
  rw [widthR_eq]
  split
  · omega
  · unfold capW; split <;> omega
theorem widthsR_some : ∀ {l : List PlanD}, (∀ p ∈ l, ¬ widthR p < 0) → widthsR l = some (l.map widthR)
  | [], _ => rfl
  | p :: r, h => by
    simp only [widthsR]
    rw [if_neg (h p (by simp)), widthsR_some fun q hq => h q (by simp [hq])]
    rfl
theorem widthsR_none : ∀ {l : List PlanD} {p : PlanD}, p ∈ l → widthR p < 0 → widthsR l = none
  | q :: r, p, h, hw => by
    simp only [widthsR]
    split
    · rfl
    · rename_i hq
      rcases List.mem_cons.1 h with rfl | h
      · exact absurd hw hq
      · rw [widthsR_none h hw]
theorem rwidth_spec : ∀ (p : PlanD), p.Ok → cntF p ≤ 100000 → ACallsD Try.prog 15 [.agg p.cells] (.i .i64 (widthR p)) :=
  PlanD.ind fun p ih hp hc => by
    have h3 := hp.len
    have hkl : p.kids.length ≤ 100000 := by
      have := kids_cnt p.kids
      rw [cntF_eq] at hc; omega
    rw [PlanD.cells_eq]
    refine ACalls_of' (n := 242) (rs := [.tmp 2]) (show Try.prog.funcs[15]? = some Try.f15 by kernel_rfl) rfl rfl rfl (by simp) (by decide +kernel) ?_
    repeat (first | refine nav ?_ | refine bo ?_)
    (refine wr fun K R hK hR => ?_; simp (maxSteps := 10000000) only [go_sem]; (try go_ints); (repeat refine And.intro side ?_); (first | refine hK _ ?_ | refine hR _ _ ?_); clear hK hR K R)
    repeat (first | refine nav ?_ | refine bo ?_)
    (refine wr fun K R hK hR => ?_; simp (maxSteps := 10000000) only [go_sem]; (try go_ints); (repeat refine And.intro side ?_); (first | refine hK _ ?_ | refine hR _ _ ?_); clear hK hR K R)
    repeat (first | refine nav ?_ | refine bo ?_)
    (refine wr fun K R hK hR => ?_; simp (maxSteps := 10000000) only [go_sem]; (try go_ints); (repeat refine And.intro side ?_); (first | refine hK _ ?_ | refine hR _ _ ?_); clear hK hR K R)
    repeat (first | refine nav ?_ | refine bo ?_)
    refine W_for 10 29 [3, 4, 5] (fun m t o => ∃ (k : Nat), [Ob.cells 7 [[AV.i .i64 p.kind, .i .i64 p.width, .i .i64 p.i, .i .i64 p.j, .s p.name, .sl 1 (ints p.cols), .sl 7 (plans p.kids)]]] = o ∧ t 4 = .i .i64 k ∧ t 3 = .own 1 (ints ((p.kids.take k).map widthR)) ∧ m = p.kids.length - k ∧ k ≤ p.kids.length ∧ ∀ q ∈ p.kids.take k, ¬ widthR q < 0) p.kids.length
      ⟨0, rfl, by simp only [go_sem] <;> rfl, by simp only [go_sem] <;> rfl, by omega, by omega, by simp⟩ ?_
    rintro m t o ⟨k, rfl, h4, h3', rfl, hk, hi⟩
    repeat (first | refine nav ?_ | refine bo ?_)
    (refine wr fun K R hK hR => ?_; simp (maxSteps := 10000000) only [go_sem, h4]; (try go_ints); (try simp only [go_sem, h4]); (repeat refine And.intro side ?_); (first | refine hK _ ?_ | refine hR _ _ ?_); clear hK hR K R)
    repeat (first | refine nav ?_ | refine bo ?_)
    refine W_cond (by simp only [go_sem] <;> exact rfl) (fun hb => ?_) (fun hb => ?_)
    · have hb1 : k < p.kids.length := by simpa using hb
      obtain ⟨x, hx⟩ : ∃ x, p.kids[k]? = some x := ⟨_, List.getElem?_eq_getElem hb1⟩
      have hxm := List.mem_of_getElem? hx
      have htk : p.kids.take (k + 1) = p.kids.take k ++ [x] := by rw [List.take_add_one, hx]; rfl
      have hwx := widthR_le x
      have hcx := x.cells_eq
      have ihx := ih x hxm (hp.kid x hxm) (by have := cnt_mem hxm; rw [cntF_eq] at hc; omega)
      rw [hcx] at ihx
      repeat (first | refine nav ?_ | refine bo ?_)
      (refine wr fun K R hK hR => ?_; simp (maxSteps := 10000000) only [go_sem, h4, plans_get hx]; (try go_ints); (try simp only [go_sem, h4, plans_get hx]); (repeat refine And.intro side ?_); (first | refine hK _ ?_ | refine hR _ _ ?_); clear hK hR K R)
      refine RL_callF (ihx) rfl rfl rfl (by first | (simp only [go_sem] <;> first | exact LeA.refl _ | exact Le.refl _) | exact LeA.refl _) rfl rfl ?_
      (refine rr fun K R hK hR => ?_; simp (maxSteps := 10000000) only [go_sem]; (try go_ints); (repeat refine And.intro side ?_); (first | refine hK _ ?_ | refine hR _ _ ?_); clear hK hR K R)
      repeat (first | refine nav ?_ | refine bo ?_)
      (refine wr fun K R hK hR => ?_; simp (maxSteps := 10000000) only [go_sem]; (try go_ints); (repeat refine And.intro side ?_); (first | refine hK _ ?_ | refine hR _ _ ?_); clear hK hR K R)
      repeat (first | refine nav ?_ | refine bo ?_)
      refine W_cond (b := decide (widthR x < 0)) (by simp only [go_sem]) (fun hc => ?_) (fun hc => ?_)
      · repeat (first | refine nav ?_ | refine bo ?_)
        (refine wr fun K R hK hR => ?_; simp (maxSteps := 10000000) only [go_sem]; (try go_ints); (repeat refine And.intro side ?_); (first | refine hK _ ?_ | refine hR _ _ ?_); clear hK hR K R)
        repeat (first | refine nav ?_ | refine bo ?_)
        refine endQ_data (by simp only [go_sem] <;> exact rfl) (Le.of_eq ?_) rfl
        rw [widthR_eq, widthsR_none hxm (by simpa using hc)]
      · have hlen : (ints ((p.kids.take k).map widthR)).length = k := by simp [ints]; omega
        repeat (first | refine nav ?_ | refine bo ?_)
        (refine W_reg [25] fun K R hK hR => ?_; simp (maxSteps := 10000000) only [go_sem, h3', hlen]; (try go_ints); (try simp only [go_sem, h3', hlen]); (repeat refine And.intro side ?_); (first | refine hK _ ?_ | refine hR _ _ ?_); clear hK hR K R)
        repeat (first | refine nav ?_ | refine bo ?_)
        (refine wr fun K R hK hR => ?_; simp (maxSteps := 10000000) only [go_sem, h4]; (try go_ints); (try simp only [go_sem, h4]); (repeat refine And.intro side ?_); (first | refine hK _ ?_ | refine hR _ _ ?_); clear hK hR K R)
        refine forQ_normal (p.kids.length - (k + 1)) (by omega) ⟨k + 1, ?_⟩
        rw [htk, List.map_append, List.map_cons, List.map_nil, ints_snoc]
        ((try simp only [go_sem]); (repeat' refine And.intro ?_ ?_) <;> (try first | with_reducible rfl | omega | with_reducible assumption | (simp; done)))
        intro q hq
        rcases List.mem_append.1 hq with hq | hq
        · exact hi q hq
        · rw [List.mem_singleton.1 hq]; simpa using hc
    · have hb' : k = p.kids.length := by have : ¬ k < p.kids.length := by simpa using hb
                                         omega
      subst hb'
      rw [List.take_length] at hi h3'
      have hws := widthsR_some hi
      generalize hgw : p.kids.map widthR = ws at hws h3'
      have hwl : ∀ x ∈ ws, 0 ≤ x ∧ x ≤ 12 := by
        intro x hx
        rw [← hgw] at hx
        obtain ⟨q, hq, rfl⟩ := List.mem_map.1 hx
        have := widthR_le q
        have := hi q hq
        omega
      have hwd : widthR p = capW (outF p ws) := by rw [widthR_eq, hws]
      generalize hout : outF p ws = out at hwd
      have hwn : ws.length ≤ 100000 := by rw [← hgw, List.length_map]; exact hkl
      repeat (first | refine nav ?_ | refine bo ?_)
      (refine W_dreg (by decide +kernel) [] [0, 1, 2, 3, 4, 5, 6, 7, 8, 9, 10, 11, 12, 13, 14, 15, 16, 17] [[], [0], [0, 1], [], [3], [3, 4], [4, 3, 5], [], [7], [7, 8], [8, 7, 9], [9, 7, 8, 10], [10, 8, 7, 9, 11], [11, 9, 7, 8, 10, 12], [12, 11, 13, 9, 7, 8, 10], [9, 7, 8, 10, 1, 0, 2], [2, 0, 1, 10, 8, 7, 9, 15, 5, 3, 4, 6], [6, 4, 3, 5, 15, 1, 0, 2, 16, 10, 8, 7, 9, 13, 11, 12, 14]] (by decide +kernel) rfl fun K R hK hR => ?_; simp only [List.filterMap_cons, List.filterMap_nil, List.getElem?_cons_zero, List.getElem?_cons_succ, List.cons_append, List.nil_append]; simp (maxSteps := 10000000) only [go_sem, h3', size_zero]; (try go_ints); (try simp only [go_sem, h3', size_zero]); (repeat refine And.intro side ?_); (first | refine hK _ ?_ | refine hR _ _ ?_); clear hK hR K R)
      repeat (first | refine nav ?_ | refine bo ?_)
      (refine wr fun K R hK hR => ?_; simp (maxSteps := 10000000) only [go_sem]; (try go_ints); (repeat refine And.intro side ?_); (first | refine hK _ ?_ | refine hR _ _ ?_); clear hK hR K R)
      refine seqQ_normal ?_
      unfold outF at hout
      generalize hNZ : decide (p.name.size = 0) = NZ at hout
      generalize hCL : decide ((p.cols.length : Int) > 0) = CL at hout
      generalize hIJ : (p.i != 0 || p.j != 0) = IJ at hout
      have hlw : (ints ws).length = ws.length := ints_len ws
      refine W_join 44 235 [9] (fun t o => t 9 = .i .i64 out ∧ o = [Ob.cells 7 [[AV.i .i64 p.kind, .i .i64 p.width, .i .i64 p.i, .i .i64 p.j, .s p.name, .sl 1 (ints p.cols), .sl 7 (plans p.kids)]]]) ?_ ?_
      · repeat (first | refine nav ?_ | refine bo ?_)
        (refine wr fun K R hK hR => ?_; simp (maxSteps := 10000000) only [go_sem, h3', hlw]; (try go_ints); (try simp only [go_sem, h3', hlw]); (repeat refine And.intro side ?_); (first | refine hK _ ?_ | refine hR _ _ ?_); clear hK hR K R)
        refine RL_callDg rfl (by simp only [go_sem] <;> exact rfl) (fun e => rname_spec p.name hp.name) rfl rfl rfl (fun e => by (try simp only [go_sem] at e); simp only [go_sem, e] <;> (try simp only [go_sem]) <;> first | exact LeA.refl _ | exact Le.refl _) rfl rfl ?_
        (refine rr fun K R hK hR => ?_; simp (maxSteps := 10000000) only [go_sem]; (try go_ints); (repeat refine And.intro side ?_); (first | refine hK _ ?_ | refine hR _ _ ?_); clear hK hR K R)
        repeat (first | refine nav ?_ | refine bo ?_)
        refine W_cond (by simp only [go_sem] <;> exact rfl) (fun hb => ?_) (fun hb => ?_)
        · rw [if_pos (by simpa only [Bool.and_assoc] using hb)] at hout
          subst hout
          repeat (first | refine nav ?_ | refine bo ?_)
          (refine wr fun K R hK hR => ?_; simp (maxSteps := 10000000) only [go_sem]; (try go_ints); (repeat refine And.intro side ?_); (first | refine hK _ ?_ | refine hR _ _ ?_); clear hK hR K R)
          repeat (first | refine nav ?_ | refine bo ?_)
          exact joinQ_normal ⟨by simp only [go_sem], rfl⟩
        rw [if_neg (by rw [Bool.not_eq_true]; simpa only [Bool.and_assoc] using hb)] at hout
        clear hb
        repeat (first | refine nav ?_ | refine bo ?_)
        (refine wr fun K R hK hR => ?_; simp (maxSteps := 10000000) only [go_sem, h3', hlw]; (try go_ints); (try simp only [go_sem, h3', hlw]); (repeat refine And.intro side ?_); (first | refine hK _ ?_ | refine hR _ _ ?_); clear hK hR K R)
        repeat (first | refine nav ?_ | refine bo ?_)
        refine W_cond (by simp only [go_sem] <;> exact rfl) (fun hb => ?_) (fun hb => ?_)
        · rw [if_pos (by simpa only [Bool.and_assoc] using hb)] at hout
          subst hout
          repeat (first | refine nav ?_ | refine bo ?_)
          (refine wr fun K R hK hR => ?_; simp (maxSteps := 10000000) only [go_sem]; (try go_ints); (repeat refine And.intro side ?_); (first | refine hK _ ?_ | refine hR _ _ ?_); clear hK hR K R)
          repeat (first | refine nav ?_ | refine bo ?_)
          exact joinQ_normal ⟨by simp only [go_sem], rfl⟩
        rw [if_neg (by rw [Bool.not_eq_true]; simpa only [Bool.and_assoc] using hb)] at hout
        clear hb
        repeat (first | refine nav ?_ | refine bo ?_)
        (refine W_part [] 9 fun R hR => ?_; simp (maxSteps := 10000000) only [go_sem, h3']; (try go_ints); (try simp only [go_sem, h3']); (repeat refine And.intro side ?_); refine hR _ _ ?_; clear hR R)
        generalize (p.kind == 2 || p.kind == 3) = KK at hout ⊢
        (refine rr fun K R hK hR => ?_; simp (maxSteps := 10000000) only [go_sem, h3', hlw]; (try go_ints); (try simp only [go_sem, h3', hlw]); (repeat refine And.intro side ?_); (first | refine hK _ ?_ | refine hR _ _ ?_); clear hK hR K R)
        repeat (first | refine nav ?_ | refine bo ?_)
        refine W_cond (by simp only [go_sem] <;> exact rfl) (fun hb => ?_) (fun hb => ?_)
        · rw [if_pos (by simpa only [Bool.and_assoc] using hb)] at hout
          have hl : ws.length = 1 := by
            simp only [Bool.and_eq_true, beq_iff_eq] at hb; omega
          obtain ⟨a, rfl⟩ := List.length_eq_one_iff.1 hl
          have hpl := places_spec a [p.i, p.j] (by simp)
          rw [show ints [p.i, p.j] = [[.i .i64 p.i], [.i .i64 p.j]] from rfl] at hpl
          have hia : ints [a] = [[.i .i64 a]] := rfl
          simp only [List.getD_cons_zero] at hout
          repeat (first | refine nav ?_ | refine bo ?_)
          (refine W_dreg (by decide +kernel) [] [0, 1, 2, 3, 4, 5, 6, 7, 8] [[], [0], [], [2], [2, 3, 0, 1], [], [5], [5, 6], [6, 5, 7, 1, 0, 3, 2, 4]] (by decide +kernel) rfl fun K R hK hR => ?_; simp only [List.filterMap_cons, List.filterMap_nil, List.getElem?_cons_zero, List.getElem?_cons_succ, List.cons_append, List.nil_append]; simp (maxSteps := 10000000) only [go_sem, h3', hia]; (try go_ints); (try simp only [go_sem, h3', hia]); (repeat refine And.intro side ?_); (first | refine hK _ ?_ | refine hR _ _ ?_); clear hK hR K R)
          refine D_callD (hpl) rfl rfl rfl (by first | (simp only [go_sem] <;> first | exact LeA.refl _ | exact Le.refl _) | exact LeA.refl _) rfl rfl rfl rfl ?_
          (refine D_reg fun K R hK hR => ?_; simp (maxSteps := 10000000) only [go_sem]; (try go_ints); (repeat refine And.intro side ?_); (first | refine hK _ ?_ | refine hR _ _ ?_); clear hK hR K R)
          repeat (first | refine nav ?_ | refine bo ?_)
          refine W_cond (by simp only [go_sem] <;> exact rfl) (fun hc => ?_) (fun hc => ?_)
          · rw [if_pos hc] at hout
            subst hout
            repeat (first | refine nav ?_ | refine bo ?_)
            (refine wr fun K R hK hR => ?_; simp (maxSteps := 10000000) only [go_sem, h3', hia]; (try go_ints); (try simp only [go_sem, h3', hia]); (repeat refine And.intro side ?_); (first | refine hK _ ?_ | refine hR _ _ ?_); clear hK hR K R)
            repeat (first | refine nav ?_ | refine bo ?_)
            exact joinQ_normal ⟨by simp only [go_sem], rfl⟩
          · rw [if_neg (by simp [hc])] at hout
            subst hout
            repeat (first | refine nav ?_ | refine bo ?_)
            exact joinQ_normal ⟨by simp only [go_sem], rfl⟩
        rw [if_neg (by rw [Bool.not_eq_true]; simpa only [Bool.and_assoc] using hb)] at hout
        clear hb
        repeat (first | refine nav ?_ | refine bo ?_)
        (refine wr fun K R hK hR => ?_; simp (maxSteps := 10000000) only [go_sem, h3', hlw]; (try go_ints); (try simp only [go_sem, h3', hlw]); (repeat refine And.intro side ?_); (first | refine hK _ ?_ | refine hR _ _ ?_); clear hK hR K R)
        repeat (first | refine nav ?_ | refine bo ?_)
        refine W_cond (by simp only [go_sem] <;> exact rfl) (fun hb => ?_) (fun hb => ?_)
        · rw [if_pos (by simpa only [Bool.and_assoc] using hb)] at hout
          have hl : ws.length = 2 := by
            simp only [Bool.and_eq_true, beq_iff_eq] at hb; omega
          obtain ⟨a, b, rfl⟩ : ∃ a b, ws = [a, b] := by
            match ws, hl with
            | [a, b], _ => exact ⟨a, b, rfl⟩
          have hia : ints [a, b] = [[.i .i64 a], [.i .i64 b]] := rfl
          have ha := hwl a (by simp)
          have hb := hwl b (by simp)
          simp only [List.getD_cons_zero, List.getD_cons_succ] at hout
          subst hout
          repeat (first | refine nav ?_ | refine bo ?_)
          (refine W_dreg (by decide +kernel) [] [0, 1, 2, 3, 4, 5, 6, 7] [[], [0], [0, 1], [], [3], [3, 4], [4, 3, 5, 1, 0, 2], [2, 0, 1, 5, 3, 4, 6]] (by decide +kernel) rfl fun K R hK hR => ?_; simp only [List.filterMap_cons, List.filterMap_nil, List.getElem?_cons_zero, List.getElem?_cons_succ, List.cons_append, List.nil_append]; simp (maxSteps := 10000000) only [go_sem, h3', hia]; (try go_ints); (try simp only [go_sem, h3', hia]); (repeat refine And.intro side ?_); (first | refine hK _ ?_ | refine hR _ _ ?_); clear hK hR K R)
          repeat (first | refine nav ?_ | refine bo ?_)
          exact joinQ_normal ⟨by simp only [go_sem], rfl⟩
        rw [if_neg (by rw [Bool.not_eq_true]; simpa only [Bool.and_assoc] using hb)] at hout
        clear hb
        repeat (first | refine nav ?_ | refine bo ?_)
        (refine wr fun K R hK hR => ?_; simp (maxSteps := 10000000) only [go_sem, h3', hlw]; (try go_ints); (try simp only [go_sem, h3', hlw]); (repeat refine And.intro side ?_); (first | refine hK _ ?_ | refine hR _ _ ?_); clear hK hR K R)
        repeat (first | refine nav ?_ | refine bo ?_)
        refine W_cond (by simp only [go_sem] <;> exact rfl) (fun hb => ?_) (fun hb => ?_)
        · rw [if_pos (by simpa only [Bool.and_assoc] using hb)] at hout
          have hl : ws.length = 1 := by
            simp only [Bool.and_eq_true, beq_iff_eq] at hb; omega
          obtain ⟨a, rfl⟩ := List.length_eq_one_iff.1 hl
          have hpl := places_spec a p.cols hp.cols
          have hia : ints [a] = [[.i .i64 a]] := rfl
          have hcl := hp.cols
          simp only [List.getD_cons_zero] at hout
          repeat (first | refine nav ?_ | refine bo ?_)
          (refine W_dreg (by decide +kernel) [] [0, 1, 2, 3, 4, 5] [[], [0], [], [2], [2, 3], [3, 2, 4, 0, 1]] (by decide +kernel) rfl fun K R hK hR => ?_; simp only [List.filterMap_cons, List.filterMap_nil, List.getElem?_cons_zero, List.getElem?_cons_succ, List.cons_append, List.nil_append]; simp (maxSteps := 10000000) only [go_sem, h3', hia]; (try go_ints); (try simp only [go_sem, h3', hia]); (repeat refine And.intro side ?_); (first | refine hK _ ?_ | refine hR _ _ ?_); clear hK hR K R)
          refine D_callD (hpl) rfl rfl rfl (by first | (simp only [go_sem] <;> first | exact LeA.refl _ | exact Le.refl _) | exact LeA.refl _) rfl rfl rfl rfl ?_
          (refine D_reg fun K R hK hR => ?_; simp (maxSteps := 10000000) only [go_sem]; (try go_ints); (repeat refine And.intro side ?_); (first | refine hK _ ?_ | refine hR _ _ ?_); clear hK hR K R)
          repeat (first | refine nav ?_ | refine bo ?_)
          refine W_cond (by simp only [go_sem] <;> exact rfl) (fun hc => ?_) (fun hc => ?_)
          · rw [if_pos hc] at hout
            subst hout
            repeat (first | refine nav ?_ | refine bo ?_)
            (refine wr fun K R hK hR => ?_; simp (maxSteps := 10000000) only [go_sem, h3', hia]; (try go_ints); (try simp only [go_sem, h3', hia]); (repeat refine And.intro side ?_); (first | refine hK _ ?_ | refine hR _ _ ?_); clear hK hR K R)
            repeat (first | refine nav ?_ | refine bo ?_)
            exact joinQ_normal ⟨by simp only [go_sem], rfl⟩
          · rw [if_neg (by simp [hc])] at hout
            subst hout
            repeat (first | refine nav ?_ | refine bo ?_)
            exact joinQ_normal ⟨by simp only [go_sem], rfl⟩
        rw [if_neg (by rw [Bool.not_eq_true]; simpa only [Bool.and_assoc] using hb)] at hout
        clear hb
        repeat (first | refine nav ?_ | refine bo ?_)
        (refine W_part [] 9 fun R hR => ?_; simp (maxSteps := 10000000) only [go_sem, h3']; (try go_ints); (try simp only [go_sem, h3']); (repeat refine And.intro side ?_); refine hR _ _ ?_; clear hR R)
        generalize (p.kind == 6 || p.kind == 7) = KK at hout ⊢
        (refine rr fun K R hK hR => ?_; simp (maxSteps := 10000000) only [go_sem, h3', hlw]; (try go_ints); (try simp only [go_sem, h3', hlw]); (repeat refine And.intro side ?_); (first | refine hK _ ?_ | refine hR _ _ ?_); clear hK hR K R)
        repeat (first | refine nav ?_ | refine bo ?_)
        refine W_cond (by simp only [go_sem] <;> exact rfl) (fun hb => ?_) (fun hb => ?_)
        · rw [if_pos (by simpa only [Bool.and_assoc] using hb)] at hout
          have hl : ws.length = 2 := by
            simp only [Bool.and_eq_true, beq_iff_eq] at hb; omega
          obtain ⟨a, b, rfl⟩ : ∃ a b, ws = [a, b] := by
            match ws, hl with
            | [a, b], _ => exact ⟨a, b, rfl⟩
          have hia : ints [a, b] = [[.i .i64 a], [.i .i64 b]] := rfl
          simp only [List.getD_cons_zero, List.getD_cons_succ] at hout
          repeat (first | refine nav ?_ | refine bo ?_)
          (refine W_dreg (by decide +kernel) [] [0, 1, 2, 3, 4, 5, 6] [[], [0], [0, 1], [], [3], [3, 4], [4, 3, 5, 1, 0, 2]] (by decide +kernel) rfl fun K R hK hR => ?_; simp only [List.filterMap_cons, List.filterMap_nil, List.getElem?_cons_zero, List.getElem?_cons_succ, List.cons_append, List.nil_append]; simp (maxSteps := 10000000) only [go_sem, h3', hia]; (try go_ints); (try simp only [go_sem, h3', hia]); (repeat refine And.intro side ?_); (first | refine hK _ ?_ | refine hR _ _ ?_); clear hK hR K R)
          repeat (first | refine nav ?_ | refine bo ?_)
          refine W_cond (by simp only [go_sem] <;> exact rfl) (fun hc => ?_) (fun hc => ?_)
          · rw [if_pos (by simpa using hc)] at hout
            subst hout
            repeat (first | refine nav ?_ | refine bo ?_)
            (refine wr fun K R hK hR => ?_; simp (maxSteps := 10000000) only [go_sem, h3', hia]; (try go_ints); (try simp only [go_sem, h3', hia]); (repeat refine And.intro side ?_); (first | refine hK _ ?_ | refine hR _ _ ?_); clear hK hR K R)
            repeat (first | refine nav ?_ | refine bo ?_)
            exact joinQ_normal ⟨by simp only [go_sem], rfl⟩
          · rw [if_neg (by simpa using hc)] at hout
            subst hout
            repeat (first | refine nav ?_ | refine bo ?_)
            exact joinQ_normal ⟨by simp only [go_sem], rfl⟩
        rw [if_neg (by rw [Bool.not_eq_true]; simpa only [Bool.and_assoc] using hb)] at hout
        subst hout
        repeat (first | refine nav ?_ | refine bo ?_)
        exact joinQ_normal ⟨by simp only [go_sem], rfl⟩
      · rintro t2 o2 ⟨h9, rfl⟩
        repeat (first | refine nav ?_ | refine bo ?_)
        (refine wr fun K R hK hR => ?_; simp (maxSteps := 10000000) only [go_sem, h9]; (try go_ints); (try simp only [go_sem, h9]); (repeat refine And.intro side ?_); (first | refine hK _ ?_ | refine hR _ _ ?_); clear hK hR K R)
        repeat (first | refine nav ?_ | refine bo ?_)
        refine W_cond (b := decide (out < 0) || decide (out > 12)) (by simp only [go_sem] <;> exact rfl) (fun hb => ?_) (fun hb => ?_)
        · repeat (first | refine nav ?_ | refine bo ?_)
          (refine wr fun K R hK hR => ?_; simp (maxSteps := 10000000) only [go_sem]; (try go_ints); (repeat refine And.intro side ?_); (first | refine hK _ ?_ | refine hR _ _ ?_); clear hK hR K R)
          repeat (first | refine nav ?_ | refine bo ?_)
          refine endQ_data (by simp only [go_sem] <;> exact rfl) (Le.of_eq ?_) rfl
          rw [hwd, capW, if_pos (by simpa using hb)]
        · repeat (first | refine nav ?_ | refine bo ?_)
          (refine wr fun K R hK hR => ?_; simp (maxSteps := 10000000) only [go_sem, h9]; (try go_ints); (try simp only [go_sem, h9]); (repeat refine And.intro side ?_); (first | refine hK _ ?_ | refine hR _ _ ?_); clear hK hR K R)
          repeat (first | refine nav ?_ | refine bo ?_)
          refine endQ_data (by simp only [go_sem] <;> exact rfl) (Le.of_eq ?_) rfl
          rw [hwd, capW, if_neg (by simpa using hb)]
end Go.AW
namespace Go.AW
open Go Go.Proofs TyTry Go.IntWalk
set_option linter.unusedSimpArgs false
set_option linter.unusedVariables false
set_option maxRecDepth 10000
set_option maxHeartbeats 1000000
def validR (p : PlanD) : Bool := decide (cntF p ≤ 4000) && decide (deepF p ≤ 1000) && decide (0 ≤ widthR p) && oneW (symsF p)
theorem rvalid_spec (p : PlanD) (hp : p.Ok) (hc : cntF p ≤ 50000) : ACallsD Try.prog 10 [.agg p.cells] (.b (validR p)) := by
  have hcs := count_spec p hp (by omega)
  have hws := rwidth_spec p hp (by omega)
  have hss := rsyms_spec p hp [] .nsl (.inl ⟨rfl, rfl⟩) (by simp; omega)
  have hwl := widthR_le p
  have hdl := deepF_le p
  have hsl := symsF_len p
  rw [List.nil_append] at hss
  rw [PlanD.cells_eq] at hcs hws hss ⊢
  refine ACalls_of' (n := 61) (rs := [.tmp 2]) (show Try.prog.funcs[10]? = some Try.f10 by kernel_rfl) rfl rfl rfl (by simp) (by decide +kernel) ?_
  repeat (first | refine nav ?_ | refine bo ?_)
  (refine wr fun K R hK hR => ?_; simp (maxSteps := 10000000) only [go_sem]; (try go_ints); (repeat refine And.intro side ?_); (first | refine hK _ ?_ | refine hR _ _ ?_); clear hK hR K R)
  repeat (first | refine nav ?_ | refine bo ?_)
  (refine wr fun K R hK hR => ?_; simp (maxSteps := 10000000) only [go_sem]; (try go_ints); (repeat refine And.intro side ?_); (first | refine hK _ ?_ | refine hR _ _ ?_); clear hK hR K R)
  refine RL_callF (hcs) rfl rfl rfl (by first | (simp only [go_sem] <;> first | exact LeA.refl _ | exact Le.refl _) | exact LeA.refl _) rfl rfl ?_
  (refine rr fun K R hK hR => ?_; simp (maxSteps := 10000000) only [go_sem]; (try go_ints); (repeat refine And.intro side ?_); (first | refine hK _ ?_ | refine hR _ _ ?_); clear hK hR K R)
  repeat (first | refine nav ?_ | refine bo ?_)
  (refine wr fun K R hK hR => ?_; simp (maxSteps := 10000000) only [go_sem]; (try go_ints); (repeat refine And.intro side ?_); (first | refine hK _ ?_ | refine hR _ _ ?_); clear hK hR K R)
  refine RL_callDg rfl (by simp only [go_sem] <;> exact rfl) (fun e => hws) rfl rfl rfl (fun e => by (try simp only [go_sem] at e); simp only [go_sem, e] <;> (try simp only [go_sem]) <;> first | exact LeA.refl _ | exact Le.refl _) rfl rfl ?_
  (refine rr fun K R hK hR => ?_; simp (maxSteps := 10000000) only [go_sem]; (try go_ints); (repeat refine And.intro side ?_); (first | refine hK _ ?_ | refine hR _ _ ?_); clear hK hR K R)
  repeat (first | refine nav ?_ | refine bo ?_)
  refine W_cond (by simp only [go_sem] <;> exact rfl) (fun hb => ?_) (fun hb => ?_)
  · repeat (first | refine nav ?_ | refine bo ?_)
    (refine wr fun K R hK hR => ?_; simp (maxSteps := 10000000) only [go_sem]; (try go_ints); (repeat refine And.intro side ?_); (first | refine hK _ ?_ | refine hR _ _ ?_); clear hK hR K R)
    repeat (first | refine nav ?_ | refine bo ?_)
    refine endQ_data (by simp only [go_sem] <;> exact rfl) (Le.of_eq ?_) rfl
    unfold validR
    have : ¬ (cntF p ≤ 4000 ∧ deepF p ≤ 1000 ∧ 0 ≤ widthR p) := by
      simp only [Bool.or_eq_true, decide_eq_true_eq] at hb; omega
    simp only [AV.b.injEq]
    symm
    simp only [Bool.and_eq_false_iff, decide_eq_false_iff_not]
    omega
  · have hh : cntF p ≤ 4000 ∧ deepF p ≤ 1000 ∧ 0 ≤ widthR p := by
      simp only [Bool.or_eq_false_iff, decide_eq_false_iff_not] at hb; omega
    have hv : validR p = oneW (symsF p) := by unfold validR; simp [hh]
    rw [hv]
    repeat (first | refine nav ?_ | refine bo ?_)
    (refine wr fun K R hK hR => ?_; simp (maxSteps := 10000000) only [go_sem]; (try go_ints); (repeat refine And.intro side ?_); (first | refine hK _ ?_ | refine hR _ _ ?_); clear hK hR K R)
    refine RL_callF (hss) rfl rfl rfl (by first | (simp only [go_sem] <;> first | exact LeA.refl _ | exact Le.refl _) | exact LeA.refl _) rfl rfl ?_
    (refine rr fun K R hK hR => ?_; simp (maxSteps := 10000000) only [go_sem]; (try go_ints); (repeat refine And.intro side ?_); (first | refine hK _ ?_ | refine hR _ _ ?_); clear hK hR K R)
    repeat (first | refine nav ?_ | refine bo ?_)
    (refine wr fun K R hK hR => ?_; simp (maxSteps := 10000000) only [go_sem]; (try go_ints); (repeat refine And.intro side ?_); (first | refine hK _ ?_ | refine hR _ _ ?_); clear hK hR K R)
    generalize symsF p = l at *
    repeat (first | refine nav ?_ | refine bo ?_)
    refine W_for 26 61 [6, 7] (fun m t o => ∃ (i : Nat), [Ob.cells 7 [[AV.i .i64 p.kind, .i .i64 p.width, .i .i64 p.i, .i .i64 p.j, .s p.name, .sl 1 (ints p.cols), .sl 7 (plans p.kids)]]] = o ∧ t 6 = .i .i64 i ∧ m = l.length - i ∧ i ≤ l.length ∧ ∀ i' < i, ∀ k < i', clash l i' k = false) l.length
      ⟨0, rfl, by simp only [go_sem] <;> rfl, by omega, by omega, by simp⟩ ?_
    rintro m t o ⟨i, rfl, h6, rfl, hil, hi⟩
    repeat (first | refine nav ?_ | refine bo ?_)
    (refine wr fun K R hK hR => ?_; simp (maxSteps := 10000000) only [go_sem, h6]; (try go_ints); (try simp only [go_sem, h6]); (repeat refine And.intro side ?_); (first | refine hK _ ?_ | refine hR _ _ ?_); clear hK hR K R)
    repeat (first | refine nav ?_ | refine bo ?_)
    refine W_cond (by simp only [go_sem] <;> exact rfl) (fun hb => ?_) (fun hb => ?_)
    · have hil2 : i < l.length := by simpa using hb
      obtain ⟨x, hx⟩ : ∃ x, l[i]? = some x := ⟨_, List.getElem?_eq_getElem hil2⟩
      repeat (first | refine nav ?_ | refine bo ?_)
      (refine wr fun K R hK hR => ?_; simp (maxSteps := 10000000) only [go_sem]; (try go_ints); (repeat refine And.intro side ?_); (first | refine hK _ ?_ | refine hR _ _ ?_); clear hK hR K R)
      repeat (first | refine nav ?_ | refine bo ?_)
      refine W_for 32 61 [7] (fun m t o => ∃ (k : Nat), [Ob.cells 7 [[AV.i .i64 p.kind, .i .i64 p.width, .i .i64 p.i, .i .i64 p.j, .s p.name, .sl 1 (ints p.cols), .sl 7 (plans p.kids)]]] = o ∧ t 7 = .i .i64 k ∧ m = i - k ∧ k ≤ i ∧ ∀ k' < k, clash l i k' = false) i
        ⟨0, rfl, by simp only [go_sem] <;> rfl, by omega, by omega, by simp⟩ ?_
      rintro m t1 o ⟨k, rfl, h7, rfl, hk, hkk⟩
      repeat (first | refine nav ?_ | refine bo ?_)
      (refine wr fun K R hK hR => ?_; simp (maxSteps := 10000000) only [go_sem, h6, h7]; (try go_ints); (try simp only [go_sem, h6, h7]); (repeat refine And.intro side ?_); (first | refine hK _ ?_ | refine hR _ _ ?_); clear hK hR K R)
      repeat (first | refine nav ?_ | refine bo ?_)
      refine W_cond (by simp only [go_sem] <;> exact rfl) (fun hb => ?_) (fun hb => ?_)
      · have hki : k < i := by simpa using hb
        obtain ⟨y, hy⟩ : ∃ y, l[k]? = some y := ⟨_, List.getElem?_eq_getElem (by omega)⟩
        have hcl : clash l i k = (y.1.toList == x.1.toList && y.2 != x.2) := by unfold clash; simp [hx, hy]
        repeat (first | refine nav ?_ | refine bo ?_)
        (refine W_dreg (by decide +kernel) [] [0, 1, 2, 3, 4, 5, 6, 7, 8, 9, 10, 11, 12, 13, 14, 15, 16, 17, 18, 19, 20, 21, 22, 23] [[], [], [1, 0], [0, 1, 2], [2, 1, 0, 3], [], [], [6, 5], [5, 6, 7], [7, 6, 5, 8], [8, 5, 6, 7, 9, 3, 0, 1, 2, 4], [4, 2, 1, 0, 3, 9, 7, 6, 5, 8, 10], [10, 8, 5, 6, 7, 9, 3, 0, 1, 2, 4, 11], [10, 8, 5, 6, 7, 9, 3, 0, 1, 2, 4, 11], [13, 11, 4, 2, 1, 0, 3, 9, 7, 6, 5, 8, 10, 12], [12, 10, 8, 5, 6, 7, 9, 3, 0, 1, 2, 4, 11, 13, 14], [14, 13, 11, 4, 2, 1, 0, 3, 9, 7, 6, 5, 8, 10, 12, 15], [10, 8, 5, 6, 7, 9, 3, 0, 1, 2, 4, 11], [10, 8, 5, 6, 7, 9, 3, 0, 1, 2, 4, 11], [18, 11, 4, 2, 1, 0, 3, 9, 7, 6, 5, 8, 10, 17], [17, 10, 8, 5, 6, 7, 9, 3, 0, 1, 2, 4, 11, 18, 19], [19, 18, 11, 4, 2, 1, 0, 3, 9, 7, 6, 5, 8, 10, 17, 20], [20, 17, 18, 19, 21, 15, 12, 10, 8, 5, 6, 7, 9, 3, 0, 1, 2, 4, 11, 13, 14, 16], [16, 14, 13, 12, 15, 21, 19, 18, 17, 20, 22, 10, 8, 5, 6, 7, 9, 3, 0, 1, 2, 4, 11]] (by decide +kernel) rfl fun K R hK hR => ?_; simp only [List.filterMap_cons, List.filterMap_nil, List.getElem?_cons_zero, List.getElem?_cons_succ, List.cons_append, List.nil_append]; simp (maxSteps := 10000000) only [go_sem, h6, h7, syms_get hx, syms_get hy]; (try go_ints); (try simp only [go_sem, h6, h7, syms_get hx, syms_get hy]); (repeat refine And.intro side ?_); (first | refine hK _ ?_ | refine hR _ _ ?_); clear hK hR K R)
        repeat (first | refine nav ?_ | refine bo ?_)
        refine W_cond (by simp only [go_sem] <;> exact rfl) (fun hc => ?_) (fun hc => ?_)
        · repeat (first | refine nav ?_ | refine bo ?_)
          (refine wr fun K R hK hR => ?_; simp (maxSteps := 10000000) only [go_sem]; (try go_ints); (repeat refine And.intro side ?_); (first | refine hK _ ?_ | refine hR _ _ ?_); clear hK hR K R)
          repeat (first | refine nav ?_ | refine bo ?_)
          refine endQ_data (by simp only [go_sem] <;> exact rfl) (Le.of_eq ?_) rfl
          rw [oneW_false hil2 hki (by rw [hcl]; exact hc)]
        · repeat (first | refine nav ?_ | refine bo ?_)
          (refine wr fun K R hK hR => ?_; simp (maxSteps := 10000000) only [go_sem, h7]; (try go_ints); (try simp only [go_sem, h7]); (repeat refine And.intro side ?_); (first | refine hK _ ?_ | refine hR _ _ ?_); clear hK hR K R)
          refine forQ_normal (i - (k + 1)) (by omega) ⟨k + 1, ?_⟩
          ((try simp only [go_sem]); (repeat' refine And.intro ?_ ?_) <;> (try first | with_reducible rfl | omega | with_reducible assumption | (simp; done)))
          intro k' hk'
          rcases Nat.lt_succ_iff_lt_or_eq.1 hk' with h | rfl
          · exact hkk k' h
          · rw [hcl]; exact hc
      · have hki : k = i := by
          have : ¬ k < i := by simpa using hb
          omega
        subst hki
        repeat (first | refine nav ?_ | refine bo ?_)
        rw [mix_mix rfl]
        (refine wr fun K R hK hR => ?_; simp (maxSteps := 10000000) only [go_sem, h6]; (try go_ints); (try simp only [go_sem, h6]); (repeat refine And.intro side ?_); (first | refine hK _ ?_ | refine hR _ _ ?_); clear hK hR K R)
        repeat (first | refine nav ?_ | refine bo ?_)
        refine forQ_normal (l.length - (k + 1)) (by omega) ⟨k + 1, ?_⟩
        ((try simp only [go_sem]); (repeat' refine And.intro ?_ ?_) <;> (try first | with_reducible rfl | omega | with_reducible assumption | (simp; done)))
        intro i' hi'
        rcases Nat.lt_succ_iff_lt_or_eq.1 hi' with h | rfl
        · exact hi i' h
        · exact hkk
    · have hil2 : i = l.length := by
        have : ¬ i < l.length := by simpa using hb
        omega
      subst hil2
      repeat (first | refine nav ?_ | refine bo ?_)
      (refine wr fun K R hK hR => ?_; simp (maxSteps := 10000000) only [go_sem]; (try go_ints); (repeat refine And.intro side ?_); (first | refine hK _ ?_ | refine hR _ _ ?_); clear hK hR K R)
      repeat (first | refine nav ?_ | refine bo ?_)
      refine endQ_data (by simp only [go_sem] <;> exact rfl) (Le.of_eq ?_) rfl
      rw [oneW_true hi]
end Go.AW
namespace Go.AW
open Go
set_option linter.unusedSimpArgs false
set_option linter.unusedVariables false
instance : LawfulBEq ByteArray where
  eq_of_beq {a b} h := by
    cases a; cases b
    rename_i x y
    have h : (x == y) = true := h
    rw [beq_iff_eq] at h; rw [h]
  rfl {a} := by
    cases a; rename_i x
    show (x == x) = true
    simp
def badN (x : ByteArray × Int) (ws : Names) : Bool := match lookN x.1 ws with | some n => n != x.2 | none => false
def addN (ws : Names) : Names → Option Names
  | [] => some ws
  | x :: r => if badN x ws = true then none else addN (setN x.1 x.2 ws) r
theorem addN_append (l r : Names) : ∀ ws, addN ws (l ++ r) = (addN ws l).bind fun ws' => addN ws' r := by
  induction l with
  | nil => intro ws; rfl
  | cons x l ih =>
    intro ws
    simp only [List.cons_append, addN]
    split
    · rfl
    · exact ih _
theorem lookN_setN (a b : ByteArray) (w : Int) : ∀ ws : Names, lookN a (setN b w ws) = if a = b then some w else lookN a ws
  | [] => by
    simp only [setN, lookN]
    by_cases h : a = b
    · simp [h]
    · rw [if_neg h, if_neg (by simpa using h)]
  | x :: r => by
    simp only [setN]
    by_cases hb : b = x.1
    · rw [if_pos (by simpa using hb)]
      simp only [lookN]
      by_cases h : a = b
      · simp [h]
      · rw [if_neg h, if_neg (by simpa using h), if_neg (by simpa using fun e : a = x.1 => h (e.trans hb.symm))]
    · rw [if_neg (by simpa using hb)]
      simp only [lookN]
      by_cases h : a = x.1
      · rw [if_pos (by simpa using h), if_neg (fun e => hb (e.symm.trans h)), if_pos (by simpa using h)]
      · rw [if_neg (by simpa using h), lookN_setN a b w r]
        split
        · rfl
        · rw [if_neg (by simpa using h)]
theorem addN_some : ∀ (l ws : Names), (addN ws l).isSome = true ↔ (∀ x ∈ l, ∀ v, lookN x.1 ws = some v → v = x.2) ∧ l.Pairwise fun x y => x.1 = y.1 → x.2 = y.2
  | [], ws => by simp [addN]
  | x :: r, ws => by
    simp only [addN, List.pairwise_cons]
    constructor
    · intro h
      split at h
      · cases h
      · rename_i hc
        have hx : ∀ v, lookN x.1 ws = some v → v = x.2 := by
          intro v hv
          unfold badN at hc
          rw [hv] at hc
          simpa using hc
        obtain ⟨h1, h2⟩ := (addN_some r _).1 h
        refine ⟨fun y hy v hv => ?_, fun y hy e => ?_, h2⟩
        · rcases List.mem_cons.1 hy with rfl | hy
          · exact hx v hv
          · by_cases e : y.1 = x.1
            · have := h1 y hy x.2 (by rw [lookN_setN, if_pos e])
              rw [← this]; exact hx v (e ▸ hv)
            · exact h1 y hy v (by rw [lookN_setN, if_neg e]; exact hv)
        · exact h1 y hy x.2 (by rw [lookN_setN, if_pos e.symm])
    · rintro ⟨h1, h2, h3⟩
      rw [if_neg]
      · refine (addN_some r _).2 ⟨fun y hy v hv => ?_, h3⟩
        rw [lookN_setN] at hv
        split at hv
        · rename_i e
          rw [← Option.some.inj hv]; exact h2 y hy e.symm
        · exact h1 y (by simp [hy]) v hv
      · have := h1 x (by simp)
        unfold badN
        cases hv : lookN x.1 ws with
        | none => simp
        | some v => simp [this v hv]
theorem clash_iff (l : Names) (i k : Nat) (hi : i < l.length) (hk : k < l.length) : clash l i k = true ↔ l[k].1 = l[i].1 ∧ l[k].2 ≠ l[i].2 := by
  unfold clash
  simp only [List.getD_eq_getElem?_getD, List.getElem?_eq_getElem hi, List.getElem?_eq_getElem hk, Option.getD_some, Bool.and_eq_true, beq_iff_eq, bne_iff_ne, ByteArray.toList_eq]
  constructor
  · rintro ⟨h, h'⟩
    exact ⟨ByteArray.ext (Array.ext' h), h'⟩
  · rintro ⟨h, h'⟩
    exact ⟨by rw [h], h'⟩
theorem oneW_iff (l : Names) : oneW l = true ↔ l.Pairwise fun x y => x.1 = y.1 → x.2 = y.2 := by
  rw [List.pairwise_iff_getElem]
  unfold oneW
  simp only [List.all_eq_true, List.mem_range, Bool.not_eq_true']
  constructor
  · intro h k i hk hi hki e
    have := h i hi k hki
    rw [← Bool.not_eq_true, clash_iff l i k hi hk] at this
    exact Decidable.byContradiction fun hne => this ⟨e, hne⟩
  · intro h i hi k hki
    rw [← Bool.not_eq_true, clash_iff l i k hi (by omega)]
    rintro ⟨e, hne⟩
    exact hne (h k i (by omega) hi hki e)
theorem addN_oneW (l : Names) : (addN [] l).isSome = oneW l := by
  rw [Bool.eq_iff_iff, addN_some, oneW_iff]
  simp [lookN]
theorem widthsR_cases (l : List PlanD) : widthsR l = if l.all (fun q => decide (0 ≤ widthR q)) then some (l.map widthR) else none := by
  by_cases h : ∀ q ∈ l, ¬ widthR q < 0
  · rw [widthsR_some h, if_pos]
    rw [List.all_eq_true]
    intro q hq
    have := h q hq
    simp; omega
  · have : ∃ q ∈ l, widthR q < 0 := by
      apply Decidable.byContradiction
      intro hn
      exact h fun q hq hlt => hn ⟨q, hq, hlt⟩
    obtain ⟨q, hq, hlt⟩ := this
    rw [widthsR_none hq hlt, if_neg]
    rw [List.all_eq_true]
    intro hall
    have := hall q hq
    simp at this; omega
end Go.AW
namespace Go.AW
open Go
set_option linter.unusedSimpArgs false
set_option linter.unusedVariables false
def lawF (p : PlanD) (lv n : Nat) (ws : Names) : Option (Int × Nat × Names) :=
  if n + cntF p ≤ 4000 ∧ lv + deepF p ≤ 1001 ∧ 0 ≤ widthR p then (addN ws (symsF p)).map fun ws' => (widthR p, n + cntF p, ws') else none
def lawL (l : List PlanD) (lv n : Nat) (ws : Names) : Option (List Int × Nat × Names) :=
  if n + cntL l ≤ 4000 ∧ lv + deepL l ≤ 1001 ∧ l.all (fun q => decide (0 ≤ widthR q)) = true then (addN ws (symsL l)).map fun ws' => (l.map widthR, n + cntL l, ws') else none
theorem walkL_law {lv : Nat} : ∀ (l : List PlanD), (∀ q ∈ l, ∀ n ws, n ≤ 4000 → walkF q lv n ws = lawF q lv n ws) → ∀ n ws, n ≤ 4000 → lv ≤ 1001 → walkL l lv n ws = lawL l lv n ws
  | [], _, n, ws, hn, hlv => by
    unfold lawL
    rw [if_pos (by simp [cntL, deepL]; omega)]
    simp [walkL, symsL, addN, cntL]
  | p :: r, h, n, ws, hn, hlv => by
    simp only [walkL]
    rw [h p (by simp) n ws hn]
    unfold lawF lawL
    simp only [cntL, deepL, symsL, List.all_cons, List.map_cons, Bool.and_eq_true, decide_eq_true_eq, addN_append]
    by_cases hc : n + cntF p ≤ 4000 ∧ lv + deepF p ≤ 1001 ∧ 0 ≤ widthR p
    · rw [if_pos hc]
      cases ha : addN ws (symsF p) with
      | none => simp
      | some ws' =>
        simp only [Option.map_some, Option.bind_some]
        rw [walkL_law r (fun q hq => h q (by simp [hq])) _ ws' (by omega) hlv]
        unfold lawL
        by_cases hd : n + cntF p + cntL r ≤ 4000 ∧ lv + deepL r ≤ 1001 ∧ (r.all fun q => decide (0 ≤ widthR q)) = true
        · rw [if_pos hd, if_pos ⟨by omega, by omega, hc.2.2, hd.2.2⟩]
          cases addN ws' (symsL r) with
          | none => rfl
          | some ws2 => simp only [Option.map_some]; rw [show n + cntF p + cntL r = n + (cntF p + cntL r) by omega]
        · rw [if_neg hd, if_neg (fun hh => hd ⟨by omega, by omega, hh.2.2.2⟩)]
    · rw [if_neg hc, if_neg (fun hh => hc ⟨by omega, by omega, hh.2.2.1⟩)]
theorem capW_eq (x : Int) : (0 ≤ capW x ↔ 0 ≤ x ∧ x ≤ 12) ∧ (0 ≤ x ∧ x ≤ 12 → capW x = x) := by
  unfold capW
  constructor
  · split <;> omega
  · intro h; rw [if_neg (by omega)]
theorem node_law (p : PlanD) (ws : List Int) (hw : ∀ x ∈ ws, 0 ≤ x ∧ x ≤ 12) (hl : ws.length = p.kids.length) (m : Names) (h1 : ¬ (decide (p.kind < 0) || decide (p.kind ≥ 8) || !spareF p || ((p.kids.length : Int) != kidsF p.kind)) = true) :
    finF p ws m = if 0 ≤ capW (outF p ws) then (addN m (if p.kind = 0 then [(p.name, p.width)] else [])).map fun m' => (capW (outF p ws), m') else none := by
  simp only [Bool.or_eq_true, Bool.not_eq_true', not_or, decide_eq_true_eq, Bool.not_eq_false, bne_iff_ne, ne_eq, Decidable.not_not] at h1
  obtain ⟨⟨⟨k0, k8⟩, hs⟩, hk⟩ := h1
  have hcap := capW_eq (outF p ws)
  have fin : ∀ (w : Int) (m' : Names), outF p ws = w → (if (false || decide (w < 0) || decide (w > 12)) = true then none else some (w, m')) = if 0 ≤ capW (outF p ws) then some (capW (outF p ws), m') else none := by
    rintro w m' rfl
    by_cases hc : 0 ≤ outF p ws ∧ outF p ws ≤ 12
    · rw [if_pos (hcap.1.2 hc), hcap.2 hc, if_neg (by simp; omega)]
    · rw [if_neg (fun h => hc (hcap.1.1 h)), if_pos (by simp; omega)]
  have finB : ∀ (w : Int) (m' : Names), outF p ws = -1 → (if (true || decide (w < 0) || decide (w > 12)) = true then none else some (w, m')) = if 0 ≤ capW (outF p ws) then some (capW (outF p ws), m') else none := by
    intro w m' h
    have : ¬ 0 ≤ capW (outF p ws) := fun h2 => by have := hcap.1.1 h2; omega
    rw [if_pos (by simp), if_neg this]
  have hkk : p.kind = 0 ∨ p.kind = 1 ∨ p.kind = 2 ∨ p.kind = 3 ∨ p.kind = 4 ∨ p.kind = 5 ∨ p.kind = 6 ∨ p.kind = 7 := by omega
  unfold spareF at hs
  simp only [Bool.and_eq_true, Bool.or_eq_true, beq_iff_eq, decide_eq_true_eq] at hs
  obtain ⟨⟨⟨s1, s2⟩, s3⟩, s4⟩ := hs
  have one : p.kids.length = 1 → ∃ a, ws = [a] := fun h => List.length_eq_one_iff.1 (by omega)
  have two : p.kids.length = 2 → ∃ a b, ws = [a, b] := fun h => by
    have h2 : ws.length = 2 := by omega
    match ws, h2 with
    | [a, b], _ => exact ⟨a, b, rfl⟩
  rcases hkk with e | e | e | e | e | e | e | e
  · have hk0 : p.kids.length = 0 := by rw [e] at hk; have : kidsF 0 = 0 := rfl; omega
    obtain rfl : ws = [] := List.length_eq_zero_iff.1 (by omega)
    have hij : p.i = 0 ∧ p.j = 0 := by omega
    have hc : p.cols.length = 0 := by omega
    have ho : outF p [] = if nameF p.name = true then p.width else -1 := by
      unfold outF
      simp [e, hij, hc]
    have hf : finF p [] m = if ((!nameF p.name || badN (p.name, p.width) m) || decide (p.width < 0) || decide (p.width > 12)) = true then none else some (p.width, setN p.name p.width m) := by
      unfold finF
      simp only
      rw [if_pos e]; rfl
    rw [hf, if_pos e]
    simp only [addN]
    cases hn : nameF p.name
    · rw [hn] at ho
      simp only [Bool.not_false, Bool.true_or]
      have : ¬ 0 ≤ capW (outF p []) := fun h2 => by have := hcap.1.1 h2; simp at ho; omega
      rw [if_neg this, if_pos trivial]
    · rw [hn] at ho
      simp only [if_true] at ho
      simp only [Bool.not_true, Bool.false_or]
      cases hbb : badN (p.name, p.width) m
      · rw [fin p.width (setN p.name p.width m) ho]
        simp
      · simp
  · have hk0 : p.kids.length = 0 := by rw [e] at hk; have : kidsF 1 = 0 := rfl; omega
    obtain rfl : ws = [] := List.length_eq_zero_iff.1 (by omega)
    have hij : p.i = 0 ∧ p.j = 0 := by omega
    have hc : p.cols.length = 0 := by omega
    have hn : p.name.size = 0 := by omega
    have ho : outF p [] = p.width := by
      unfold outF
      simp [e, hij, hc, hn]
    unfold finF
    simp only [e]
    have := fin p.width m ho
    simpa [addN] using this
  · obtain ⟨a, rfl⟩ := one (by rw [e] at hk; have : kidsF 2 = 1 := rfl; omega)
    have hc : p.cols.length = 0 := by omega
    have hn : p.name.size = 0 := by omega
    have hw0 : p.width = 0 := by omega
    have ho : outF p [a] = if insideF a [p.i, p.j] = true then a else -1 := by
      unfold outF
      simp [e, hc, hn, hw0]
    unfold finF
    simp only [e]
    cases hin : insideF a [p.i, p.j]
    · rw [hin] at ho
      have := finB a m (by simpa using ho)
      simpa [addN, hin] using this
    · rw [hin] at ho
      have := fin a m (by simpa using ho)
      simpa [addN, hin] using this
  · obtain ⟨a, rfl⟩ := one (by rw [e] at hk; have : kidsF 3 = 1 := rfl; omega)
    have hc : p.cols.length = 0 := by omega
    have hn : p.name.size = 0 := by omega
    have hw0 : p.width = 0 := by omega
    have ho : outF p [a] = if insideF a [p.i, p.j] = true then a else -1 := by
      unfold outF
      simp [e, hc, hn, hw0]
    unfold finF
    simp only [e]
    cases hin : insideF a [p.i, p.j]
    · rw [hin] at ho
      have := finB a m (by simpa using ho)
      simpa [addN, hin] using this
    · rw [hin] at ho
      have := fin a m (by simpa using ho)
      simpa [addN, hin] using this
  · obtain ⟨a, b, rfl⟩ := two (by rw [e] at hk; have : kidsF 4 = 2 := rfl; omega)
    have hij : p.i = 0 ∧ p.j = 0 := by omega
    have hc : p.cols.length = 0 := by omega
    have hn : p.name.size = 0 := by omega
    have hw0 : p.width = 0 := by omega
    have ho : outF p [a, b] = a + b := by
      unfold outF
      simp [e, hij, hc, hn, hw0]
    unfold finF
    simp only [e]
    have := fin (a + b) m ho
    simpa [addN] using this
  · obtain ⟨a, rfl⟩ := one (by rw [e] at hk; have : kidsF 5 = 1 := rfl; omega)
    have hij : p.i = 0 ∧ p.j = 0 := by omega
    have hn : p.name.size = 0 := by omega
    have hw0 : p.width = 0 := by omega
    have ho : outF p [a] = if insideF a p.cols = true then (p.cols.length : Int) else -1 := by
      unfold outF
      simp [e, hij, hn, hw0]
    unfold finF
    simp only [e]
    cases hin : insideF a p.cols
    · rw [hin] at ho
      have := finB p.cols.length m (by simpa using ho)
      simpa [addN, hin] using this
    · rw [hin] at ho
      have := fin p.cols.length m (by simpa using ho)
      simpa [addN, hin] using this
  · obtain ⟨a, b, rfl⟩ := two (by rw [e] at hk; have : kidsF 6 = 2 := rfl; omega)
    have hij : p.i = 0 ∧ p.j = 0 := by omega
    have hc : p.cols.length = 0 := by omega
    have hn : p.name.size = 0 := by omega
    have hw0 : p.width = 0 := by omega
    have ho : outF p [a, b] = if a = b then a else -1 := by
      unfold outF
      simp [e, hij, hc, hn, hw0]
    unfold finF
    simp only [e]
    by_cases hab : a = b
    · have := fin a m (by rw [ho, if_pos hab])
      simpa [addN, hab] using this
    · have := finB a m (by rw [ho, if_neg hab])
      simpa [addN, hab] using this
  · obtain ⟨a, b, rfl⟩ := two (by rw [e] at hk; have : kidsF 7 = 2 := rfl; omega)
    have hij : p.i = 0 ∧ p.j = 0 := by omega
    have hc : p.cols.length = 0 := by omega
    have hn : p.name.size = 0 := by omega
    have hw0 : p.width = 0 := by omega
    have ho : outF p [a, b] = if a = b then a else -1 := by
      unfold outF
      simp [e, hij, hc, hn, hw0]
    unfold finF
    simp only [e]
    by_cases hab : a = b
    · have := fin a m (by rw [ho, if_pos hab])
      simpa [addN, hab] using this
    · have := finB a m (by rw [ho, if_neg hab])
      simpa [addN, hab] using this
theorem node_bad (p : PlanD) (ws : List Int) (hl : ws.length = p.kids.length) (h1 : (decide (p.kind < 0) || decide (p.kind ≥ 8) || !spareF p || ((p.kids.length : Int) != kidsF p.kind)) = true) : outF p ws = -1 := by
  have key : ∀ {b : Bool} {x y : Int}, b = false → (if b = true then x else y) = y := by rintro b x y rfl; rfl
  unfold outF
  have hk0 : p.kind = 0 → kidsF p.kind = 0 := fun e => by rw [e]; rfl
  have hk1 : p.kind = 1 → kidsF p.kind = 0 := fun e => by rw [e]; rfl
  have hk2 : p.kind = 2 → kidsF p.kind = 1 := fun e => by rw [e]; rfl
  have hk3 : p.kind = 3 → kidsF p.kind = 1 := fun e => by rw [e]; rfl
  have hk4 : p.kind = 4 → kidsF p.kind = 2 := fun e => by rw [e]; rfl
  have hk5 : p.kind = 5 → kidsF p.kind = 1 := fun e => by rw [e]; rfl
  have hk6 : p.kind = 6 → kidsF p.kind = 2 := fun e => by rw [e]; rfl
  have hk7 : p.kind = 7 → kidsF p.kind = 2 := fun e => by rw [e]; rfl
  simp only [Bool.or_eq_true, Bool.not_eq_true', decide_eq_true_eq, bne_iff_ne, ne_eq] at h1
  unfold spareF at h1
  rw [key, key, key, key, key, key]
  all_goals
    rw [← Bool.not_eq_true]
    intro hc
    simp only [Bool.and_eq_true, Bool.or_eq_true, beq_iff_eq, Bool.not_eq_true', decide_eq_false_iff_not, bne_eq_false_iff_eq, Bool.or_eq_false_iff, Bool.not_not, decide_eq_true_eq] at hc
    simp only [Bool.and_eq_false_iff, Bool.or_eq_false_iff, beq_eq_false_iff_ne, decide_eq_false_iff_not] at h1
    omega
theorem walkF_law : ∀ (p : PlanD) (lv n : Nat) (ws : Names), n ≤ 4000 → walkF p lv n ws = lawF p lv n ws :=
  PlanD.ind fun p ih lv n ws hn => by
    rw [walkF_eq]
    have hbad : badF p lv (n + 1) = ((decide (p.kind < 0) || decide (p.kind ≥ 8) || !spareF p || ((p.kids.length : Int) != kidsF p.kind)) || (decide (((n + 1 : Nat) : Int) > 4000) || decide ((lv : Int) > 1000))) := by
      unfold badF
      cases decide (p.kind < 0) <;> cases decide (p.kind ≥ 8) <;> cases decide (((n + 1 : Nat) : Int) > 4000) <;> cases decide ((lv : Int) > 1000) <;> cases spareF p <;> cases ((p.kids.length : Int) != kidsF p.kind) <;> rfl
    have hcp := cntF_eq p
    have hdp := deepF_eq p
    cases hnb : (decide (((n + 1 : Nat) : Int) > 4000) || decide ((lv : Int) > 1000))
    · simp only [Bool.or_eq_false_iff, decide_eq_false_iff_not] at hnb
      rw [hbad]
      have hnb2 : (decide (((n + 1 : Nat) : Int) > 4000) || decide ((lv : Int) > 1000)) = false := by simp only [Bool.or_eq_false_iff, decide_eq_false_iff_not]; exact hnb
      rw [hnb2, Bool.or_false]
      have hw := widthR_eq p
      rw [widthsR_cases] at hw
      cases hst : (decide (p.kind < 0) || decide (p.kind ≥ 8) || !spareF p || ((p.kids.length : Int) != kidsF p.kind))
      · simp only [Bool.false_eq_true, if_false]
        rw [walkL_law p.kids (fun q hq n ws hn => ih q hq (lv + 1) n ws hn) _ _ (by omega) (by omega)]
        unfold lawL lawF
        have hsym : symsF p = symsL p.kids ++ (if p.kind = 0 then [(p.name, p.width)] else []) := by
          rw [symsF_eq]
          split
          · rename_i e
            have : p.kids = [] := by
              simp only [Bool.or_eq_false_iff, bne_eq_false_iff_eq] at hst
              have h0 : kidsF 0 = 0 := rfl
              rw [e] at hst
              exact List.length_eq_zero_iff.1 (by omega)
            rw [this]; simp [symsL]
          · simp
        by_cases hall : (p.kids.all fun q => decide (0 ≤ widthR q)) = true
        · rw [if_pos hall] at hw
          simp only at hw
          have hwb : ∀ x ∈ p.kids.map widthR, 0 ≤ x ∧ x ≤ 12 := by
            intro x hx
            obtain ⟨q, hq, rfl⟩ := List.mem_map.1 hx
            have := List.all_eq_true.1 hall q hq
            simp only [decide_eq_true_eq] at this
            exact ⟨this, (widthR_le q).2⟩
          have hnl := fun m => node_law p (p.kids.map widthR) hwb (by simp) m (by rw [hst]; simp)
          rw [hsym, addN_append]
          by_cases hc : n + 1 + cntL p.kids ≤ 4000 ∧ lv + 1 + deepL p.kids ≤ 1001
          · rw [if_pos ⟨hc.1, hc.2, hall⟩]
            cases ha : addN ws (symsL p.kids) with
            | none => simp
            | some m =>
              simp only [Option.map_some, Option.bind_some]
              rw [hnl m, ← hw]
              by_cases h0 : 0 ≤ widthR p
              · rw [if_pos h0, if_pos (show n + cntF p ≤ 4000 ∧ lv + deepF p ≤ 1001 ∧ 0 ≤ widthR p from ⟨by omega, by omega, h0⟩)]
                cases addN m (if p.kind = 0 then [(p.name, p.width)] else []) with
                | none => rfl
                | some m2 => simp only [Option.map_some]; rw [show n + 1 + cntL p.kids = n + cntF p by omega]
              · rw [if_neg h0, if_neg (show ¬ (n + cntF p ≤ 4000 ∧ lv + deepF p ≤ 1001 ∧ 0 ≤ widthR p) from fun hh => h0 hh.2.2)]
          · rw [if_neg (fun hh => hc ⟨hh.1, hh.2.1⟩), if_neg (show ¬ (n + cntF p ≤ 4000 ∧ lv + deepF p ≤ 1001 ∧ 0 ≤ widthR p) from fun hh => hc ⟨by omega, by omega⟩)]
        · rw [if_neg (fun hh => hall hh.2.2), if_neg]
          rw [if_neg hall] at hw
          simp only at hw
          omega
      · simp only [if_true]
        unfold lawF
        rw [if_neg]
        rintro ⟨_, _, h0⟩
        rw [hw] at h0
        split at h0
        · omega
        · rename_i l hl
          split at hl
          · obtain rfl := Option.some.inj hl
            rw [node_bad p _ (by simp) hst] at h0
            simp [capW] at h0
          · cases hl
    · have hnb2 : ¬ ((n + 1 : Nat) : Int) ≤ 4000 ∨ ¬ (lv : Int) ≤ 1000 := by
        simp only [Bool.or_eq_true, decide_eq_true_eq] at hnb; omega
      rw [hbad, hnb, Bool.or_true, if_pos rfl]
      unfold lawF
      rw [if_neg]
      omega
theorem walk_valid (p : PlanD) : (walkF p 1 0 []).isSome = validR p := by
  rw [walkF_law p 1 0 [] (by omega)]
  unfold lawF validR
  rw [← addN_oneW]
  by_cases h : 0 + cntF p ≤ 4000 ∧ 1 + deepF p ≤ 1001 ∧ 0 ≤ widthR p
  · rw [if_pos h]
    have e1 : decide (cntF p ≤ 4000) = true := by simp; omega
    have e2 : decide (deepF p ≤ 1000) = true := by simp; omega
    have e3 : decide (0 ≤ widthR p) = true := by simp; omega
    rw [e1, e2, e3]
    cases addN [] (symsF p) <;> rfl
  · rw [if_neg h]
    symm
    simp only [Option.isSome_none, Bool.and_eq_false_iff, decide_eq_false_iff_not]
    omega
theorem walk_val (p : PlanD) {w : Int} {n : Nat} {ws : Names} (h : walkF p 1 0 [] = some (w, n, ws)) : w = widthR p ∧ n = cntF p := by
  rw [walkF_law p 1 0 [] (by omega)] at h
  unfold lawF at h
  split at h
  · cases ha : addN [] (symsF p) with
    | none => rw [ha] at h; cases h
    | some m =>
      rw [ha] at h
      simp only [Option.map_some, Option.some.injEq, Prod.mk.injEq] at h
      omega
  · cases h
end Go.AW
namespace Go.AW
open Go Go.Proofs TyTry Go.IntWalk
set_option linter.unusedSimpArgs false
set_option linter.unusedVariables false
set_option maxRecDepth 10000
set_option maxHeartbeats 1000000
theorem planValid_spec (p : PlanD) (hp : p.Ok) : ACallsD Try.prog 4 [.agg p.cells] (.b true) := by
  have hcx := p.cells_eq
  have hfew := few_spec p hp 3000 (by decide)
  have hpl : plans [p] = [p.cells] := rfl
  rw [hpl] at hfew
  have hrv := rvalid_spec p hp
  have hrw := rwidth_spec p hp
  have hct := count_spec p hp
  have hsm := sm_of_weigh (most := 3000) (by decide) p 0
  have hpv := pvalid_spec p
  have hpw := pwidth_spec p
  have hps := psize_spec p
  have hcnt := weighF_cnt p 0 3000
  rw [hcx] at *
  refine ACalls_of' (n := 40) (rs := [.tmp 2]) (show Try.prog.funcs[4]? = some Try.f4 by kernel_rfl) rfl rfl rfl (by simp) (by decide +kernel) ?_
  repeat (first | refine nav ?_ | refine bo ?_)
  (refine wr fun K R hK hR => ?_; simp (maxSteps := 10000000) only [go_sem]; (try go_ints); (repeat refine And.intro side ?_); (first | refine hK _ ?_ | refine hR _ _ ?_); clear hK hR K R)
  repeat (first | refine nav ?_ | refine bo ?_)
  (refine wr fun K R hK hR => ?_; simp (maxSteps := 10000000) only [go_sem]; (try go_ints); (repeat refine And.intro side ?_); (first | refine hK _ ?_ | refine hR _ _ ?_); clear hK hR K R)
  refine RL_callF (hfew) rfl rfl rfl (by first | (simp only [go_sem] <;> first | exact LeA.refl _ | exact Le.refl _) | exact LeA.refl _) rfl rfl ?_
  (refine rr fun K R hK hR => ?_; simp (maxSteps := 10000000) only [go_sem]; (try go_ints); (repeat refine And.intro side ?_); (first | refine hK _ ?_ | refine hR _ _ ?_); clear hK hR K R)
  repeat (first | refine nav ?_ | refine bo ?_)
  by_cases hw : weighF p 0 3000 ≤ 3000
  · refine W_cond (b := false) (by simp only [go_sem, hw] <;> rfl) (fun hb => by cases hb) (fun hb => ?_)
    have hc : cntF p ≤ 3000 := by have := hcnt hw; omega
    replace hrv := hrv (by omega)
    replace hrw := hrw (by omega)
    replace hct := hct (by omega)
    replace hsm := hsm hw
    replace hpv := hpv hsm
    replace hpw := hpw hsm
    replace hps := hps hsm
    have hww := walk_valid p
    rw [hww] at hpv
    repeat (first | refine nav ?_ | refine bo ?_)
    (refine wr fun K R hK hR => ?_; simp (maxSteps := 10000000) only [go_sem]; (try go_ints); (repeat refine And.intro side ?_); (first | refine hK _ ?_ | refine hR _ _ ?_); clear hK hR K R)
    repeat (first | refine nav ?_ | refine bo ?_)
    (refine wr fun K R hK hR => ?_; simp (maxSteps := 10000000) only [go_sem]; (try go_ints); (repeat refine And.intro side ?_); (first | refine hK _ ?_ | refine hR _ _ ?_); clear hK hR K R)
    refine RL_callF (hrv) rfl rfl rfl (by first | (simp only [go_sem] <;> first | exact LeA.refl _ | exact Le.refl _) | exact LeA.refl _) rfl rfl ?_
    (refine rr fun K R hK hR => ?_; simp (maxSteps := 10000000) only [go_sem]; (try go_ints); (repeat refine And.intro side ?_); (first | refine hK _ ?_ | refine hR _ _ ?_); clear hK hR K R)
    repeat (first | refine nav ?_ | refine bo ?_)
    (refine wr fun K R hK hR => ?_; simp (maxSteps := 10000000) only [go_sem]; (try go_ints); (repeat refine And.intro side ?_); (first | refine hK _ ?_ | refine hR _ _ ?_); clear hK hR K R)
    repeat (first | refine nav ?_ | refine bo ?_)
    cases hvp : validR p with
    | true =>
      rw [hvp] at hpv hww
      obtain ⟨⟨w, n, ws⟩, hwk⟩ := Option.isSome_iff_exists.1 hww
      obtain ⟨rfl, rfl⟩ := walk_val p hwk
      rw [hwk] at hpw hps
      simp only at hpw hps
      refine W_cond (b := true) (by simp only [go_sem]) (fun hb => ?_) (fun hb => by cases hb)
      repeat (first | refine nav ?_ | refine bo ?_)
      (refine wr fun K R hK hR => ?_; simp (maxSteps := 10000000) only [go_sem]; (try go_ints); (repeat refine And.intro side ?_); (first | refine hK _ ?_ | refine hR _ _ ?_); clear hK hR K R)
      refine RL_callF (hrw) rfl rfl rfl (by first | (simp only [go_sem] <;> first | exact LeA.refl _ | exact Le.refl _) | exact LeA.refl _) rfl rfl ?_
      (refine rr fun K R hK hR => ?_; simp (maxSteps := 10000000) only [go_sem]; (try go_ints); (repeat refine And.intro side ?_); (first | refine hK _ ?_ | refine hR _ _ ?_); clear hK hR K R)
      repeat (first | refine nav ?_ | refine bo ?_)
      (refine wr fun K R hK hR => ?_; simp (maxSteps := 10000000) only [go_sem]; (try go_ints); (repeat refine And.intro side ?_); (first | refine hK _ ?_ | refine hR _ _ ?_); clear hK hR K R)
      refine RL_callF (hct) rfl rfl rfl (by first | (simp only [go_sem] <;> first | exact LeA.refl _ | exact Le.refl _) | exact LeA.refl _) rfl rfl ?_
      (refine rr fun K R hK hR => ?_; simp (maxSteps := 10000000) only [go_sem]; (try go_ints); (repeat refine And.intro side ?_); (first | refine hK _ ?_ | refine hR _ _ ?_); clear hK hR K R)
      repeat (first | refine nav ?_ | refine bo ?_)
      (refine wr fun K R hK hR => ?_; simp (maxSteps := 10000000) only [go_sem]; (try go_ints); (repeat refine And.intro side ?_); (first | refine hK _ ?_ | refine hR _ _ ?_); clear hK hR K R)
      refine RL_callF (hpv) rfl rfl rfl (by first | (simp only [go_sem] <;> first | exact LeA.refl _ | exact Le.refl _) | exact LeA.refl _) rfl rfl ?_
      (refine rr fun K R hK hR => ?_; simp (maxSteps := 10000000) only [go_sem]; (try go_ints); (repeat refine And.intro side ?_); (first | refine hK _ ?_ | refine hR _ _ ?_); clear hK hR K R)
      refine RL_callDg rfl (by simp only [go_sem] <;> exact rfl) (fun e => hpw) rfl rfl rfl (fun e => by (try simp only [go_sem] at e); simp only [go_sem, e] <;> (try simp only [go_sem]) <;> first | exact LeA.refl _ | exact Le.refl _) rfl rfl ?_
      (refine rr fun K R hK hR => ?_; simp (maxSteps := 10000000) only [go_sem]; (try go_ints); (repeat refine And.intro side ?_); (first | refine hK _ ?_ | refine hR _ _ ?_); clear hK hR K R)
      refine RL_callDg rfl (by simp only [go_sem] <;> exact rfl) (fun e => hps) rfl rfl rfl (fun e => by (try simp only [go_sem] at e); simp only [go_sem, e] <;> (try simp only [go_sem]) <;> first | exact LeA.refl _ | exact Le.refl _) rfl rfl ?_
      (refine rr fun K R hK hR => ?_; simp (maxSteps := 10000000) only [go_sem]; (try go_ints); (repeat refine And.intro side ?_); (first | refine hK _ ?_ | refine hR _ _ ?_); clear hK hR K R)
      refine RL_callDg rfl (by simp only [go_sem] <;> exact rfl) (fun e => alive_spec) rfl rfl rfl (fun e => by (try simp only [go_sem] at e); simp only [go_sem, e] <;> (try simp only [go_sem]) <;> first | exact LeA.refl _ | exact Le.refl _) rfl rfl ?_
      (refine rr fun K R hK hR => ?_; simp (maxSteps := 10000000) only [go_sem]; (try go_ints); (repeat refine And.intro side ?_); (first | refine hK _ ?_ | refine hR _ _ ?_); clear hK hR K R)
      repeat (first | refine nav ?_ | refine bo ?_)
      refine endQ_data (by simp only [go_sem] <;> exact rfl) (Le.of_eq ?_) rfl
      rfl
    | false =>
      rw [hvp] at hpv hww
      have hwk : walkF p 1 0 [] = none := by
        cases h : walkF p 1 0 [] with
        | none => rfl
        | some y => rw [h] at hww; cases hww
      rw [hwk] at hpw hps
      simp only at hpw hps
      refine W_cond (b := false) (by simp only [go_sem]) (fun hb => by cases hb) (fun hb => ?_)
      repeat (first | refine nav ?_ | refine bo ?_)
      (refine wr fun K R hK hR => ?_; simp (maxSteps := 10000000) only [go_sem]; (try go_ints); (repeat refine And.intro side ?_); (first | refine hK _ ?_ | refine hR _ _ ?_); clear hK hR K R)
      refine RL_callF (hpv) rfl rfl rfl (by first | (simp only [go_sem] <;> first | exact LeA.refl _ | exact Le.refl _) | exact LeA.refl _) rfl rfl ?_
      (refine rr fun K R hK hR => ?_; simp (maxSteps := 10000000) only [go_sem]; (try go_ints); (repeat refine And.intro side ?_); (first | refine hK _ ?_ | refine hR _ _ ?_); clear hK hR K R)
      refine RL_callDg rfl (by simp only [go_sem] <;> exact rfl) (fun e => hpw) rfl rfl rfl (fun e => by (try simp only [go_sem] at e); simp only [go_sem, e] <;> (try simp only [go_sem]) <;> first | exact LeA.refl _ | exact Le.refl _) rfl rfl ?_
      (refine rr fun K R hK hR => ?_; simp (maxSteps := 10000000) only [go_sem]; (try go_ints); (repeat refine And.intro side ?_); (first | refine hK _ ?_ | refine hR _ _ ?_); clear hK hR K R)
      refine RL_callDg rfl (by simp only [go_sem] <;> exact rfl) (fun e => hps) rfl rfl rfl (fun e => by (try simp only [go_sem] at e); simp only [go_sem, e] <;> (try simp only [go_sem]) <;> first | exact LeA.refl _ | exact Le.refl _) rfl rfl ?_
      (refine rr fun K R hK hR => ?_; simp (maxSteps := 10000000) only [go_sem]; (try go_ints); (repeat refine And.intro side ?_); (first | refine hK _ ?_ | refine hR _ _ ?_); clear hK hR K R)
      refine RL_callDg rfl (by simp only [go_sem] <;> exact rfl) (fun e => alive_spec) rfl rfl rfl (fun e => by (try simp only [go_sem] at e); simp only [go_sem, e] <;> (try simp only [go_sem]) <;> first | exact LeA.refl _ | exact Le.refl _) rfl rfl ?_
      (refine rr fun K R hK hR => ?_; simp (maxSteps := 10000000) only [go_sem]; (try go_ints); (repeat refine And.intro side ?_); (first | refine hK _ ?_ | refine hR _ _ ?_); clear hK hR K R)
      repeat (first | refine nav ?_ | refine bo ?_)
      refine endQ_data (by simp only [go_sem] <;> exact rfl) (Le.of_eq ?_) rfl
      rfl
  · refine W_cond (b := true) (by simp only [go_sem, hw] <;> rfl) (fun hb => ?_) (fun hb => by cases hb)
    repeat (first | refine nav ?_ | refine bo ?_)
    (refine wr fun K R hK hR => ?_; simp (maxSteps := 10000000) only [go_sem]; (try go_ints); (repeat refine And.intro side ?_); (first | refine hK _ ?_ | refine hR _ _ ?_); clear hK hR K R)
    refine RL_callF (alive_spec) rfl rfl rfl (by first | (simp only [go_sem] <;> first | exact LeA.refl _ | exact Le.refl _) | exact LeA.refl _) rfl rfl ?_
    (refine rr fun K R hK hR => ?_; simp (maxSteps := 10000000) only [go_sem]; (try go_ints); (repeat refine And.intro side ?_); (first | refine hK _ ?_ | refine hR _ _ ?_); clear hK hR K R)
    repeat (first | refine nav ?_ | refine bo ?_)
    refine endQ_data (by simp only [go_sem] <;> exact rfl) (Le.of_eq ?_) rfl
    rfl
end Go.AW
namespace Go.AW
open Go Go.Proofs TyTry
set_option linter.unusedSimpArgs false
set_option linter.unusedVariables false
set_option maxRecDepth 100000
def fldsOf (P : Program) (t : TypeId) : Array Field := match P.underlying t with | some (.struct fs) => fs | _ => #[]
theorem undInt : Try.prog.underlying 3 = some (.int .i64) := by kernel_rfl
theorem undStr : Try.prog.underlying 9 = some .string := by kernel_rfl
theorem undInts : Try.prog.underlying 32 = some (.slice 3) := by kernel_rfl
section
variable {H : Type} {w : World} {enc : TypeId × Value → H} {base : Nat} {spare : Nat → Bool} {held : Bool}
def Lite (t : TypeId) (d : DataW H) : Prop := ∀ n ∈ d.weights Try.prog t, n ≤ reachBytes
theorem weightsAll_in {P : Program} {e : TypeId} : ∀ {l : List (DataW H)} {d : DataW H}, d ∈ l → ∀ n ∈ d.weights P e, n ∈ DataW.weightsAll P e l
  | x :: l, d, h, n, hn => by
    simp only [DataW.weightsAll, List.mem_append]
    rcases List.mem_cons.1 h with rfl | h
    · exact .inl hn
    · exact .inr (weightsAll_in h n hn)
theorem read_int {k : Nat} {cs : List Value} {d : DataW H} {ps : List MemPlace} (h : DataW.trod enc Try.prog w base spare held k 3 cs = some (d, ps)) : ∃ n, cellsAV Try.prog k 3 d = [.i .i64 n] := by
  cases k with
  | zero => simp [DataW.trod] at h
  | succ k =>
    unfold DataW.trod at h
    rw [undInt] at h
    rcases cs with _ | ⟨v, _ | ⟨v2, r⟩⟩
    · simp at h
    · cases v <;> simp at h
      obtain ⟨⟨rfl, _⟩, rfl, _⟩ := h
      exact ⟨_, by simp only [cellsAV, undInt]; exact rfl⟩
    · simp at h
theorem read_str {k : Nat} {cs : List Value} {d : DataW H} {ps : List MemPlace} (h : DataW.trod enc Try.prog w base spare held k 9 cs = some (d, ps)) (hw : Lite 9 d) : ∃ x : ByteArray, cellsAV Try.prog k 9 d = [.s x] ∧ x.size ≤ reachBytes := by
  cases k with
  | zero => simp [DataW.trod] at h
  | succ k =>
    unfold DataW.trod at h
    rw [undStr] at h
    rcases cs with _ | ⟨v, _ | ⟨v2, r⟩⟩
    · simp at h
    · cases v with
      | string x =>
        simp only at h
        split at h
        · simp only [Option.some.injEq, Prod.mk.injEq] at h
          obtain ⟨rfl, _⟩ := h
          refine ⟨x, by simp only [cellsAV, undStr], ?_⟩
          have := hw x.data.toList.length (by simp [DataW.weights])
          have e : x.size = x.data.toList.length := by rw [Array.length_toList]; rfl
          omega
        · cases h
      | _ => simp at h
    · simp at h
theorem read_sl {k : Nat} {t e : TypeId} {cs : List Value} {d : DataW H} {ps : List MemPlace} (hu : Try.prog.underlying t = some (.slice e)) (hb : 0 < Try.prog.bytesOf e)
    (h : DataW.trod enc Try.prog w base spare held (k + 1) t cs = some (d, ps)) (hw : Lite t d) :
    ∃ elems : List (DataW H), cellsAV Try.prog (k + 1) t d = [.sl (szOf Try.prog e) (elems.map fun x => cellsAV Try.prog k e x)] ∧ elems.length ≤ reachBytes ∧
      ∀ x ∈ elems, (∃ cells q, DataW.trod enc Try.prog w base spare held k e cells = some (x, q)) ∧ Lite e x := by
  obtain ⟨elems, h1, h2, h3⟩ := read_slice hu h
  rcases h2 with ⟨rfl, rfl⟩ | ⟨sp, rfl⟩
  · exact ⟨[], h1, Nat.zero_le _, fun x hx => by simp at hx⟩
  · refine ⟨elems, h1, ?_, fun x hx => ⟨h3 x hx, fun n hn => hw n ?_⟩⟩
    · have := hw ((elems.length + sp.length) * Try.prog.bytesOf e) (by simp [DataW.weights, hu])
      have h4 : elems.length ≤ (elems.length + sp.length) * Try.prog.bytesOf e :=
        Nat.le_trans (Nat.le_add_right _ _) (Nat.le_mul_of_pos_right _ hb)
      omega
    · simp only [DataW.weights, hu, List.mem_cons, List.mem_append]
      exact .inr (.inl (weightsAll_in hx n hn))
theorem read_map {α β γ : Type} {F : α → γ} {G : β → γ} {Pr : β → Prop} : ∀ {l : List α}, (∀ x ∈ l, ∃ y, F x = G y ∧ Pr y) → ∃ r : List β, l.map F = r.map G ∧ r.length = l.length ∧ ∀ y ∈ r, Pr y
  | [], _ => ⟨[], rfl, rfl, fun y hy => by simp at hy⟩
  | x :: l, h => by
    obtain ⟨r, h1, h2, h3⟩ := read_map (l := l) fun x hx => h x (by simp [hx])
    obtain ⟨y, e1, e2⟩ := h x (by simp)
    refine ⟨y :: r, by simp [h1, e1], by simp [h2], fun z hz => ?_⟩
    rcases List.mem_cons.1 hz with rfl | hz
    · exact e2
    · exact h3 z hz
theorem read_ints {k : Nat} {cs : List Value} {d : DataW H} {ps : List MemPlace} (h : DataW.trod enc Try.prog w base spare held k 32 cs = some (d, ps)) (hw : Lite 32 d) : ∃ l : List Int, cellsAV Try.prog k 32 d = [.sl 1 (ints l)] ∧ l.length ≤ reachBytes := by
  cases k with
  | zero => simp [DataW.trod] at h
  | succ k =>
    obtain ⟨elems, h1, h2, h3⟩ := read_sl undInts (by decide +kernel) h hw
    obtain ⟨r, e1, e2, _⟩ := read_map (F := fun x => cellsAV Try.prog k 3 x) (G := fun n : Int => [AV.i .i64 n]) (Pr := fun _ => True) (l := elems) fun x hx => by
      obtain ⟨⟨cells, q, hq⟩, _⟩ := h3 x hx
      obtain ⟨n, hn⟩ := read_int hq
      exact ⟨n, hn, trivial⟩
    exact ⟨r, by rw [h1, e1, sz3]; rfl, by omega⟩
theorem read_fields {k : Nat} {t : TypeId} {fs : Array Field} {cs : List Value} {d : DataW H} {ps : List MemPlace} (hu : Try.prog.underlying t = some (.struct fs)) (h : DataW.trod enc Try.prog w base spare held (k + 1) t cs = some (d, ps)) (hw : Lite t d) :
    ∃ parts : List (DataW H), cellsAV Try.prog (k + 1) t d = ((fs.toList.map (·.type)).zip parts).flatMap (fun x => cellsAV Try.prog k x.1 x.2) ∧ parts.length = (fs.toList.map (·.type)).length ∧
      ∀ (i : Nat) (e : TypeId) x, (fs.toList.map (·.type))[i]? = some e → parts[i]? = some x → (∃ cells q, DataW.trod enc Try.prog w base spare held k e cells = some (x, q)) ∧ Lite e x := by
  obtain ⟨parts, rfl, h1, h2, h3⟩ := read_struct hu h
  refine ⟨parts, ?_, by simpa using h2, fun i e x hi hx => ?_⟩
  · rw [h1, List.zip_map_left, List.flatMap_map]; rfl
  · have hi' := hi
    rw [List.getElem?_map] at hi
    cases hf : fs.toList[i]? with
    | none => rw [hf] at hi; cases hi
    | some f =>
      rw [hf] at hi
      obtain rfl := Option.some.inj hi
      refine ⟨h3 i f x hf hx, fun n hn => hw n ?_⟩
      simp only [DataW.weights, hu]
      exact DataW.weights_mem_each hi' hx n hn
end
theorem undPlan : Try.prog.underlying 34 = some (.struct (fldsOf Try.prog 34)) := by kernel_rfl
theorem undPlans : Try.prog.underlying 22 = some (.slice 34) := by kernel_rfl
theorem fldsPlan : (fldsOf Try.prog 34).toList.map (·.type) = [3, 3, 3, 3, 9, 32, 22] := by kernel_rfl
theorem read_plan {H : Type} {w : World} {enc : TypeId × Value → H} {base : Nat} {spare : Nat → Bool} {held : Bool} : ∀ (k : Nat) {cs : List Value} {d : DataW H} {ps : List MemPlace}, DataW.trod enc Try.prog w base spare held k 34 cs = some (d, ps) → Lite 34 d → ∃ p : PlanD, cellsAV Try.prog k 34 d = p.cells ∧ p.Ok := by
  intro k
  induction k using Nat.strongRecOn with
  | _ k ih =>
    intro cs d ps h hw
    cases k with
    | zero => simp [DataW.trod] at h
    | succ k =>
      obtain ⟨parts, h1, h2, h3⟩ := read_fields undPlan h hw
      rw [fldsPlan] at h1 h2 h3
      match parts, h2 with
      | [a0, a1, a2, a3, a4, a5, a6], _ =>
        obtain ⟨⟨_, _, q0⟩, w0⟩ := h3 0 3 a0 rfl rfl
        obtain ⟨⟨_, _, q1⟩, w1⟩ := h3 1 3 a1 rfl rfl
        obtain ⟨⟨_, _, q2⟩, w2⟩ := h3 2 3 a2 rfl rfl
        obtain ⟨⟨_, _, q3⟩, w3⟩ := h3 3 3 a3 rfl rfl
        obtain ⟨⟨_, _, q4⟩, w4⟩ := h3 4 9 a4 rfl rfl
        obtain ⟨⟨_, _, q5⟩, w5⟩ := h3 5 32 a5 rfl rfl
        obtain ⟨⟨_, _, q6⟩, w6⟩ := h3 6 22 a6 rfl rfl
        obtain ⟨n0, e0⟩ := read_int q0
        obtain ⟨n1, e1⟩ := read_int q1
        obtain ⟨n2, e2⟩ := read_int q2
        obtain ⟨n3, e3⟩ := read_int q3
        obtain ⟨x, ex, bx⟩ := read_str q4 w4
        obtain ⟨l, el, bl⟩ := read_ints q5 w5
        cases k with
        | zero => simp [DataW.trod] at q6
        | succ k =>
          obtain ⟨elems, g1, g2, g3⟩ := read_sl undPlans (by decide +kernel) q6 w6
          obtain ⟨r, f1, f2, f3⟩ := read_map (F := fun x => cellsAV Try.prog k 34 x) (G := PlanD.cells) (Pr := PlanD.Ok) (l := elems) fun x hx => by
            obtain ⟨⟨cells, q, hq⟩, hl⟩ := g3 x hx
            exact ih k (by omega) hq hl
          have hrb : reachBytes ≤ 1125899906842624 := by decide
          refine ⟨.mk n0 n1 n2 n3 x l r, ?_, .mk _ (Nat.le_trans bx hrb) (Nat.le_trans bl hrb) (by simp only [PlanD.kids]; omega) f3⟩
          rw [h1, PlanD.cells_eq]
          simp only [List.zip_cons_cons, List.zip_nil_right, List.flatMap_cons, List.flatMap_nil, e0, e1, e2, e3, ex, el, g1, f1, sz34]
          rfl
theorem plainInt (k : Nat) : plainT Try.prog k 3 = true := by
  cases k with
  | zero => rfl
  | succ k => unfold plainT; rw [undInt]; exact (by decide +kernel : decide (Try.prog.cellsOf 3 = 1) = true)
theorem plainStr (k : Nat) : plainT Try.prog k 9 = true := by
  cases k with
  | zero => rfl
  | succ k => unfold plainT; rw [undStr]; exact (by decide +kernel : decide (Try.prog.cellsOf 9 = 1) = true)
theorem plainSl {t e : TypeId} (hu : Try.prog.underlying t = some (.slice e)) (h1 : Try.prog.cellsOf t = 1) (h2 : 0 < Try.prog.cellsOf e) (h : ∀ k, plainT Try.prog k e = true) (k : Nat) : plainT Try.prog k t = true := by
  cases k with
  | zero => rfl
  | succ k => unfold plainT; rw [hu]; simp [h1, h2, h k]
theorem plainInts (k : Nat) : plainT Try.prog k 32 = true := plainSl undInts (by decide +kernel) (by decide +kernel) plainInt k
theorem plainPlans : ∀ k, plainT Try.prog k 34 = true ∧ plainT Try.prog k 22 = true := by
  intro k
  induction k with
  | zero => exact ⟨rfl, rfl⟩
  | succ k ih =>
    refine ⟨?_, ?_⟩
    · unfold plainT
      rw [undPlan]
      simp only [Bool.and_eq_true, List.all_eq_true, decide_eq_true_eq]
      refine ⟨fun f hf => ?_, (by decide +kernel : laidF Try.prog 0 (fldsOf Try.prog 34).toList = some (Try.prog.cellsOf 34))⟩
      have he : f.type ∈ (fldsOf Try.prog 34).toList.map (·.type) := List.mem_map_of_mem hf
      rw [fldsPlan] at he
      simp only [List.mem_cons, List.not_mem_nil, or_false] at he
      rcases he with h | h | h | h | h | h | h <;> rw [h]
      · exact plainInt k
      · exact plainInt k
      · exact plainInt k
      · exact plainInt k
      · exact plainStr k
      · exact plainInts k
      · exact ih.2
    · unfold plainT
      rw [undPlans]
      have h1 : Try.prog.cellsOf 22 = 1 := by decide +kernel
      have h2 : 0 < Try.prog.cellsOf 34 := by decide +kernel
      simp [h1, h2, ih.1]
end Go.AW
