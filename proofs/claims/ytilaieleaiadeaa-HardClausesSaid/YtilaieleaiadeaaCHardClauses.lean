/-
The law HardClauses returns true, whatever its arguments, and leaves them as they are. There are no conditions.
-/
import Derived.Test.YtilaieleaiadeaaRows
import Derived.Test.YtilaieleaiadeaaKal
import Derived.Test.YtilaieleaiadeaaKap
import Derived.WalkKit
import Derived.ProofKit
import Derived.OpenShut
import Derived.ShutString
import Derived.ChangeOld
import Derived.Below
namespace Go.Proofs.Ytilaieleaiadeaa.hardClauses
open Go.ChangeShapes Go.WideShapes Go.ChangeAt Go.RowKit
set_option linter.unusedVariables false
theorem own : ownKnob Try.prog.godebug = none := by kernel_rfl
theorem laidOut : laidOutB Try.prog = true := by kernel_rfl
theorem params : Try.f5.params = #[42, 51] := by kernel_rfl
theorem func : Try.prog.funcs[5]? = some Try.f5 := by kernel_rfl
theorem undBool : Try.prog.underlying 4 = some .bool := by kernel_rfl
set_option maxRecDepth 100000 in
theorem lifted (os : Os) (started : os.Started) (H : Type) (enc : TypeId × Value → H) :
    ReturnsInHanded {} Try.checked os 5 .any (Rows.hardClausesSpec.pre6 enc Try.prog Try.f5 Rows.hardClausesRow.domain false) (Rows.hardClausesSpec.post enc Try.prog Try.f5 false true false false) := by
  refine returnsInHanded_of_change_sized (C := Try.checked) own started (by kernel_rfl) func
    (ChangeSpec.witness6 (enc := enc) (C := Try.checked) false ⟨#[], #[.agg #[.int .i64 0, .slice none 0 0], .slice none 0 0], []⟩ 8 (by kernel_rfl) (by kernel_rfl) (by kernel_rfl) (by kernel_rfl)) ?_
  intro W base args ds gs before hval0 hW hcnd hsz0 _
  have hsz : (DataW.weightsEach Try.prog (Try.f5.params.toList ++ Rows.hardClausesSpec.plain.varTypes Try.prog) (ds ++ gs)).all (· ≤ reachBytes) = true := hsz0
  have hval : ∀ (j : Nat) t v, Try.f5.params[j]? = some t → args[j]? = some v → Value.okWide Try.prog W .any base t v := hval0
  have hW' := hW
  obtain ⟨p, q, hA0, hV, rfl, hfz, hnd⟩ := hW
  have hA : DataW.TrodAll enc Try.prog W 0 (fun _ => true) true Try.f5.params.toList args.toList ds p := hA0
  rw [params] at hA hval hsz
  obtain ⟨v0, vs0, d0, ds0, p0, q0, hargs, rfl, rfl, h0, r0⟩ := trodAll_cons hA
  obtain ⟨v1, vs1, d1, ds1, p1, q1, rfl, rfl, rfl, h1, r1⟩ := trodAll_cons r0
  obtain ⟨rfl, rfl, rfl⟩ := trodAll_nil r1
  obtain rfl : args = #[v0, v1] := by cases args; simp_all
  obtain ⟨rfl, rfl⟩ := trodVars_none hV
  have l0 : AW.Lite 42 d0 := fun n hn => by
    have := List.all_eq_true.1 hsz n (DataW.weights_mem_each (j := 0) rfl rfl n hn)
    simpa using this
  have l1 : AW.Lite 51 d1 := fun n hn => by
    have := List.all_eq_true.1 hsz n (DataW.weights_mem_each (j := 1) rfl rfl n hn)
    simpa using this
  have k0 := h0
  have k1 := h1
  have lt0 : ∀ x ∈ p0, x.block < W.heap.size := by obtain ⟨m, hm⟩ := k0; exact DataW.trod_lt m _ _ _ hm
  have lt1 : ∀ x ∈ p1, x.block < W.heap.size := by obtain ⟨m, hm⟩ := k1; exact DataW.trod_lt m _ _ _ hm
  obtain ⟨cs, rfl, _⟩ := okWide_struct AW.undClau (hval 0 42 v0 rfl rfl)
  obtain ⟨a1, len1, cap1, rfl⟩ := okWide_slice AW.undBools (hval 1 51 v1 rfl rfl)
  obtain ⟨f0, t0⟩ := h0
  obtain ⟨f1, t1⟩ := h1
  obtain ⟨vars, cls, es, hs, hs2⟩ := AW.read_clau t0 l0
  obtain ⟨l, el, hl⟩ := AW.read_bools t1 l1
  have V0 := (AW.trod_Vs enc f0 42 _ _ _ (AW.plainClau f0) t0).1
  have V1 := (AW.trod_Vs enc f1 51 _ _ _ (AW.plainBools f1) t1).1
  rw [es] at V0
  rw [el] at V1
  have hv : AW.Vs W AW.YN [] [.agg [.i .i64 vars, .sl 1 (AW.tups cls)], .sl 1 (AW.bools l)] [.agg cs, .slice a1 len1 cap1] := by
    simp only [AW.Vs]
    refine ⟨_, _, rfl, ?_, _, _, rfl, ?_, rfl⟩
    · simp only [AW.V]
      exact ⟨cs, rfl, V0⟩
    · have : (Value.slice a1 len1 cap1).cells.toList = [.slice a1 len1 cap1] := rfl
      rw [this] at V1
      simp only [AW.Vs] at V1
      obtain ⟨v, t, e1, e2, _⟩ := V1
      simp only [List.cons.injEq] at e1
      rw [e1.1]; exact e2
  clear hA0 hval0 hsz0 hsz
  refine Calls.mono (AW.calls_of_data (AW.hardClauses_spec (Nat.le_trans hs (by decide)) (fun t ht => Nat.le_trans (hs2 t ht) (by decide)) (Nat.le_trans hl (by decide))) rfl hv) ?_
  rintro e W' ⟨v, rfl, hb, bel⟩
  simp only [AW.V] at hb
  subst hb
  exact ⟨_, rfl, _, _, _, [], _, [], hW', trodAll_mk1 (shut_bool undBool _), trodAll_cons_mk (Below.trod laidOut (by kernel_rfl) (of_decide_eq_true (by kernel_rfl)) k0 bel lt0) (trodAll_cons_mk (Below.trod laidOut (by kernel_rfl) (of_decide_eq_true (by kernel_rfl)) k1 bel lt1) trodAll_mk0), rfl, bel.frame _, fun h => by cases h⟩
theorem over : Rows.hardClausesRow.holds Try.pinned (OpenSpec.ofChange Rows.hardClausesSpec) :=
  OpenClaim.holds_of_wide 5 Try.f5 rfl rfl rfl rfl rfl rfl rfl ⟨rfl, rfl, rfl, rfl, rfl⟩ rfl rfl rfl rfl rfl (by kernel_rfl) func (by kernel_rfl)
    (of_decide_eq_true (by kernel_rfl)) (by unfold Func.isWrapper; first | (rw [if_pos (by decide +kernel)]; kernel_rfl) | (rw [if_neg (by decide +kernel)]; exact ⟨rfl, rfl⟩))
    (fun os started H enc _ => lifted os started H enc)
theorem proved : Rows.HardClausesSaid := over
end Go.Proofs.Ytilaieleaiadeaa.hardClauses
namespace Go.Proofs.Ytilaieleaiadeaa
/-- The row, under a short name, for the claim. -/
theorem hardClauses_holds : Rows.HardClausesSaid := hardClauses.proved
#print axioms hardClauses_holds
end Go.Proofs.Ytilaieleaiadeaa
