/-
The law HardMore returns true, whatever its arguments, and leaves them as they are. There are no conditions.
-/
import Derived.Test.YtilaieleaiadeaaRows
import Derived.Test.YtilaieleaiadeaaKal
import Derived.Test.YtilaieleaiadeaaKap
import Derived.WalkKit
import Derived.ProofKit
import Derived.OpenShut
import Derived.ShutString
import Derived.ChangeOld
import Derived.Below
namespace Go.Proofs.Ytilaieleaiadeaa.hardMore
open Go.ChangeShapes Go.WideShapes Go.ChangeAt Go.RowKit
set_option linter.unusedVariables false
theorem own : ownKnob Try.prog.godebug = none := by kernel_rfl
theorem laidOut : laidOutB Try.prog = true := by kernel_rfl
theorem params : Try.f4.params = #[24, 42, 44] := by kernel_rfl
theorem func : Try.prog.funcs[4]? = some Try.f4 := by kernel_rfl
theorem undBool : Try.prog.underlying 4 = some .bool := by kernel_rfl
set_option maxRecDepth 100000 in
theorem lifted (os : Os) (started : os.Started) (H : Type) (enc : TypeId × Value → H) :
  ReturnsInHanded {} Try.checked os 4 .any (Rows.hardMoreSpec.pre6 enc Try.prog Try.f4 Rows.hardMoreRow.domain false) (Rows.hardMoreSpec.post enc Try.prog Try.f4 false true false false) := by
 refine returnsInHanded_of_change_sized (C := Try.checked) own started (by kernel_rfl) func
  (ChangeSpec.witness6 (enc := enc) (C := Try.checked) false ⟨#[], #[.agg #[.int .i64 0, .slice none 0 0], .agg #[.int .i64 0, .slice none 0 0], .agg #[.slice none 0 0, .int .i64 0, .slice none 0 0]], []⟩ 8 (by kernel_rfl) (by kernel_rfl) (by kernel_rfl) (by kernel_rfl)) ?_
 intro W base args ds gs before hval0 hW hcnd hsz0 _
 have hsz : (DataW.weightsEach Try.prog (Try.f4.params.toList ++ Rows.hardMoreSpec.plain.varTypes Try.prog) (ds ++ gs)).all (· ≤ reachBytes) = true := hsz0
 have hval : ∀ (j : Nat) t v, Try.f4.params[j]? = some t → args[j]? = some v → Value.okWide Try.prog W .any base t v := hval0
 have hW' := hW
 obtain ⟨p, q, hA0, hV, rfl, hfz, hnd⟩ := hW
 have hA : DataW.TrodAll enc Try.prog W 0 (fun _ => true) true Try.f4.params.toList args.toList ds p := hA0
 rw [params] at hA hval hsz
 obtain ⟨v0, vs0, d0, ds0, p0, q0, hargs, rfl, rfl, h0, r0⟩ := trodAll_cons hA
 obtain ⟨v1, vs1, d1, ds1, p1, q1, rfl, rfl, rfl, h1, r1⟩ := trodAll_cons r0
 obtain ⟨v2, vs2, d2, ds2, p2, q2, rfl, rfl, rfl, h2, r2⟩ := trodAll_cons r1
 obtain ⟨rfl, rfl, rfl⟩ := trodAll_nil r2
 obtain rfl : args = #[v0, v1, v2] := by cases args; simp_all
 obtain ⟨rfl, rfl⟩ := trodVars_none hV
 have l0 : AW.Lite 24 d0 := fun n hn => by
  have := List.all_eq_true.1 hsz n (DataW.weights_mem_each (j := 0) rfl rfl n hn)
  simpa using this
 have l1 : AW.Lite 42 d1 := fun n hn => by
  have := List.all_eq_true.1 hsz n (DataW.weights_mem_each (j := 1) rfl rfl n hn)
  simpa using this
 have l2 : AW.Lite 44 d2 := fun n hn => by
  have := List.all_eq_true.1 hsz n (DataW.weights_mem_each (j := 2) rfl rfl n hn)
  simpa using this
 have k0 := h0
 have k1 := h1
 have k2 := h2
 have lt0 : ∀ x ∈ p0, x.block < W.heap.size := by obtain ⟨m, hm⟩ := k0; exact DataW.trod_lt m _ _ _ hm
 have lt1 : ∀ x ∈ p1, x.block < W.heap.size := by obtain ⟨m, hm⟩ := k1; exact DataW.trod_lt m _ _ _ hm
 have lt2 : ∀ x ∈ p2, x.block < W.heap.size := by obtain ⟨m, hm⟩ := k2; exact DataW.trod_lt m _ _ _ hm
 obtain ⟨cs, rfl, _⟩ := okWide_struct AW.undStru (hval 0 24 v0 rfl rfl)
 obtain ⟨cs1, rfl, _⟩ := okWide_struct AW.undClau (hval 1 42 v1 rfl rfl)
 obtain ⟨cs2, rfl, _⟩ := okWide_struct AW.undMore (hval 2 44 v2 rfl rfl)
 obtain ⟨f0, t0⟩ := h0
 obtain ⟨f1, t1⟩ := h1
 obtain ⟨f2, t2⟩ := h2
 obtain ⟨s, es, hs⟩ := AW.read_stru t0 l0
 obtain ⟨vars, cls, ec, hc, hc2⟩ := AW.read_clau t1 l1
 obtain ⟨edge, most, clause, em, hm, hm2⟩ := AW.read_more t2 l2
 have V0 := (AW.trod_Vs enc f0 24 _ _ _ (AW.plainStru f0) t0).1
 have V1 := (AW.trod_Vs enc f1 42 _ _ _ (AW.plainClau f1) t1).1
 have V2 := (AW.trod_Vs enc f2 44 _ _ _ (AW.plainMore f2) t2).1
 rw [es] at V0
 rw [ec] at V1
 rw [em] at V2
 have hv : AW.Vs W AW.YN [] [.agg [.i .i64 s.size, .sl 3 (AW.rels s.rels)], .agg [.i .i64 vars, .sl 1 (AW.tups cls)], .agg [.sl 1 (AW.ints edge), .i .i64 most, .sl 1 (AW.ints clause)]] [.agg cs, .agg cs1, .agg cs2] := by
  simp only [AW.Vs]
  refine ⟨_, _, rfl, ?_, _, _, rfl, ?_, _, _, rfl, ?_, rfl⟩
  ·simp only [AW.V]
   exact ⟨cs, rfl, V0⟩
  ·simp only [AW.V]
   exact ⟨cs1, rfl, V1⟩
  ·simp only [AW.V]
   exact ⟨cs2, rfl, V2⟩
 clear hA0 hval0 hsz0 hsz
 refine Calls.mono (AW.calls_of_data (AW.hardMore_spec s hs (Nat.le_trans hc (by decide)) (fun t ht => Nat.le_trans (hc2 t ht) (by decide)) (Nat.le_trans hm (by decide)) (Nat.le_trans hm2 (by decide))) rfl hv) ?_
 rintro e W' ⟨v, rfl, hb, bel⟩
 simp only [AW.V] at hb
 subst hb
 exact ⟨_, rfl, _, _, _, [], _, [], hW', trodAll_mk1 (shut_bool undBool _), trodAll_cons_mk (Below.trod laidOut (by kernel_rfl) (of_decide_eq_true (by kernel_rfl)) k0 bel lt0) (trodAll_cons_mk (Below.trod laidOut (by kernel_rfl) (of_decide_eq_true (by kernel_rfl)) k1 bel lt1) (trodAll_cons_mk (Below.trod laidOut (by kernel_rfl) (of_decide_eq_true (by kernel_rfl)) k2 bel lt2) trodAll_mk0)), rfl, bel.frame _, fun h => by cases h⟩
theorem over : Rows.hardMoreRow.holds Try.pinned (OpenSpec.ofChange Rows.hardMoreSpec) :=
 OpenClaim.holds_of_wide 4 Try.f4 rfl rfl rfl rfl rfl rfl rfl ⟨rfl, rfl, rfl, rfl, rfl⟩ rfl rfl rfl rfl rfl (by kernel_rfl) func (by kernel_rfl)
  (of_decide_eq_true (by kernel_rfl)) (by unfold Func.isWrapper; first | (rw [if_pos (by decide +kernel)]; kernel_rfl) | (rw [if_neg (by decide +kernel)]; exact ⟨rfl, rfl⟩))
  (fun os started H enc _ => lifted os started H enc)
theorem proved : Rows.HardMoreSaid := over
end Go.Proofs.Ytilaieleaiadeaa.hardMore
namespace Go.Proofs.Ytilaieleaiadeaa
theorem hardMore_holds : Rows.HardMoreSaid := hardMore.proved
#print axioms hardMore_holds
end Go.Proofs.Ytilaieleaiadeaa
