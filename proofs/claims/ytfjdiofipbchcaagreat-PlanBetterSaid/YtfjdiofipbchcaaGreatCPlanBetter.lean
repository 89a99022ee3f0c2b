/-
The law PlanBetter returns true, whatever its arguments, and leaves them as they are. There are no conditions.
-/
import Derived.Test.YtfjdiofipbchcaaGreatRows
import Derived.Test.YtfjdiofipbchcaaGreatKai
import Derived.Test.YtfjdiofipbchcaaGreatKak
import Derived.WalkKit
import Derived.ProofKit
import Derived.OpenShut
import Derived.ShutString
import Derived.ChangeOld
import Derived.Below
namespace Go.Proofs.YtfjdiofipbchcaaGreat.planBetter
open Go.ChangeShapes Go.WideShapes Go.ChangeAt Go.RowKit
set_option linter.unusedVariables false
theorem own : ownKnob Tryz.prog.godebug = none:=by kernel_rfl
theorem laidOut : laidOutB Tryz.prog = true:=by kernel_rfl
theorem params : Tryz.f4.params = #[25,28]:=by kernel_rfl
theorem func : Tryz.prog.funcs[4]? = some Tryz.f4:=by kernel_rfl
theorem undBool : Tryz.prog.underlying 4 = some .bool:=by kernel_rfl
set_option maxRecDepth 100000 in
theorem lifted (os : Os) (started : os.Started) (H : Type) (enc : TypeId × Value → H) :
  ReturnsInHanded {} Tryz.checked os 4 .any (Rows.planBetterSpec.pre6 enc Tryz.prog Tryz.f4 Rows.planBetterRow.domain false) (Rows.planBetterSpec.post enc Tryz.prog Tryz.f4 false true false false):=by
 refine returnsInHanded_of_change_sized (C:=Tryz.checked) own started (by kernel_rfl) func
  (ChangeSpec.witness6 (enc:=enc) (C:=Tryz.checked) false ⟨#[],#[.agg #[.int .i64 0,.int .i64 0,.int .i64 0,.int .i64 0,.string ⟨#[]⟩,.slice none 0 0,.slice none 0 0],.agg #[.int .i64 0,.slice none 0 0]],[]⟩ 8 (by kernel_rfl) (by kernel_rfl) (by kernel_rfl) (by kernel_rfl)) ?_
 intro W base args ds gs before hval0 hW hcnd hsz0 _
 have hsz : (DataW.weightsEach Tryz.prog (Tryz.f4.params.toList ++ Rows.planBetterSpec.plain.varTypes Tryz.prog) (ds ++ gs)).all (· ≤ reachBytes) = true:=hsz0
 have hval : ∀ (j : Nat) t v,Tryz.f4.params[j]? = some t → args[j]? = some v → Value.okWide Tryz.prog W .any base t v:=hval0
 have hW':=hW
 obtain ⟨pp,qq,hA0,hV,rfl,hfz,hnd⟩:=hW
 have hA : DataW.TrodAll enc Tryz.prog W 0 (fun _=>true) true Tryz.f4.params.toList args.toList ds pp:=hA0
 rw [params] at hA hval hsz
 obtain ⟨v0,vs0,d0,ds0,p0,q0,hargs,rfl,rfl,h0,r0⟩:=trodAll_cons hA
 obtain ⟨v1,vs1,d1,ds1,p1,q1,rfl,rfl,rfl,h1,r1⟩:=trodAll_cons r0
 obtain ⟨rfl,rfl,rfl⟩:=trodAll_nil r1
 obtain rfl : args = #[v0,v1]:=by cases args;simp_all
 obtain ⟨rfl,rfl⟩:=trodVars_none hV
 have l0 : AW.Lite 25 d0:=fun n hn=>by
  have:=List.all_eq_true.1 hsz n (DataW.weights_mem_each (j:=0) rfl rfl n hn)
  simpa using this
 have l1 : AW.Lite 28 d1:=fun n hn=>by
  have:=List.all_eq_true.1 hsz n (DataW.weights_mem_each (j:=1) rfl rfl n hn)
  simpa using this
 have k0:=h0
 have k1:=h1
 have lt0 : ∀ x ∈ p0,x.block < W.heap.size:=by obtain ⟨m,hm⟩:=k0;exact DataW.trod_lt m _ _ _ hm
 have lt1 : ∀ x ∈ p1,x.block < W.heap.size:=by obtain ⟨m,hm⟩:=k1;exact DataW.trod_lt m _ _ _ hm
 obtain ⟨cs0,rfl,_⟩:=okWide_struct AW.undPlan (hval 0 25 v0 rfl rfl)
 obtain ⟨cs1,rfl,_⟩:=okWide_struct AW.undStru (hval 1 28 v1 rfl rfl)
 obtain ⟨f0,t0⟩:=h0
 obtain ⟨f1,t1⟩:=h1
 obtain ⟨p,e0,g0⟩:=AW.read_plan f0 t0 l0
 obtain ⟨s,e1,g1⟩:=AW.read_stru t1 l1
 have V0:=(AW.trod_Vs enc f0 25 _ _ _ ((AW.plainPlans f0).1) t0).1
 rw [e0] at V0
 have V1:=(AW.trod_Vs enc f1 28 _ _ _ (AW.plainStru f1) t1).1
 rw [e1] at V1
 have hv : AW.Vs W AW.YN [] [.agg p.cells,.agg [.i .i64 s.size,.sl 3 (AW.rels s.rels)]] [.agg cs0,.agg cs1]:=by
  simp only [AW.Vs]
  refine ⟨_,_,rfl,?_,_,_,rfl,?_,rfl⟩
  ·simp only [AW.V]
   exact ⟨cs0,rfl,V0⟩
  ·simp only [AW.V]
   exact ⟨cs1,rfl,V1⟩
 clear hA0 hval0 hsz0 hsz
 refine Calls.mono (AW.calls_of_data (AW.planBetter_spec p g0 s g1) (by rw [p.cells_eq];rfl) hv) ?_
 rintro e W' ⟨v,rfl,hb,bel⟩
 simp only [AW.V] at hb
 subst hb
 exact ⟨_,rfl,_,_,_,[],_,[],hW',trodAll_mk1 (shut_bool undBool _),trodAll_cons_mk (Below.trod laidOut (by kernel_rfl) (of_decide_eq_true (by kernel_rfl)) k0 bel lt0) (trodAll_cons_mk (Below.trod laidOut (by kernel_rfl) (of_decide_eq_true (by kernel_rfl)) k1 bel lt1) trodAll_mk0),rfl,bel.frame _,fun h=>by cases h⟩
theorem over : Rows.planBetterRow.holds Tryz.pinned (OpenSpec.ofChange Rows.planBetterSpec) :=
 OpenClaim.holds_of_wide 4 Tryz.f4 rfl rfl rfl rfl rfl rfl rfl ⟨rfl,rfl,rfl,rfl,rfl⟩ rfl rfl rfl rfl rfl (by kernel_rfl) func (by kernel_rfl)
  (of_decide_eq_true (by kernel_rfl)) (by unfold Func.isWrapper;first | (rw [if_pos (by decide +kernel)];kernel_rfl) | (rw [if_neg (by decide +kernel)];exact ⟨rfl,rfl⟩))
  (fun os started H enc _=>lifted os started H enc)
theorem proved : Rows.PlanBetterSaid:=over
end Go.Proofs.YtfjdiofipbchcaaGreat.planBetter
namespace Go.Proofs.YtfjdiofipbchcaaGreat
theorem planBetter_holds : Rows.PlanBetterSaid:=planBetter.proved
#print axioms planBetter_holds
end Go.Proofs.YtfjdiofipbchcaaGreat
