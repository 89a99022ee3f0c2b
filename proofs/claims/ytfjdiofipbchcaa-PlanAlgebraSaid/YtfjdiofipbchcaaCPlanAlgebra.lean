/-
The law PlanAlgebra returns true, whatever its arguments, and leaves them as they are. There are no conditions.
-/
import Derived.Test.YtfjdiofipbchcaaRows
import Derived.Test.YtfjdiofipbchcaaKaj
import Derived.Test.YtfjdiofipbchcaaKak
import Derived.WalkKit
import Derived.ProofKit
import Derived.OpenShut
import Derived.ShutString
import Derived.ChangeOld
import Derived.Below
namespace Go.Proofs.Ytfjdiofipbchcaa.planAlgebra
open Go.ChangeShapes Go.WideShapes Go.ChangeAt Go.RowKit
set_option linter.unusedVariables false
theorem own : ownKnob Try.prog.godebug = none:=by kernel_rfl
theorem laidOut : laidOutB Try.prog = true:=by kernel_rfl
theorem params : Try.f3.params = #[22,25,27]:=by kernel_rfl
theorem func : Try.prog.funcs[3]? = some Try.f3:=by kernel_rfl
theorem undBool : Try.prog.underlying 4 = some .bool:=by kernel_rfl
set_option maxRecDepth 100000 in
theorem lifted (os : Os) (started : os.Started) (H : Type) (enc : TypeId × Value → H) :
  ReturnsInHanded {} Try.checked os 3 .any (Rows.planAlgebraSpec.pre6 enc Try.prog Try.f3 Rows.planAlgebraRow.domain false) (Rows.planAlgebraSpec.post enc Try.prog Try.f3 false true false false):=by
 refine returnsInHanded_of_change_sized (C:=Try.checked) own started (by kernel_rfl) func
  (ChangeSpec.witness6 (enc:=enc) (C:=Try.checked) false ⟨#[],#[.slice none 0 0,.agg #[.int .i64 0,.slice none 0 0],.agg #[.int .u8 0,.int .u8 0,.int .u8 0,.int .u8 0]],[]⟩ 8 (by kernel_rfl) (by kernel_rfl) (by kernel_rfl) (by kernel_rfl)) ?_
 intro W base args ds gs before hval0 hW hcnd hsz0 _
 have hsz : (DataW.weightsEach Try.prog (Try.f3.params.toList ++ Rows.planAlgebraSpec.plain.varTypes Try.prog) (ds ++ gs)).all (· ≤ reachBytes) = true:=hsz0
 have hval : ∀ (j : Nat) t v,Try.f3.params[j]? = some t → args[j]? = some v → Value.okWide Try.prog W .any base t v:=hval0
 have hW':=hW
 obtain ⟨pp,qq,hA0,hV,rfl,hfz,hnd⟩:=hW
 have hA : DataW.TrodAll enc Try.prog W 0 (fun _=>true) true Try.f3.params.toList args.toList ds pp:=hA0
 rw [params] at hA hval hsz
 obtain ⟨v0,vs0,d0,ds0,p0,q0,hargs,rfl,rfl,h0,r0⟩:=trodAll_cons hA
 obtain ⟨v1,vs1,d1,ds1,p1,q1,rfl,rfl,rfl,h1,r1⟩:=trodAll_cons r0
 obtain ⟨v2,vs2,d2,ds2,p2,q2,rfl,rfl,rfl,h2,r2⟩:=trodAll_cons r1
 obtain ⟨rfl,rfl,rfl⟩:=trodAll_nil r2
 obtain rfl : args = #[v0,v1,v2]:=by cases args;simp_all
 obtain ⟨rfl,rfl⟩:=trodVars_none hV
 have l0 : AW.Lite 22 d0:=fun n hn=>by
  have:=List.all_eq_true.1 hsz n (DataW.weights_mem_each (j:=0) rfl rfl n hn)
  simpa using this
 have l1 : AW.Lite 25 d1:=fun n hn=>by
  have:=List.all_eq_true.1 hsz n (DataW.weights_mem_each (j:=1) rfl rfl n hn)
  simpa using this
 have l2 : AW.Lite 27 d2:=fun n hn=>by
  have:=List.all_eq_true.1 hsz n (DataW.weights_mem_each (j:=2) rfl rfl n hn)
  simpa using this
 have k0:=h0
 have k1:=h1
 have k2:=h2
 have lt0 : ∀ x ∈ p0,x.block < W.heap.size:=by obtain ⟨m,hm⟩:=k0;exact DataW.trod_lt m _ _ _ hm
 have lt1 : ∀ x ∈ p1,x.block < W.heap.size:=by obtain ⟨m,hm⟩:=k1;exact DataW.trod_lt m _ _ _ hm
 have lt2 : ∀ x ∈ p2,x.block < W.heap.size:=by obtain ⟨m,hm⟩:=k2;exact DataW.trod_lt m _ _ _ hm
 obtain ⟨a0,len0,cap0,rfl⟩:=okWide_slice AW.undPlans (hval 0 22 v0 rfl rfl)
 obtain ⟨cs1,rfl,_⟩:=okWide_struct AW.undStru (hval 1 25 v1 rfl rfl)
 obtain ⟨cs2,rfl,_⟩:=okWide_struct AW.undNum (hval 2 27 v2 rfl rfl)
 obtain ⟨f0,t0⟩:=h0
 obtain ⟨f1,t1⟩:=h1
 obtain ⟨f2,t2⟩:=h2
 obtain ⟨l,e0,g0,b0⟩:=AW.read_plans t0 l0
 obtain ⟨s,e1,g1⟩:=AW.read_stru t1 l1
 obtain ⟨nA,nB,nC,nD,e2,c0,c1,c2,c3⟩:=AW.read_num t2 l2
 have V0:=(AW.trod_Vs enc f0 22 _ _ _ ((AW.plainPlans f0).2) t0).1
 rw [e0] at V0
 have V1:=(AW.trod_Vs enc f1 25 _ _ _ (AW.plainStru f1) t1).1
 rw [e1] at V1
 have V2:=(AW.trod_Vs enc f2 27 _ _ _ (AW.plainNum f2) t2).1
 rw [e2] at V2
 have hv : AW.Vs W AW.YN [] [.sl 7 (AW.plans l),.agg [.i .i64 s.size,.sl 3 (AW.rels s.rels)],.agg [.i .u8 nA,.i .u8 nB,.i .u8 nC,.i .u8 nD]] [.slice a0 len0 cap0,.agg cs1,.agg cs2]:=by
  simp only [AW.Vs]
  refine ⟨_,_,rfl,?_,_,_,rfl,?_,_,_,rfl,?_,rfl⟩
  ·have : (Value.slice a0 len0 cap0).cells.toList = [.slice a0 len0 cap0]:=rfl
   rw [this] at V0
   simp only [AW.Vs] at V0
   obtain ⟨v,t,e1,e2,_⟩:=V0
   simp only [List.cons.injEq] at e1
   rw [e1.1];exact e2
  ·simp only [AW.V]
   exact ⟨cs1,rfl,V1⟩
  ·simp only [AW.V]
   exact ⟨cs2,rfl,V2⟩
 clear hA0 hval0 hsz0 hsz
 refine Calls.mono (AW.calls_of_data (AW.planAlgebra_spec l g0 b0 s g1 nA nB nC nD c0 c1 c2 c3) (rfl) hv) ?_
 rintro e W' ⟨v,rfl,hb,bel⟩
 simp only [AW.V] at hb
 subst hb
 exact ⟨_,rfl,_,_,_,[],_,[],hW',trodAll_mk1 (shut_bool undBool _),trodAll_cons_mk (Below.trod laidOut (by kernel_rfl) (of_decide_eq_true (by kernel_rfl)) k0 bel lt0) (trodAll_cons_mk (Below.trod laidOut (by kernel_rfl) (of_decide_eq_true (by kernel_rfl)) k1 bel lt1) (trodAll_cons_mk (Below.trod laidOut (by kernel_rfl) (of_decide_eq_true (by kernel_rfl)) k2 bel lt2) trodAll_mk0)),rfl,bel.frame _,fun h=>by cases h⟩
theorem over : Rows.planAlgebraRow.holds Try.pinned (OpenSpec.ofChange Rows.planAlgebraSpec) :=
 OpenClaim.holds_of_wide 3 Try.f3 rfl rfl rfl rfl rfl rfl rfl ⟨rfl,rfl,rfl,rfl,rfl⟩ rfl rfl rfl rfl rfl (by kernel_rfl) func (by kernel_rfl)
  (of_decide_eq_true (by kernel_rfl)) (by unfold Func.isWrapper;first | (rw [if_pos (by decide +kernel)];kernel_rfl) | (rw [if_neg (by decide +kernel)];exact ⟨rfl,rfl⟩))
  (fun os started H enc _=>lifted os started H enc)
theorem proved : Rows.PlanAlgebraSaid:=over
end Go.Proofs.Ytfjdiofipbchcaa.planAlgebra
namespace Go.Proofs.Ytfjdiofipbchcaa
theorem planAlgebra_holds : Rows.PlanAlgebraSaid:=planAlgebra.proved
#print axioms planAlgebra_holds
end Go.Proofs.Ytfjdiofipbchcaa
