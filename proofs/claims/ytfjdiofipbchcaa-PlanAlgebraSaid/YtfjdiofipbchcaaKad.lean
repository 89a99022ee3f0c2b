/-
AW, part Y: a call out of a body, as the caller's state sees it.
-/
import Derived.Test.YtfjdiofipbchcaaKac
import Derived.IntWalk
namespace Go.AW
open Go
set_option linter.unusedSimpArgs false
set_option linter.unusedVariables false
def LeA : List AV → List AV → Prop
 | [],[]=>True
 | a :: l,b :: r=>Le a b ∧ LeA l r
 | _,_=>False
theorem LeA.length : ∀ {a b : List AV},LeA a b → a.length = b.length
 | [],[],_=>rfl
 | [],_ :: _,h=>h.elim
 | _ :: _,[],h=>h.elim
 | _ :: _,_ :: _,h=>by simp only [LeA] at h;simp [LeA.length h.2]
theorem LeA.get : ∀ {a b : List AV},LeA a b → ∀ k,Le (a.getD k .any) (b.getD k .any)
 | [],[],_,k=>by simp;exact .any _
 | [],_ :: _,h,_=>h.elim
 | _ :: _,[],h,_=>h.elim
 | _ :: _,_ :: _,h,0=>by simp only [LeA] at h;simpa using h.1
 | _ :: _,_ :: _,h,k + 1=>by simp only [LeA] at h;simpa using LeA.get h.2 k
def argA (t : Nat → AV) (x : Operand) (c : AV) : AV:=if c.isOwn then opd t x else (ung true (opd t x)).dat
def argT (t : Nat → AV) (x : Operand) (c : AV) : Nat → AV:=if c.isOwn then match x with | .tmp k=>upd t k (t k).dat | _=>t else t
def argVals : List Operand → List AV → (Nat → AV) → List AV
 | x :: xs,c :: cs,t=>argA t x c :: argVals xs cs (argT t x c)
 | _,_,_=>[]
def argDrop : List Operand → List AV → (Nat → AV) → (Nat → AV)
 | x :: xs,c :: cs,t=>argDrop xs cs (argT t x c)
 | _,_,t=>t
def opIn (n : Nat) : Operand → Bool
 | .tmp k=>decide (k < n)
 | _=>true
section
variable {P : Program} {w : World} {Z : CS} {m : List MB} {reg : Pl → Option Reg} {t : Nat → AV} {u : Nat → Value} {o : List Ob}
theorem Rel.undefOwn (h : Rel w Z m reg t u o) {k : Nat} (hk : u k = undef) : (t k).isOwn = false:=by
 cases ht : t k with
 | own sz rows =>
  obtain ⟨a,cap,e,_⟩:=h.own (.t k) sz rows (u k) (by rw [leaf,ht]) rfl
  rw [hk] at e;cases e
 | _=>rfl
structure Filled (w : World) (Z : CS) (m : List MB) (reg : Pl → Option Reg) (t1 : Nat → AV) (u1 : Nat → Value) (o : List Ob) (n S : Nat) (td : Nat → AV) (u : Nat → Value) (X : CS) : Prop where
 rel : Rel w Z m reg t1 u1 o
 sub : ∀ b x,XS m reg o b x → X b x
 low : ∀ k,k < n → t1 k = td k ∧ u1 k = u k
 high : ∀ k,S ≤ k → t1 k = td k ∧ u1 k = u k
theorem Filled.put {t1 td : Nat → AV} {u1 : Nat → Value} {n S : Nat} {X : CS} (h : Filled w Z m reg t1 u1 o n S td u X) (hn : n ≤ S) {a : AV} {v : Value} (hv : V w (YS Z m reg o) m a v) (ha : Light a v) :
  ∃ reg',Filled w Z m reg' (upd t1 S a) (upd u1 S v) o n (S + 1) td u X:=by
 refine ⟨_,h.rel.put S hv ha,?_,?_,?_⟩
 ·rintro b x (k | ⟨p,r,k1,k2⟩)
  ·exact h.sub b x (.inl k)
  ·simp only at k1
   split at k1
   ·cases k1
   ·exact h.sub b x (.inr ⟨p,r,k1,k2⟩)
 ·intro k hk;rw [upd_ne _ _ _ (by omega),upd_ne _ _ _ (by omega)];exact h.low k hk
 ·intro k hk;rw [upd_ne _ _ _ (by omega),upd_ne _ _ _ (by omega)];exact h.high k (by omega)
theorem Filled.arg {t1 td : Nat → AV} {u1 : Nat → Value} {n S : Nat} {X : CS} {a : Act} (hu : u = fun k=>a.tmps.getD k undef) (h : Filled w Z m reg t1 u1 o n S td u X) (hn : n ≤ S) (x : Operand) (c : AV) (hx : opIn n x = true) :
  ∃ reg' t2,Filled w Z m reg' t2 (upd u1 S (a.eval x)) o n (S + 1) (argT td x c) u X ∧ t2 S = argA td x c ∧ ∀ k,n ≤ k → k < S → t2 k = t1 k:=by
 have hop : opd t1 x = opd td x:=by
  cases x with
  | tmp k=>simp only [opIn,decide_eq_true_eq] at hx;exact (h.low k hx).1
  | _=>rfl
 have hev : V w (YS Z m reg o) m (opd t1 x) (a.eval x):=by
  cases x with
  | tmp k =>
   simp only [opIn,decide_eq_true_eq] at hx
   have:=h.rel.tv k
   rw [(h.low k hx).2,hu] at this
   exact this
  | const v=>exact rdc_V ..
  | func f=>simp [opd,V,Act.eval,Vs]
  | global g=>simp [opd,V]
 by_cases hc : c.isOwn = true
 ·cases x with
  | tmp k =>
   have hx : LT.lt (α:=Nat) k n:=by simpa only [opIn,decide_eq_true_eq] using hx
   have hkS : Ne (α:=Nat) k S:=by omega
   have hm:=h.rel.move k S hkS
   have e1 : u1 k = a.eval (.tmp k):=by rw [(h.low k hx).2,hu];rfl
   rw [e1] at hm
   refine ⟨_,_,⟨hm,?_,?_,?_⟩,?_,?_⟩
   ·rintro b y (k' | ⟨p,r,k1,k2⟩)
    ·exact h.sub b y (.inl k')
    ·simp only at k1
     split at k1
     ·exact h.sub b y (.inr ⟨_,r,k1,k2⟩)
     ·split at k1
      ·cases k1
      ·exact h.sub b y (.inr ⟨p,r,k1,k2⟩)
   ·intro j hj
    have hjS : j ≠ S:=by omega
    simp only [argT,hc,if_true]
    obtain ⟨l1,l2⟩:=h.low j hj
    refine ⟨?_,by rw [upd_ne _ _ _ hjS];exact l2⟩
    rw [upd_ne _ _ _ hjS]
    by_cases hjk : j = k
    ·subst hjk;rw [upd_same,upd_same,l1]
    ·rw [upd_ne _ _ _ hjk,upd_ne _ _ _ hjk];exact l1
   ·intro j hj
    have hjS : j ≠ S:=by omega
    have hjk : Ne (α:=Nat) j k:=by omega
    obtain ⟨l1,l2⟩:=h.high j (by omega)
    simp only [argT,hc,if_true]
    refine ⟨?_,by rw [upd_ne _ _ _ hjS];exact l2⟩
    rw [upd_ne _ _ _ hjS,upd_ne _ _ _ hjk,upd_ne _ _ _ hjk];exact l1
   ·simp only [argA,hc,if_true,upd_same]
    exact (h.low k hx).1
   ·intro j h1 h2
    have hjS : j ≠ S:=by omega
    have hjk : Ne (α:=Nat) j k:=by omega
    rw [upd_ne _ _ _ hjS,upd_ne _ _ _ hjk]
  | _ =>
   obtain ⟨reg',hf⟩:=h.put hn hev (by
    refine .inl ?_
    simp only [opd]
    first | rfl | (unfold rdc;split<;>rfl))
   refine ⟨reg',_,by simpa only [argT,hc,if_true] using hf,?_,fun j h1 h2=>upd_ne _ _ _ (by omega)⟩
   simp only [argA,hc,if_true,upd_same,hop]
 ·have hc : c.isOwn = false:=by simpa using hc
  obtain ⟨reg',hf⟩:=h.put hn (V.dat _ _ (ung_V (g:=true) rfl hev)) (.inl (AV.dat_isOwn _))
  refine ⟨reg',_,by simpa only [argT,hc,if_false,Bool.false_eq_true] using hf,?_,fun j h1 h2=>upd_ne _ _ _ (by omega)⟩
  simp only [argA,hc,if_false,Bool.false_eq_true,upd_same,hop]
theorem Filled.args {n : Nat} {X : CS} {a : Act} (hu : u = fun k=>a.tmps.getD k undef) : ∀ (xs : List Operand) (cs : List AV) (reg : Pl → Option Reg) (t1 td : Nat → AV) (u1 : Nat → Value) (S : Nat),
  Filled w Z m reg t1 u1 o n S td u X → n ≤ S → xs.all (opIn n) = true → xs.length = cs.length →
  ∃ reg' t2 u2,Filled w Z m reg' t2 u2 o n (S + xs.length) (argDrop xs cs td) u X ∧
   (∀ (i : Nat) x,xs[i]? = some x → t2 (S + i) = (argVals xs cs td).getD i .any ∧ u2 (S + i) = a.eval x) ∧ ∀ k,n ≤ k → k < S → t2 k = t1 k ∧ u2 k = u1 k
 | [],[],reg,t1,td,u1,S,h,hn,_,_=>⟨reg,t1,u1,h,fun i x h=>by simp at h,fun _ _ _=>⟨rfl,rfl⟩⟩
 | [],_ :: _,_,_,_,_,_,_,_,_,hl=>by simp at hl
 | _ :: _,[],_,_,_,_,_,_,_,_,hl=>by simp at hl
 | x :: xs,c :: cs,reg,t1,td,u1,S,h,hn,hx,hl=>by
  simp only [List.all_cons,Bool.and_eq_true] at hx
  obtain ⟨reg',t2,h2,e1,e2⟩:=h.arg hu hn x c hx.1
  obtain ⟨reg3,t3,u3,h3,e3,e4⟩:=Filled.args hu xs cs reg' t2 (argT td x c) _ (S + 1) h2 (by omega) hx.2 (by simpa using hl)
  refine ⟨reg3,t3,u3,by rw [List.length_cons,show S + (xs.length + 1) = S + 1 + xs.length by omega];exact h3,?_,?_⟩
  ·intro i y hy
   cases i with
   | zero =>
    simp only [List.getElem?_cons_zero,Option.some.injEq] at hy
    subst hy
    obtain ⟨q1,q2⟩:=e4 S hn (by omega)
    refine ⟨by rw [Nat.add_zero,q1,e1];simp [argVals],by rw [Nat.add_zero,q2,upd_same]⟩
   | succ i =>
    simp only [List.getElem?_cons_succ] at hy
    obtain ⟨q1,q2⟩:=e3 i y hy
    rw [show S + (i + 1) = S + 1 + i by omega]
    exact ⟨by rw [q1];simp [argVals],q2⟩
  ·intro k h1 h2
   obtain ⟨q1,q2⟩:=e4 k h1 (by omega)
   exact ⟨by rw [q1,e2 k h1 h2],by rw [q2,upd_ne _ _ _ (by omega)]⟩
theorem Filled.caps {n : Nat} {reg0 : Pl → Option Reg} {td : Nat → AV} : ∀ (cs : List AV) (vs : List Value) (reg : Pl → Option Reg) (t1 : Nat → AV) (u1 : Nat → Value) (S : Nat),
  Filled w Z m reg t1 u1 o n S td u (XS m reg0 o) → n ≤ S → Vs w (YS Z m reg0 o) m cs vs →
  ∃ reg' t2 u2,Filled w Z m reg' t2 u2 o n (S + cs.length) td u (XS m reg0 o) ∧
   (∀ (i : Nat) c v,cs[i]? = some c → vs[i]? = some v → t2 (S + i) = c.dat ∧ u2 (S + i) = v) ∧ ∀ k,n ≤ k → k < S → t2 k = t1 k ∧ u2 k = u1 k
 | [],vs,reg,t1,u1,S,h,hn,hv=>⟨reg,t1,u1,h,fun i x _ h=>by simp at h,fun _ _ _=>⟨rfl,rfl⟩⟩
 | c :: cs,vs,reg,t1,u1,S,h,hn,hv=>by
  simp only [Vs] at hv
  obtain ⟨v,vs',rfl,h1,h2⟩:=hv
  have hK : Keeps w (YS Z m reg0 o) m w (YS Z m reg o) m:=Keeps.sub m fun b x k=>k.imp (h.sub b x) (fun h=>h)
  obtain ⟨reg',hp⟩:=h.put hn (V.dat _ _ (V.keep hK _ _ h1)) (.inl (AV.dat_isOwn _))
  obtain ⟨reg3,t3,u3,h3,e3,e4⟩:=Filled.caps cs vs' reg' _ _ (S + 1) hp (by omega) h2
  refine ⟨reg3,t3,u3,by rw [List.length_cons,show S + (cs.length + 1) = S + 1 + cs.length by omega];exact h3,?_,?_⟩
  ·intro i y z hy hz
   cases i with
   | zero =>
    simp only [List.getElem?_cons_zero,Option.some.injEq] at hy hz
    subst hy hz
    obtain ⟨q1,q2⟩:=e4 S hn (by omega)
    exact ⟨by rw [Nat.add_zero,q1,upd_same],by rw [Nat.add_zero,q2,upd_same]⟩
   | succ i =>
    simp only [List.getElem?_cons_succ] at hy hz
    obtain ⟨q1,q2⟩:=e3 i y z hy hz
    rw [show S + (i + 1) = S + 1 + i by omega]
    exact ⟨q1,q2⟩
  ·intro k h1 h2
   obtain ⟨q1,q2⟩:=e4 k h1 (by omega)
   exact ⟨by rw [q1,upd_ne _ _ _ (by omega)],by rw [q2,upd_ne _ _ _ (by omega)]⟩
theorem Vs.length : ∀ {cs : List AV} {vs : List Value} {w : World} {Y : CS} {m : List MB},Vs w Y m cs vs → cs.length = vs.length
 | [],_,_,_,_,h=>by simp only [Vs] at h;subst h;rfl
 | _ :: _,_,_,_,_,h=>by simp only [Vs] at h;obtain ⟨_,_,rfl,_,h⟩:=h;simp [Vs.length h]
end
def OpW (P : Program) (n : Nat) (o : Oper) (s : St) (K : St → Prop) : Prop :=
 ∀ (g : G) (a : Act) (w : World),g.n = n → At g s a w → o.wp P a w (fun a' w'=>∃ s',K s' ∧ At g s' a' w') (fun _ _ _=>False)
theorem OpW.mono {P : Program} {n : Nat} {o : Oper} {s : St} {K K' : St → Prop} (h : OpW P n o s K) (hk : ∀ s,K s → K' s) : OpW P n o s K' :=
 fun g a w hn hat=>Oper.wp_mono (fun _ _ ⟨s',h1,h2⟩=>⟨s',hk _ h1,h2⟩) (h g a w hn hat)
theorem OpW_step {P : Program} {n : Nat} {o : Oper} {s : St} {K : St → Prop} (tk : List Nat) {s' : St} (h : step1 P n tk o s = (true,s')) (hk : K s') : OpW P n o s K:=by
 intro g a w hn hat
 subst hn
 refine (step1_sound hat (tk:=tk) (by rw [h])).wp fun a' w' h'=>⟨s',hk,?_⟩
 rw [h] at h'
 exact h'
theorem argDrop_high {n k : Nat} (hk : n ≤ k) : ∀ (xs : List Operand) (cs : List AV) (t : Nat → AV),xs.all (opIn n) = true → argDrop xs cs t k = t k
 | [],cs,t,_=>by cases cs<;>rfl
 | x :: xs,[],t,_=>rfl
 | x :: xs,c :: cs,t,h=>by
  simp only [List.all_cons,Bool.and_eq_true] at h
  simp only [argDrop]
  rw [argDrop_high hk xs cs _ h.2]
  unfold argT
  split
  ·cases x with
   | tmp j =>
    have hj : LT.lt (α:=Nat) j n:=by simpa only [opIn,decide_eq_true_eq] using h.1
    have hjk : Ne (α:=Nat) k j:=by omega
    exact upd_ne _ _ _ hjk
   | _=>rfl
  ·rfl
theorem exec_call {P : Program} {w : World} {a : Act} {o : Oper} {c : Call} {x : Operand} {b : Bool} {f : FuncId} {cs : Array Value} (ho : o.op = .call c) (hc : c.callee = .value x) (hx : a.eval x = calV b f cs) (hb : b = true → ∃ y,cs = #[y]) (hk : callOk P f = true) :
  (execOp a.eval o).run P w = .ok (.enter f (rotL undef b (c.args.toList.map a.eval ++ cs.toList)).toArray) w:=by
 unfold execOp
 rw [ho]
 simp only []
 rw [srun_bind]
 unfold resolve
 rw [hc]
 cases b with
 | false =>
  have hx : a.eval x = .func (.func f) #[] cs:=hx
  simp only [hx,Deferred.ofValue,srun_pure]
  show (callFunc f (#[] ++ c.args.map a.eval ++ cs)).run P w = _
  rw [callOk_run hk]
  congr 2
  apply Array.ext'
  simp [rotL]
 | true =>
  obtain ⟨y,rfl⟩:=hb rfl
  have hx : a.eval x = .func (.func f) #[y] #[]:=hx
  simp only [hx,Deferred.ofValue,srun_pure]
  show (callFunc f (#[y] ++ c.args.map a.eval ++ #[])).run P w = _
  rw [callOk_run hk]
  congr 2
  apply Array.ext'
  simp [rotL]
section
variable {P : Program} {n : Nat} {s : St} {K : St → Prop}
theorem OpW_callR {o : Oper} {c : Call} {x : Operand} {b : Bool} {f : FuncId} {caps ac : List AV} {ids : List Nat} {oc : List Ob} {R : AV → List Ob → Prop} (ho : o.op = .call c) (hc : c.callee = .value x)
  (hx : calleeV (ung true (opd s.t x)) = some (b,f,caps)) (hd : dstOk n o.dst = true) (hin : c.args.toList.all (opIn n) = true) (H : Hand s.o ids oc) (hl : c.args.size ≤ ac.length)
  (hle : LeA (argVals c.args.toList (ac.take c.args.size) s.t ++ caps.map AV.dat) (ac.map (AV.ren fun j=>ids.getD j 0))) (hlt : ac.all (AV.ltk ids.length) = true)
  (hk : ACallsR P b f ac oc R)
  (hK : ∀ r o',R r o' → K ((⟨argDrop c.args.toList (ac.take c.args.size) s.t,after s.o ids o'⟩ : St).put o.dst (r.ren (phi ids s.o.length)))) : OpW P n o s K:=by
 intro g a w hn hat
 subst hn
 obtain ⟨⟨m,reg,h1,h2,h3⟩,h4,h5,h6⟩:=hat
 have hxV:=ung_V (g:=true) rfl (opd_V h1.tv x)
 obtain ⟨cs,hxe,hcs,hbc⟩:=calleeV_V hx hxV
 have F0 : Filled w g.Z m reg s.t (fun k=>a.tmps.getD k undef) s.o g.n g.n s.t (fun k=>a.tmps.getD k undef) (XS m reg s.o):=⟨h1,fun _ _ k=>k,fun _ _=>⟨rfl,rfl⟩,fun _ _=>⟨rfl,rfl⟩⟩
 have hl1 : c.args.toList.length = (ac.take c.args.size).length:=by rw [List.length_take,Nat.min_eq_left hl];simp
 obtain ⟨reg2,t2,u2,F1,A1,A2⟩:=Filled.args rfl _ _ _ _ _ _ _ F0 (Nat.le_refl _) hin hl1
 obtain ⟨reg3,t3,u3,F2,B1,B2⟩:=Filled.caps _ _ _ _ _ _ F1 (by omega) hcs
 have hN : ac.length = c.args.toList.length + caps.length:=by
  have:=hle.length
  have hav : ∀ (xs : List Operand) (cs : List AV) (t : Nat → AV),xs.length = cs.length → (argVals xs cs t).length = xs.length:=by
   intro xs
   induction xs with
   | nil=>intro cs t h;simp [argVals]
   | cons x xs ih =>
    intro cs t h
    cases cs with
    | nil=>simp at h
    | cons c cs=>simp only [argVals,List.length_cons];rw [ih _ _ (by simpa using h)]
  rw [List.length_append,hav _ _ _ hl1] at this
  simpa using this.symm
 have havl : (argVals c.args.toList (ac.take c.args.size) s.t).length = c.args.toList.length:=by
  have:=hle.length
  rw [List.length_append,List.length_map,List.length_map,hN] at this
  omega
 have hcl:=Vs.length hcs
 -- the slots of the callee's arguments
 have hval : ∀ i,i < ac.length → Le (t3 (g.n + i)) ((ac.getD i .any).ren fun j=>ids.getD j 0) ∧ u3 (g.n + i) = (c.args.toList.map a.eval ++ cs.toList).getD i undef:=by
  intro i hi
  have hle':=hle.get i
  have e0 : (ac.map (AV.ren fun j=>ids.getD j 0)).getD i .any = (ac.getD i .any).ren fun j=>ids.getD j 0:=by
   simp [List.getElem?_eq_getElem hi]
  rw [e0] at hle'
  by_cases hc1 : i < c.args.toList.length
  ·have hx':=List.getElem?_eq_getElem hc1
   obtain ⟨q1,q2⟩:=A1 i _ hx'
   obtain ⟨q3,q4⟩:=B2 (g.n + i) (by omega) (by omega)
   refine ⟨?_,?_⟩
   ·rw [q3,q1]
    rw [List.getD_eq_getElem?_getD,List.getElem?_append_left (by rw [havl];exact hc1),← List.getD_eq_getElem?_getD] at hle'
    exact hle'
   ·rw [q4,q2,List.getD_eq_getElem?_getD,List.getElem?_append_left (by simpa using hc1),List.getElem?_map,hx'];rfl
  ·have hj : i - c.args.toList.length < caps.length:=by omega
   have hj' : i - c.args.toList.length < cs.toList.length:=by omega
   obtain ⟨q1,q2⟩:=B1 _ _ _ (List.getElem?_eq_getElem hj) (List.getElem?_eq_getElem hj')
   rw [show g.n + c.args.toList.length + (i - c.args.toList.length) = g.n + i by omega] at q1 q2
   refine ⟨?_,?_⟩
   ·rw [q1]
    rw [List.getD_eq_getElem?_getD,List.getElem?_append_right (by omega),havl,List.getElem?_map,List.getElem?_eq_getElem hj] at hle'
    exact hle'
   ·rw [q2,List.getD_eq_getElem?_getD,List.getElem?_append_right (by simp only [List.length_map];omega)]
    simp only [List.length_map]
    rw [List.getElem?_eq_getElem hj'];rfl
 have hr:=F2.rel.weak (t':=fun k=>if g.n ≤ k ∧ k < g.n + ac.length then (ac.getD (k - g.n) .any).ren fun j=>ids.getD j 0 else t3 k) (fun k=>by
  by_cases hk : g.n ≤ k ∧ k < g.n + ac.length
  ·simp only [if_pos hk]
   have:=(hval (k - g.n) (by omega)).1
   rwa [show g.n + (k - g.n) = k by omega] at this
  ·simp only [if_neg hk];exact .refl _)
 have hdown:=hr.down (S:=g.n) (n:=ac.length) (ac:=fun k=>ac.getD k .any) H (fun k hk=>by
  refine ⟨?_,?_⟩
  ·simp only [if_pos (show g.n ≤ g.n + k ∧ g.n + k < g.n + ac.length by omega),show g.n + k - g.n = k by omega]
  ·simp only [List.all_eq_true] at hlt
   rw [List.getD_eq_getElem?_getD,List.getElem?_eq_getElem hk]
   exact hlt _ (List.getElem_mem hk))
 have e1 : (fun k=>if k < ac.length then ac.getD k .any else AV.any) = fun k=>ac.getD k .any:=by
  funext k
  split
  ·rfl
  ·rename_i hk;rw [List.getD_eq_getElem?_getD,List.getElem?_eq_none (Nat.not_lt.1 hk)];rfl
 have e2 : (fun k=>if k < ac.length then u3 (g.n + k) else undef) = fun k=>(c.args.toList.map a.eval ++ cs.toList).getD k undef:=by
  funext k
  split
  ·rename_i hk;exact (hval k hk).2
  ·rename_i hk
   rw [List.getD_eq_getElem?_getD,List.getElem?_eq_none]
   ·rfl
   ·simp only [List.length_append,List.length_map];omega
 rw [e1,e2] at hdown
 unfold Oper.wp
 rw [exec_call ho hc hxe hbc hk.1,Oper.upon_enter]
 refine Calls.mono (hk.2 w _ _ _ _ (by simp only [List.length_append,List.length_map];omega) hdown) ?_
 rintro e w' ⟨v,r,o',m',reg',rfl,hR,k1,k2,k3,k4⟩
 simp only
 have hund : ∀ k,g.n ≤ k → a.tmps.getD k undef = undef:=fun k hk=>by
  rw [Array.getD_eq_getD_getElem?,Array.getElem?_eq_none (by rw [h5];exact hk)];rfl
 have hK0 : Keeps w (YS g.Z m reg s.o) m w (YS g.Z m reg3 s.o) m:=Keeps.sub m fun b x k=>k.imp (F2.sub b x) (fun h=>h)
 have hup:=fun d=>hr.up (d:=d) H k1 k2 k3 k4 (t1:=argDrop c.args.toList (ac.take c.args.size) s.t) (u1:=fun k=>a.tmps.getD k undef)
  (fun k=>by
   by_cases hk : k < g.n
   ·obtain ⟨q1,q2⟩:=F2.low k hk
    rw [← q1,← q2];exact F2.rel.tv k
   ·have hk:=Nat.not_lt.1 hk
    rw [argDrop_high hk _ _ _ hin]
    exact V.keep hK0 _ _ (h1.tv k))
  (fun k sz rows hk hns=>by
   have q : t3 k = argDrop c.args.toList (ac.take c.args.size) s.t k ∧ u3 k = a.tmps.getD k undef:=by
    by_cases hk' : k < g.n
    ·exact F2.low k hk'
    ·exact F2.high k (by omega)
   refine q.2 ▸ hr.own (.t k) sz rows (u3 k) ?_ rfl
   simp only [leaf,if_neg hns]
   rw [q.1,hk])
  (fun k sz rows hk hs=>by
   rw [argDrop_high hs.1 _ _ _ hin] at hk
   have:=h1.undefOwn (hund k hs.1)
   rw [hk] at this;cases this)
 have hXend : ∀ {d : Nat} {reg4 : Pl → Option Reg},(∀ b x,XS (m ++ m'.drop ids.length) reg4 (after s.o ids o') b x → XS m reg3 s.o b x ∨ w.heap.size ≤ b) →
   ∀ b x,XS (m ++ m'.drop ids.length) reg4 (after s.o ids o') b x → g.X b x ∨ g.w.heap.size ≤ b:=by
  intro d reg4 hs b x hx
  rcases hs b x hx with k | k
  ·exact h2 b x (F2.sub b x k)
  ·exact .inr (Nat.le_trans h4.size k)
 have hm : ∀ (id : Nat) mb,g.m[id]? = some mb → (m ++ m'.drop ids.length)[id]? = some mb:=fun id mb hid=>by
  have:=h3 id mb hid
  rw [List.getElem?_append_left (List.getElem?_eq_some_iff.1 this).1];exact this
 refine ⟨_,hK r o' hR,?_⟩
 cases hdst : o.dst with
 | some d =>
  obtain ⟨q1,q2,q3⟩:=hup d
  rw [hdst] at hd
  refine At.mk' (m:=m ++ m'.drop ids.length) ?_ (hXend (d:=d) q3) hm (h4.trans q2 fun b x k=>h2 b x (F2.sub b x k)) (by rw [put_size,h5]) (by rw [put_defers,h6])
  rw [put_getD a d v (by rw [h5];simpa [dstOk] using hd)]
  exact q1
 | none =>
  obtain ⟨q1,q2,q3⟩:=hup g.n
  have q4:=q1.put g.n (av:=argDrop c.args.toList (ac.take c.args.size) s.t g.n) (v:=a.tmps.getD g.n undef) (by
   rw [argDrop_high (Nat.le_refl _) _ _ _ hin,hund _ (Nat.le_refl _)]
   have:=h1.tv g.n
   rw [hund _ (Nat.le_refl _)] at this
   exact V.keep ⟨fun b x v hc hy=>⟨q2.cell b x v (fun k=>hy (.inl (F2.sub b x k))) hc,fun k=>by
    rcases k with k | k
    ·rcases q3 b x k with k | k
     ·exact hy (.inl (F2.sub b x k))
     ·have:=cell_lt hc;omega
    ·exact hy (.inr k)⟩,fun id mb hid=>by rw [List.getElem?_append_left (List.getElem?_eq_some_iff.1 hid).1];exact hid⟩ _ _ this)
   (.inl (by rw [argDrop_high (Nat.le_refl _) _ _ _ hin];exact h1.undefOwn (hund _ (Nat.le_refl _))))
  rw [upd_upd,upd_upd,upd_self,upd_self] at q4
  refine At.mk' (m:=m ++ m'.drop ids.length) q4 (hXend (d:=0) ?_) hm (h4.trans q2 fun b x k=>h2 b x (F2.sub b x k)) h5 h6
  rintro b x (k | ⟨p,rg,e1,e2⟩)
  ·exact q3 b x (.inl k)
  ·simp only at e1
   split at e1
   ·cases e1
   ·exact q3 b x (.inr ⟨p,rg,e1,e2⟩)
theorem OpW_call {o : Oper} {c : Call} {x : Operand} {f : FuncId} {caps ac : List AV} {ids : List Nat} {oc : List Ob} {R : AV → List Ob → Prop} (ho : o.op = .call c) (hc : c.callee = .value x)
  (hx : ung true (opd s.t x) = .fn f caps) (hd : dstOk n o.dst = true) (hin : c.args.toList.all (opIn n) = true) (H : Hand s.o ids oc) (hl : c.args.size ≤ ac.length)
  (hle : LeA (argVals c.args.toList (ac.take c.args.size) s.t ++ caps.map AV.dat) (ac.map (AV.ren fun j=>ids.getD j 0))) (hlt : ac.all (AV.ltk ids.length) = true)
  (hk : ACalls P f ac oc R)
  (hK : ∀ r o',R r o' → K ((⟨argDrop c.args.toList (ac.take c.args.size) s.t,after s.o ids o'⟩ : St).put o.dst (r.ren (phi ids s.o.length)))) : OpW P n o s K :=
 OpW_callR (b:=false) ho hc (by rw [hx];rfl) hd hin H hl hle hlt hk hK
end
end Go.AW
namespace Go.AW
open Go
set_option linter.unusedSimpArgs false
set_option linter.unusedVariables false
def slotR (P : Program) (tk : List Nat) (o : Oper) (s : St) (g : Bool) : Option R1 :=
 match o.op with
 | .move x =>
  match x,o.dst with
  | .tmp k,some d=>if tk.contains d then none else some ⟨true,upAV (elU (upT tk) P o.type) (s.t k).dat⟩
  | x,d=>some ⟨true,upAV (elU (upT tk) P o.type) (opd s.t x).dat⟩
 | .assign x =>
  match o.dst with
  | some d=>if tk.contains d then none else some ⟨true,upAV (elU (upT tk) P o.type) (ung g (opd s.t x)).dat⟩
  | none=>none
 | .load t a =>
  match o.dst with
  | some d=>if tk.contains d then none else some (loadR P s.o t (ung g (opd s.t a)))
  | none=>none
 | .buildSlice t len parts=>if tk.contains 1000000 ∧ len ≠ 0 then none else some (bslR P t len (parts.toList.map fun p=>(p.1,(ung g (opd s.t p.2)).dat)))
 | .build t parts=>some (buildR P t (parts.toList.map fun p=>(p.1,(ung g (opd s.t p.2)).dat)))
 | .call c =>
  match c.callee with
  | .builtin .append=>none
  | _=>some (pureOp P s.o o.op (fun x=>ung g (opd s.t x)))
 | .pick c a b=>some (pickR g (opd s.t c) (opd s.t a) (opd s.t b))
 | .nilCheck .. | .binOp .. | .unOp .. | .convert .. | .fieldAddr .. | .field .. | .indexAddr .. | .index .. | .extract .. | .slice .. | .lookup .. | .makeFunc .. | .makeInterface .. =>
  some (pureOp P s.o o.op (fun x=>ung g (opd s.t x)))
 | _=>none
theorem slotR_step1 {P : Program} {n : Nat} {tk : List Nat} {o : Oper} {s : St} {r : R1} (h : slotR P tk o s true = some r) (hna : ∀ x,o.op ≠ .assign x) : step1 P n tk o s = putS n o.dst r s:=by
 unfold slotR at h
 unfold step1
 cases hop : o.op with
 | move x =>
  simp only [hop] at h ⊢
  split at h
  ·rename_i k d hd
   split at h
   ·cases h
   ·rename_i hk;simp only [hd];rw [if_neg hk,← Option.some.inj h]
  ·rename_i hne
   rw [← Option.some.inj h]
   split
   ·rename_i k d hd;exact (hne k d rfl hd).elim
   ·rfl
 | load t a =>
  simp only [hop] at h ⊢
  split at h
  ·rename_i d hd
   split at h
   ·cases h
   ·rename_i hk;simp only [hd];rw [if_neg hk,← Option.some.inj h]
  ·cases h
 | call c =>
  simp only [hop] at h ⊢
  split at h
  ·cases h
  ·rename_i hne
   rw [← Option.some.inj h]
   try (split<;>first | rfl | simp_all)
 | assign x=>exact absurd hop (hna x)
 | buildSlice t len parts =>
  simp only [hop] at h ⊢
  split at h
  ·cases h
  ·rename_i hc;rw [if_neg hc,← Option.some.inj h]
 | _=>simp only [hop] at h ⊢;first | (cases h;done) | (rw [← Option.some.inj h])
def runO (P : Program) (n : Nat) (gd : List (Option Nat)) (tk : List Nat) (o : Oper) (s : St) : SR :=
 match o.guard with
 | none=>step1 P n tk o s
 | some (j,want) =>
  match gd.getD j none with
  | none=>.no s
  | some t =>
   match gv (s.t t) with
   | some (h,x) =>
    match slotR P tk o s (h && x == want) with
    | some r=>((!(h && x == want) || r.ok) && dstOk n o.dst,s.put o.dst (.gd (h && x == want) r.v))
    | none=>.no s
   | none=>.no s
def FitsL (ops : Array Oper) : List Nat → List Oper → Prop
 | [],[]=>True
 | i :: is,o :: r=>ops[i]? = some o ∧ FitsL ops is r
 | _,_=>False
def QL (g : G) (Q : Exit → St → Prop) : Exit → Act → World → Prop:=fun e a w=>∃ s,Q e s ∧ At g s a w
def RL (P : Program) (n : Nat) (gd : List (Option Nat)) (rest : List Oper) (Q : Exit → St → Prop) (s : St) : Prop :=
 ∀ (ops : Array Oper) (is : List Nat),ops.toList.map (·.dst) = gd → FitsL ops is rest → ∀ (g : G) (a : Act) (w : World),g.n = n → At g s a w → wpOps P ops (QL g Q) is a w
section
variable {P : Program} {n : Nat} {gd : List (Option Nat)} {Q : Exit → St → Prop} {s : St}
theorem FitsL.range (ops : Array Oper) : FitsL ops (List.range ops.size) ops.toList:=by
 have key : ∀ (l pre : List Oper),ops.toList = pre ++ l → FitsL ops (List.range' pre.length l.length) l:=by
  intro l
  induction l with
  | nil=>intro pre h;simp [FitsL]
  | cons o l ih =>
   intro pre h
   simp only [List.length_cons,List.range'_succ,FitsL]
   refine ⟨?_,?_⟩
   ·rw [← Array.getElem?_toList,h];simp
   ·have:=ih (pre ++ [o]) (by rw [h];simp)
    simpa using this
 have:=key ops.toList [] rfl
 rw [List.range_eq_range']
 simpa using this
theorem W_region {id : Nat} {l : List Oper} (h : RL P n (l.map (·.dst)) l Q s) : W P n (.region id l.toArray false) Q s:=by
 intro g a w hn hat
 exact wp_region (h l.toArray _ (by simp) (by simpa using FitsL.range l.toArray) g a w hn hat)
theorem RL_nil (h : Q .normal s) : RL P n gd [] Q s:=by
 intro ops is _ hf g a w hn hat
 cases is with
 | nil=>exact ⟨s,h,hat⟩
 | cons=>exact hf.elim
theorem Oper.wp_q {o : Oper} {a : Act} {w : World} {K : Act → World → Prop} {Q : Exit → Act → World → Prop} (h : o.wp P a w K (fun _ _ _=>False)) : o.wp P a w K Q:=by
 unfold Oper.wp at *
 generalize (execOp a.eval o).run P w = r at *
 cases r with
 | ok x w' =>
  cases x<;>simp only [Oper.upon] at h ⊢<;>first | exact h | (refine Calls.mono h fun e w'' he=>?_;cases e<;>first | exact he | exact he.elim | (obtain ⟨_,_,h⟩:=he;exact h.elim))
 | halt x w'=>cases x<;>simp only [Oper.upon] at h ⊢
theorem RL_cons {o : Oper} {r : List Oper} (hg : o.guard = none) (h : OpW P n o s (RL P n gd r Q)) : RL P n gd (o :: r) Q s:=by
 intro ops is hgd hf g a w hn hat
 cases is with
 | nil=>exact hf.elim
 | cons i is =>
  simp only [FitsL] at hf
  simp only [wpOps,hf.1]
  have hw : Region.wanted o (yielded ops a.tmps) = true:=by simp [Region.wanted,hg]
  simp only [hw,if_true]
  refine .inl (Oper.wp_q (Oper.wp_mono ?_ (h g a w hn hat)))
  rintro a' w' ⟨s',h1,h2⟩
  exact h1 ops is hgd hf.2 g a' w' hn h2
theorem yield_b {ops : Array Oper} {g : G} {a : Act} {w : World} {j t : Nat} {h x : Bool} (hgd : ops.toList.map (·.dst) = gd) (hat : At g s a w) (hj : gd.getD j none = some t) (hx : gv (s.t t) = some (h,x)) (want : Bool) :
  (yielded ops a.tmps j == some want) = (h && x == want):=by
 obtain ⟨m,reg,h1,_⟩:=hat.rel
 have hv:=gv_V hx (h1.tv t)
 have h2 : (ops[j]?).bind (·.dst) = some t:=by
  rw [← hgd,List.getD_eq_getElem?_getD,List.getElem?_map,Array.getElem?_toList] at hj
  cases ho : ops[j]? with
  | none=>rw [ho] at hj;simp at hj
  | some o=>rw [ho] at hj;simpa using hj
 unfold yielded
 rw [h2]
 simp only [Option.bind_some]
 cases h with
 | true =>
  have hv:=hv.1 rfl
  cases ht : a.tmps[t]? with
  | none=>simp [Array.getD_eq_getD_getElem?,ht,undef] at hv
  | some v=>simp [Array.getD_eq_getD_getElem?,ht] at hv;subst hv;cases x<;>cases want<;>rfl
 | false =>
  have hv:=hv.2 rfl
  cases ht : a.tmps[t]? with
  | none=>rfl
  | some v=>simp [Array.getD_eq_getD_getElem?,ht] at hv;subst hv;rfl
theorem At.putAny {g : G} {a : Act} {w : World} {d : Option Nat} {av : AV} (hd : dstOk g.n d = true) (hv : ∀ w Y m,V w Y m av undef) (ho : av.isOwn = false) (hat : At g s a w) : At g (s.put d av) (a.put d undef) w:=by
 obtain ⟨⟨m,reg,h1,h2,h3⟩,h4,h5,h6⟩:=hat
 exact At.put h1 h2 h3 h4 h5 h6 hd (hv _ _ _) (.inl ho)
theorem RL_gd {o : Oper} {r : List Oper} {j t : Nat} {want h x : Bool} (hg : o.guard = some (j,want)) (hj : gd.getD j none = some t) (hx : gv (s.t t) = some (h,x)) (hd : dstOk n o.dst = true)
  (h1 : (h && x == want) = true → OpW P n o s (RL P n gd r Q)) (h2 : (h && x == want) = false → ∃ av,av.isOwn = false ∧ (∀ w Y m,V w Y m av undef) ∧ RL P n gd r Q (s.put o.dst av)) : RL P n gd (o :: r) Q s:=by
 intro ops is hgd hf g a w hn hat
 cases is with
 | nil=>exact hf.elim
 | cons i is =>
  simp only [FitsL] at hf
  simp only [wpOps,hf.1]
  have hy:=yield_b hgd hat hj hx want
  have hw : Region.wanted o (yielded ops a.tmps) = (h && x == want):=by simp only [Region.wanted,hg];exact hy
  cases hc : (h && x == want) with
  | true =>
   simp only [hw,hc,if_true]
   refine .inl (Oper.wp_q (Oper.wp_mono ?_ (h1 hc g a w hn hat)))
   rintro a' w' ⟨s',h1,h2⟩
   exact h1 ops is hgd hf.2 g a' w' hn h2
  | false =>
   simp only [hw,hc,Bool.false_eq_true,if_false]
   subst hn
   obtain ⟨av,q1,q2,q3⟩:=h2 hc
   exact q3 ops is hgd hf.2 g _ w rfl (hat.putAny hd q2 q1)
theorem At.weak {g : G} {a : Act} {w : World} {s' : St} (hat : At g s a w) (ht : ∀ k,Le (s.t k) (s'.t k)) (ho : s'.o = s.o) : At g s' a w:=by
 obtain ⟨⟨m,reg,h1,h2,h3⟩,h4,h5,h6⟩:=hat
 exact ⟨⟨m,reg,by rw [ho];exact h1.weak ht,by rw [ho];exact h2,h3⟩,h4,h5,h6⟩
theorem Le.gdI {c : Bool} (hc : c = true) (a : AV) : Le a (.gd c a):=⟨fun w Y m v h=>by simp only [V];exact ⟨fun _=>h,fun h=>by rw [hc] at h;cases h⟩,fun h=>by cases h⟩
theorem gdF_undef (v : AV) : (AV.gd false v).isOwn = false ∧ ∀ w Y m,V w Y m (.gd false v) undef:=⟨rfl,fun w Y m=>by simp [V]⟩
theorem put_le (s : St) (d : Option Nat) {a b : AV} (h : Le a b) : ∀ k,Le ((s.put d a).t k) ((s.put d b).t k):=by
 intro k
 cases d with
 | none=>exact .refl _
 | some d =>
  simp only [St.put,upd]
  split
  ·exact h
  ·exact .refl _
theorem OpW_slot {o : Oper} {tk : List Nat} {r : R1} (hs : slotR P tk o s true = some r) (hok : r.ok = true) (hd : dstOk n o.dst = true) {K : St → Prop} (hk : K (s.put o.dst r.v)) : OpW P n o s K:=by
 intro g a w hn hat
 subst hn
 by_cases hna : ∀ x,o.op ≠ .assign x
 ·have h1:=slotR_step1 (n:=g.n) hs hna
  refine (step1_sound hat (tk:=tk) (by rw [h1];simp [putS,hok,hd])).wp fun a' w' h'=>⟨_,hk,?_⟩
  rw [h1] at h'
  exact h'
 ·obtain ⟨x,hx⟩ : ∃ x,o.op = .assign x:=by
   cases hop : o.op with
   | assign x=>exact ⟨x,rfl⟩
   | _=>exact absurd (fun x=>by rw [hop];exact fun e=>by cases e) hna
  have hr : r = ⟨true,upAV (elU (upT tk) P o.type) (ung true (opd s.t x)).dat⟩:=by
   unfold slotR at hs
   rw [hx] at hs
   simp only at hs
   split at hs
   ·split at hs
    ·cases hs
    ·exact (Option.some.inj hs).symm
   ·cases hs
  subst hr
  have : Does P g a w o (putS g.n o.dst ⟨true,upAV (elU (upT tk) P o.type) (ung true (opd s.t x)).dat⟩ s).2 :=
   putS_sound rfl hat (by simp [putS,hd]) fun m reg h1 _=>⟨_,exec_move (.inr hx),upAV_V (V.dat _ _ (ung_V rfl (opdV h1 x))),upAV_light (V.dat _ _ (ung_V rfl (opdV h1 x))) (AV.dat_isOwn _)⟩
  exact this.wp fun a' w' h'=>⟨_,hk,h'⟩
theorem OpW_gd {o : Oper} {tk : List Nat} {r : R1} {c : Bool} (hs : slotR P tk o s c = some r) (hc : c = true) (hok : r.ok = true) (hd : dstOk n o.dst = true) {K : St → Prop} (hk : K (s.put o.dst (.gd c r.v))) : OpW P n o s K:=by
 have:=OpW_slot (n:=n) (hc ▸ hs) hok hd (K:=fun s'=>s' = s.put o.dst r.v) rfl
 intro g a w hn hat
 refine Oper.wp_mono ?_ (this g a w hn hat)
 rintro a' w' ⟨s',rfl,h'⟩
 refine ⟨_,hk,h'.weak (put_le s o.dst (Le.gdI hc r.v)) ?_⟩
 cases o.dst<;>rfl
theorem RL_one {o : Oper} {r : List Oper} {tk : List Nat} {s' : St} (h : runO P n gd tk o s = (true,s')) (hr : RL P n gd r Q s') : RL P n gd (o :: r) Q s:=by
 unfold runO at h
 split at h
 ·rename_i hg
  exact RL_cons hg (OpW_step tk h hr)
 ·rename_i j want hg
  split at h
  ·cases h
  ·rename_i t hj
   split at h
   ·rename_i h0 x hx
    split at h
    ·rename_i r1 hs
     simp only [Prod.mk.injEq,Bool.and_eq_true (_ || _),Bool.or_eq_true] at h
     obtain ⟨⟨h1,h2⟩,rfl⟩:=h
     refine RL_gd hg hj hx h2 (fun e=>?_) (fun e=>?_)
     ·rw [e] at h1
      exact OpW_gd hs e (h1.resolve_left (by simp)) h2 hr
     ·rw [e] at hr
      exact ⟨_,(gdF_undef _).1,(gdF_undef _).2,hr⟩
    ·cases h
   ·cases h
end
end Go.AW
namespace Go.AW
open Go
set_option linter.unusedSimpArgs false
set_option linter.unusedVariables false
mutual
theorem ren_id (φ : Nat → Nat) : ∀ (a : AV),a.ltk 0 = true → a.ren φ = a
 | .any,_ | .b _,_ | .i _ _,_ | .s _,_ | .sl _ _,_ | .own _ _,_ | .ep _ _,_ | .nilp,_ | .nilm,_ | .nsl,_ | .esl,_ | .nilf,_ | .nili,_=>rfl
 | .ref _ _ _,h | .ptr _ _ _,h | .mp _,h=>by simp [AV.ltk] at h
 | .fn f l,h=>by simp only [AV.ltk] at h;simp only [AV.ren,rens_id φ l h]
 | .agg l,h=>by simp only [AV.ltk] at h;simp only [AV.ren,rens_id φ l h]
 | .tup l,h=>by simp only [AV.ltk] at h;simp only [AV.ren,rens_id φ l h]
 | .ifc t v,h=>by simp only [AV.ltk] at h;simp only [AV.ren,ren_id φ v h]
 | .bm t v,h=>by simp only [AV.ltk] at h;simp only [AV.ren,ren_id φ v h]
 | .gd g v,h=>by simp only [AV.ltk] at h;simp only [AV.ren,ren_id φ v h]
theorem rens_id (φ : Nat → Nat) : ∀ (l : List AV),AV.ltks 0 l = true → AV.rens φ l = l
 | [],_=>rfl
 | a :: l,h=>by
  simp only [AV.ltks,Bool.and_eq_true] at h
  simp only [AV.rens,ren_id φ a h.1,rens_id φ l h.2]
end
theorem Hand.nil (o : List Ob) : Hand o [] []:=⟨rfl,List.nodup_nil,fun j i h=>by simp at h⟩
mutual
theorem ren_congr {φ ψ : Nat → Nat} {n : Nat} (h : ∀ k,k < n → φ k = ψ k) : ∀ (a : AV),a.ltk n = true → a.ren φ = a.ren ψ
 | .any,_ | .b _,_ | .i _ _,_ | .s _,_ | .sl _ _,_ | .own _ _,_ | .ep _ _,_ | .nilp,_ | .nilm,_ | .nsl,_ | .esl,_ | .nilf,_ | .nili,_=>rfl
 | .ref _ _ _,k | .ptr _ _ _,k | .mp _,k=>by simp only [AV.ltk,decide_eq_true_eq] at k;simp only [AV.ren,h _ k]
 | .fn f l,k=>by simp only [AV.ltk] at k;simp only [AV.ren,rens_congr h l k]
 | .agg l,k=>by simp only [AV.ltk] at k;simp only [AV.ren,rens_congr h l k]
 | .tup l,k=>by simp only [AV.ltk] at k;simp only [AV.ren,rens_congr h l k]
 | .ifc t v,k=>by simp only [AV.ltk] at k;simp only [AV.ren,ren_congr h v k]
 | .bm t v,k=>by simp only [AV.ltk] at k;simp only [AV.ren,ren_congr h v k]
 | .gd g v,k=>by simp only [AV.ltk] at k;simp only [AV.ren,ren_congr h v k]
theorem rens_congr {φ ψ : Nat → Nat} {n : Nat} (h : ∀ k,k < n → φ k = ψ k) : ∀ (l : List AV),AV.ltks n l = true → AV.rens φ l = AV.rens ψ l
 | [],_=>rfl
 | a :: l,k=>by
  simp only [AV.ltks,Bool.and_eq_true] at k
  simp only [AV.rens,ren_congr h a k.1,rens_congr h l k.2]
end
theorem Ob.ren_congr {φ ψ : Nat → Nat} {n : Nat} (h : ∀ k,k < n → φ k = ψ k) (x : Ob) (hx : x.ltk n = true) : x.ren φ = x.ren ψ:=by
 cases x with
 | cells sz rows =>
  simp only [Ob.ltk,List.all_eq_true] at hx
  simp only [Ob.ren,Ob.cells.injEq,true_and]
  exact List.map_congr_left fun r hr=>List.map_congr_left fun a ha=>AW.ren_congr h a (hx r hr a ha)
 | mapo es =>
  simp only [Ob.ltk,List.all_eq_true,Bool.and_eq_true] at hx
  simp only [Ob.ren,Ob.mapo.injEq]
  exact List.map_congr_left fun e he=>by rw [AW.ren_congr h e.1 (hx e he).1,AW.ren_congr h e.2 (hx e he).2]
 | _=>rfl
theorem after_same {o oc : List Ob} {ids : List Nat} (H : Hand o ids oc) : after o ids oc = o:=by
 unfold after
 have h1 : oc.take ids.length = oc:=List.take_of_length_le (by rw [H.len];exact Nat.le_refl _)
 have h2 : oc.drop ids.length = []:=List.drop_of_length_le (by rw [H.len];exact Nat.le_refl _)
 rw [h1,h2,List.map_nil,List.append_nil]
 apply List.ext_getElem?
 intro i
 cases hq : ixOf ids i with
 | none=>exact back_other _ _ _ _ (ixOf_none hq)
 | some j =>
  have hj:=ixOf_get hq
  obtain ⟨x,e1,e2,e3⟩:=H.get j i hj
  rw [back_get _ _ _ i j H.nodup (by simp [H.len]) hj (List.getElem?_eq_some_iff.1 e2).1,List.getElem?_map,e1,e2,Option.map_some]
  congr 1
  refine Ob.ren_congr (fun k hk=>?_) x e3
  simp only [phi,if_pos hk]
def ACallsD (P : Program) (f : FuncId) (ac : List AV) (r : AV) : Prop:=ACalls P f ac [] fun r' o'=>r' = r ∧ o' = []
def ACallsQ (P : Program) (f : FuncId) (ac : List AV) (oc : List Ob) (r : AV) : Prop:=ACalls P f ac oc fun r' o'=>r' = r ∧ o' = oc
structure CallD (P : Program) (n : Nat) (o : Oper) (s : St) (ac : List AV) (r : AV) : Prop where
 ex : ∃ (c : Call) (x : Operand) (b : Bool) (f : FuncId) (caps : List AV) (ids : List Nat) (oc : List Ob),o.op = .call c ∧ c.callee = .value x ∧ calleeV (ung true (opd s.t x)) = some (b,f,caps) ∧ c.args.toList.all (opIn n) = true ∧
  c.args.size ≤ ac.length ∧ Hand s.o ids oc ∧ LeA (argVals c.args.toList (ac.take c.args.size) s.t ++ caps.map AV.dat) (ac.map (AV.ren fun j=>ids.getD j 0)) ∧ ac.all (AV.ltk ids.length) = true ∧ ACallsR P b f ac oc fun r' o'=>r' = r ∧ o' = oc
 dst : dstOk n o.dst = true
 res : r.ltk 0 = true
def dropA (o : Oper) (ac : List AV) (t : Nat → AV) : Nat → AV :=
 match o.op with
 | .call c=>argDrop c.args.toList (ac.take c.args.size) t
 | _=>t
section
variable {P : Program} {n : Nat} {gd : List (Option Nat)} {Q : Exit → St → Prop} {s : St} {K : St → Prop}
theorem map_ren_id (φ : Nat → Nat) {ac : List AV} (h : ac.all (AV.ltk 0) = true) : ac.map (AV.ren φ) = ac:=by
 rw [← rens_map]
 refine rens_id φ ac ?_
 induction ac with
 | nil=>rfl
 | cons a l ih =>
  simp only [List.all_cons,Bool.and_eq_true] at h
  simp only [AV.ltks,Bool.and_eq_true]
  exact ⟨h.1,ih h.2⟩
theorem OpW_data {o : Oper} {ac : List AV} {r : AV} (h : CallD P n o s ac r) (hK : K ((⟨dropA o ac s.t,s.o⟩ : St).put o.dst r)) : OpW P n o s K:=by
 obtain ⟨⟨c,x,b,f,caps,ids,oc,h1,h2,h3,h4,h5,H,h6,h9,h7⟩,h8,h10⟩:=h
 refine OpW_callR h1 h2 h3 h8 h4 H h5 h6 h9 h7 ?_
 rintro r' o' ⟨rfl,rfl⟩
 rw [after_same H,ren_id _ _ h10]
 simpa only [dropA,h1] using hK
theorem RL_call {o : Oper} {rest : List Oper} (ac : List AV) (r : AV) (hg : o.guard = none) (h : CallD P n o s ac r) (hK : RL P n gd rest Q ((⟨dropA o ac s.t,s.o⟩ : St).put o.dst r)) : RL P n gd (o :: rest) Q s :=
 RL_cons hg (OpW_data h hK)
theorem dropA_le (n : Nat) (xs : List Operand) : ∀ (cs : List AV) (t : Nat → AV) (k : Nat),Le (t k) (argDrop xs cs t k):=by
 induction xs with
 | nil=>intro cs t k;cases cs<;>exact .refl _
 | cons x xs ih =>
  intro cs t k
  cases cs with
  | nil=>exact .refl _
  | cons c cs =>
   simp only [argDrop]
   have h1 : Le (t k) (argT t x c k):=by
    unfold argT
    split
    ·cases x with
     | tmp j =>
      simp only [upd]
      split
      ·rename_i e;subst e;exact Le.dat' _
      ·exact .refl _
     | _=>exact .refl _
    ·exact .refl _
   have h2:=ih cs (argT t x c) k
   refine ⟨fun w Y m v hv=>h2.v _ _ _ _ (h1.v _ _ _ _ hv),fun ho=>?_⟩
   rcases h2.own ho with e | e
   ·rw [← e] at ho ⊢;exact h1.own ho
   ·rw [e] at h1
    unfold argT at e
    by_cases hc : c.isOwn = true
    ·simp only [hc,if_true] at e
     cases x with
     | tmp j =>
      simp only [upd] at e
      split at e
      ·rename_i e';subst e'
       cases ht : t k<;>rw [ht] at e<;>simp [AV.dat] at e ⊢
      ·exact .inr e
     | _=>exact .inr e
    ·simp only [hc,if_false,Bool.false_eq_true] at e
     exact .inr e
theorem RL_callg {o : Oper} {rest : List Oper} (ac : List AV) (r : AV) {j t : Nat} {want h0 x : Bool} (hg : o.guard = some (j,want)) (hj : gd.getD j none = some t) (hx : gv (s.t t) = some (h0,x)) (hd : dstOk n o.dst = true)
  (h : (h0 && x == want) = true → CallD P n o s ac r) (hK : RL P n gd rest Q ((⟨dropA o ac s.t,s.o⟩ : St).put o.dst (.gd (h0 && x == want) r))) : RL P n gd (o :: rest) Q s:=by
 have drop : ∀ k,Le (s.t k) (dropA o ac s.t k):=by
  intro k
  unfold dropA
  cases o.op with
  | call c=>exact dropA_le n _ _ _ _
  | _=>exact .refl _
 have put2 : ∀ (a b : AV),Le a b → ∀ k,Le ((s.put o.dst a).t k) (((⟨dropA o ac s.t,s.o⟩ : St).put o.dst b).t k):=by
  intro a b hab k
  cases o.dst with
  | none=>exact drop k
  | some d =>
   simp only [St.put,upd]
   split
   ·exact hab
   ·exact drop k
 refine RL_gd hg hj hx hd (fun e=>?_) (fun e=>?_)
 ·refine OpW_data (h e) ?_
  intro ops is hgd hf g a w hn hat
  refine hK ops is hgd hf g a w hn (hat.weak ?_ ?_)
  ·exact put_le _ o.dst (Le.gdI e r)
  ·cases o.dst<;>rfl
 ·rw [e] at hK
  refine ⟨.gd false r,(gdF_undef _).1,(gdF_undef _).2,?_⟩
  intro ops is hgd hf g a w hn hat
  refine hK ops is hgd hf g a w hn (hat.weak ?_ ?_)
  ·exact put2 _ _ (.refl _)
  ·cases o.dst<;>rfl
end
end Go.AW
namespace Go.AW
open Go
set_option linter.unusedSimpArgs false
set_option linter.unusedVariables false
def isQ (tk : List Nat) (o : Oper) : Bool :=
 match o.op with
 | .move x=>match x,o.dst with | .tmp _,some d=>!tk.contains d | _,_=>true
 | .assign _=>match o.dst with | some d=>!tk.contains d | none=>false
 | .load ..=>match o.dst with | some d=>!tk.contains d | none=>false
 | .call c=>match c.callee with | .builtin .len | .builtin .max | .builtin .min=>true | .value _=>(match o.dst with | some d=>!tk.contains d | none=>false) | _=>false
 | .buildSlice _ len _=>!(tk.contains 1000000 && len != 0)
 | .build .. | .pick .. | .nilCheck .. | .binOp .. | .unOp .. | .convert .. | .fieldAddr .. | .field .. | .indexAddr .. | .index .. | .extract .. | .slice .. | .lookup .. | .makeFunc .. | .makeInterface ..=>true
 | _=>false
def readsL (gd : List (Option Nat)) (o : Oper) : List Nat :=
 (o.op.operands.toList.filterMap fun | .tmp t=>some t | _=>none) ++ (match o.guard with | some (j,_)=>(gd.getD j none).toList | none=>[])
def Val (P : Program) (n : Nat) (gd : List (Option Nat)) (tk : List Nat) (o : Oper) (s : St) (v : AV) : Prop :=
 dstOk n o.dst = true ∧
 match o.guard with
 | none=>(∃ r,slotR P tk o s true = some r ∧ r.ok = true ∧ v = r.v) ∨ ∃ ac,CallD P n o s ac v ∧ ac.all (fun c=>!c.isOwn) = true
 | some (j,want)=>∃ t h x,gd.getD j none = some t ∧ gv (s.t t) = some (h,x) ∧
   ((∃ r,slotR P tk o s (h && x == want) = some r ∧ ((h && x == want) = true → r.ok = true) ∧ v = .gd (h && x == want) r.v) ∨ ∃ ac r,((h && x == want) = true → CallD P n o s ac r) ∧ ac.all (fun c=>!c.isOwn) = true ∧ v = .gd (h && x == want) r)
def isCall (o : Oper) : Bool:=match o.op with | .call c=>(match c.callee with | .value _=>true | _=>false) | _=>false
def isS (o : Oper) : Bool :=
 match o.op with
 | .move _ | .assign _ | .pick .. | .nilCheck _ | .binOp .. | .unOp .. | .convert .. | .fieldAddr .. | .field .. | .index .. | .extract .. | .makeFunc .. | .makeInterface .. | .build .. | .buildSlice ..=>true
 | _=>false
def isA (tk : List Nat) (o : Oper) : Bool :=
 match o.op with
 | .alloc _ | .box .. | .makeMap .. | .makeSlice ..=>true
 | .buildSlice _ len _=>tk.contains 1000000 && len != 0
 | _=>false
def isN (tk : List Nat) (o : Oper) : Bool :=
 match o.op with
 | .load ..=>match o.dst with | some d=>tk.contains d | none=>false
 | .call c=>match c.callee with | .builtin .append=>!tk.contains 1000000 | _=>false
 | _=>false
def isM (tk : List Nat) (o : Oper) : Bool :=
 match o.op with
 | .move x=>match x,o.dst with | .tmp _,some d=>tk.contains d | _,_=>false
 | .assign x=>match x,o.dst with | .tmp _,some _=>true | _,_=>false
 | .call c=>match c.callee with | .builtin .append=>!tk.contains 1000000 | _=>false
 | _=>false
def D (P : Program) (n : Nat) (gd : List (Option Nat)) (tk : List Nat) : List Oper → (St → Prop) → St → Prop
 | [],K,s=>K s
 | o :: r,K,s=>if isQ tk o = true then ∃ v,Val P n gd tk o s v ∧ D P n gd tk r K (s.put o.dst v)
  else o.guard = none ∧ (if isCall o = true then OpW P n o s (D P n gd tk r K) else ∃ s',step1 P n tk o s = (true,s') ∧ D P n gd tk r K s')
def indep (gd : List (Option Nat)) (tk : List Nat) (a b : Oper) : Bool :=
 isQ tk a && isQ tk b && (match a.dst with | some d=>!(readsL gd b).contains d && b.dst != some d | none=>true) && (match b.dst with | some d=>!(readsL gd a).contains d | none=>true)
def indep2 (gd : List (Option Nat)) (tk : List Nat) (a b : Oper) : Bool :=
 isQ tk a && !isQ tk b && !isCall b && (isS a || isA tk b || isN tk b && !isCall a || isM tk b) && (match a.dst with | some d=>!(readsL gd b).contains d && b.dst != some d | none=>true) && (match b.dst with | some d=>!(readsL gd a).contains d | none=>true) &&
  (readsL gd b).all fun k=>!(readsL gd a).contains k
section
variable {P : Program} {n : Nat} {gd : List (Option Nat)} {tk : List Nat} {Q : Exit → St → Prop} {s s' : St} {K : St → Prop}
structure Agree (gd : List (Option Nat)) (o : Oper) (s s' : St) : Prop where
 ops : ∀ x ∈ o.op.operands,opd s.t x = opd s'.t x
 grd : ∀ j want t,o.guard = some (j,want) → gd.getD j none = some t → s.t t = s'.t t
 ob : s.o = s'.o
theorem Agree.put {o : Oper} {d : Option Nat} {v : AV} (h : ∀ k,d = some k → (readsL gd o).contains k = false) : Agree gd o s (s.put d v):=by
 have hs : ∀ k,k ∈ readsL gd o → s.t k = (s.put d v).t k:=by
  intro k hk
  cases d with
  | none=>rfl
  | some d =>
   have:=h d rfl
   simp only [St.put,upd]
   split
   ·rename_i e;subst e
    rw [List.contains_eq_mem] at this
    simp [hk] at this
   ·rfl
 refine ⟨fun x hx=>?_,fun j want t hg ht=>?_,?_⟩
 ·cases x with
  | tmp k =>
   refine hs k ?_
   unfold readsL
   refine List.mem_append_left _ (List.mem_filterMap.2 ⟨.tmp k,by simpa using hx,rfl⟩)
  | _=>rfl
 ·refine hs t ?_
  unfold readsL
  refine List.mem_append_right _ ?_
  rw [hg];simp only [ht];simp
 ·cases d<;>rfl
theorem Agree.symm {o : Oper} (h : Agree gd o s s') : Agree gd o s' s:=⟨fun x hx=>(h.ops x hx).symm,fun j w t h1 h2=>(h.grd j w t h1 h2).symm,h.ob.symm⟩
theorem slotR_congr {o : Oper} {g : Bool} (h : ∀ x ∈ o.op.operands,opd s.t x = opd s'.t x) (ho : s.o = s'.o) : slotR P tk o s g = slotR P tk o s' g:=by
 have pairs : ∀ (ps : Array (Nat × Operand)),(∀ x ∈ (ps.toList.map (·.2)).toArray,opd s.t x = opd s'.t x) → (ps.toList.map fun p=>(p.1,(ung g (opd s.t p.2)).dat)) = ps.toList.map fun p=>(p.1,(ung g (opd s'.t p.2)).dat):=by
  intro ps hp
  refine List.map_congr_left fun p hm=>?_
  rw [hp p.2 (by simp only [List.mem_toArray,List.mem_map];exact ⟨p,hm,rfl⟩)]
 unfold slotR
 cases hop : o.op<;>rw [hop] at h<;>simp only [Op.operands] at h
 case move x =>
  have hx:=h x (by simp)
  cases x with
  | tmp k =>
   have hx : s.t k = s'.t k:=hx
   cases hd : o.dst with
   | none=>simp only [opd,hx]
   | some d=>simp only [hx]
  | _=>rfl
 case assign x=>simp only [h x (by simp)]
 case load t a=>simp only [h a (by simp),ho]
 case build t ps=>simp only [pairs ps h]
 case buildSlice t l ps=>simp only [pairs ps h]
 case call c =>
  simp only [ho]
  have e : pureOp P s'.o (.call c) (fun x=>ung g (opd s.t x)) = pureOp P s'.o (.call c) (fun x=>ung g (opd s'.t x)):=by
   have ha : ∀ x ∈ c.args.toList,ung g (opd s.t x) = ung g (opd s'.t x):=fun x hx=>by rw [h x (by simp [Call.operands];exact .inr (by simpa using hx))]
   have hm : c.args.toList.map (fun x=>ung g (opd s.t x)) = c.args.toList.map (fun x=>ung g (opd s'.t x)):=List.map_congr_left ha
   simp only [pureOp,hm]
   split
   ·split
    ·rename_i x t h1 _
     rw [ha x (by rw [h1];simp)]
    ·rfl
   ·rfl
   ·rfl
   ·rfl
  rw [e]
 case makeFunc f first caps =>
  cases f with
  | func f =>
   simp only [pureOp]
   have : (caps.toList.map fun x=>(ung g (opd s.t x)).dat) = caps.toList.map fun x=>(ung g (opd s'.t x)).dat:=List.map_congr_left fun x hx=>by rw [h x (by simp;exact .inr (by simpa using hx))]
   rw [this]
   by_cases he : first.isEmpty = true
   ·simp only [he,if_true]
   ·have hm : first.getD 0 (.tmp 0) ∈ first:=by
     have h0 : 0 < first.size:=by
      rcases Nat.eq_zero_or_pos first.size with e | e
      ·exact absurd (by simpa using e) he
      ·exact e
     simp [Array.getD,h0]
    rw [h _ (by simp only [Op.operands,Array.mem_append];exact .inl hm)]
  | _=>simp only [pureOp]
 case slice t x lo hi mx =>
  simp only [pureOp,ho]
  have hx:=h x (by simp)
  have e1 : lo.map (fun x=>ung g (opd s.t x)) = lo.map (fun x=>ung g (opd s'.t x)):=by cases lo with | none=>rfl | some y=>simp only [Option.map_some,h y (by simp)]
  have e2 : hi.map (fun x=>ung g (opd s.t x)) = hi.map (fun x=>ung g (opd s'.t x)):=by cases hi with | none=>rfl | some y=>simp only [Option.map_some,h y (by simp)]
  have e3 : mx.map (fun x=>ung g (opd s.t x)) = mx.map (fun x=>ung g (opd s'.t x)):=by cases mx with | none=>rfl | some y=>simp only [Option.map_some,h y (by simp)]
  rw [hx,e1,e2,e3]
 all_goals first
  | rfl
  | (simp only [pureOp,ho];simp_all;done)
theorem argVals_congr : ∀ (xs : List Operand) (cs : List AV) (t t' : Nat → AV),cs.all (fun c=>!c.isOwn) = true → (∀ x ∈ xs,opd t x = opd t' x) → argVals xs cs t = argVals xs cs t'
 | [],cs,t,t',_,_=>by cases cs<;>rfl
 | x :: xs,[],_,_,_,_=>rfl
 | x :: xs,c :: cs,t,t',hc,h=>by
  simp only [List.all_cons,Bool.and_eq_true,Bool.not_eq_true'] at hc
  simp only [argVals,argA,argT,hc.1,if_false,Bool.false_eq_true]
  rw [h x (by simp),argVals_congr xs cs t t' hc.2 (fun y hy=>h y (by simp [hy]))]
theorem argDrop_id : ∀ (xs : List Operand) (cs : List AV) (t : Nat → AV),cs.all (fun c=>!c.isOwn) = true → argDrop xs cs t = t
 | [],cs,t,_=>by cases cs<;>rfl
 | x :: xs,[],_,_=>rfl
 | x :: xs,c :: cs,t,hc=>by
  simp only [List.all_cons,Bool.and_eq_true,Bool.not_eq_true'] at hc
  simp only [argDrop,argT,hc.1,if_false,Bool.false_eq_true]
  exact argDrop_id xs cs t hc.2
theorem all_take {ac : List AV} (h : ac.all (fun c=>!c.isOwn) = true) (k : Nat) : (ac.take k).all (fun c=>!c.isOwn) = true:=by
 simp only [List.all_eq_true] at h ⊢
 exact fun x hx=>h x (List.mem_of_mem_take hx)
theorem dropA_id (o : Oper) {ac : List AV} (h : ac.all (fun c=>!c.isOwn) = true) (t : Nat → AV) : dropA o ac t = t:=by
 unfold dropA
 cases o.op with
 | call c=>exact argDrop_id _ _ _ (all_take h _)
 | _=>rfl
theorem CallD.congr {o : Oper} {ac : List AV} {r : AV} (hown : ac.all (fun c=>!c.isOwn) = true) (h : ∀ x ∈ o.op.operands,opd s.t x = opd s'.t x) (hob : s.o = s'.o) (k : CallD P n o s ac r) : CallD P n o s' ac r:=by
 obtain ⟨⟨c,x,b,f,caps,ids,oc,h1,h2,h3,h4,h5,H,h6,h9,h7⟩,h8,h10⟩:=k
 rw [h1] at h
 simp only [Op.operands,Call.operands,h2] at h
 refine ⟨⟨c,x,b,f,caps,ids,oc,h1,h2,by rw [← h x (by simp)];exact h3,h4,h5,hob ▸ H,?_,h9,h7⟩,h8,h10⟩
 rw [← argVals_congr _ _ _ _ (all_take hown _) (fun y hy=>h y (by simp;exact .inr (by simpa using hy)))]
 exact h6
theorem Val.congr {o : Oper} {v : AV} (h : Agree gd o s s') (k : Val P n gd tk o s v) : Val P n gd tk o s' v:=by
 unfold Val at k ⊢
 refine ⟨k.1,?_⟩
 replace k:=k.2
 cases hg : o.guard with
 | none =>
  simp only [hg] at k ⊢
  rcases k with ⟨r,h1,h2,h3⟩ | ⟨ac,h1,h2⟩
  ·exact .inl ⟨r,by rw [← slotR_congr h.ops h.ob];exact h1,h2,h3⟩
  ·exact .inr ⟨ac,h1.congr h2 h.ops h.ob,h2⟩
 | some jw =>
  obtain ⟨j,want⟩:=jw
  simp only [hg] at k ⊢
  obtain ⟨t,h0,x,e1,e2,k⟩:=k
  refine ⟨t,h0,x,e1,by rw [← h.grd j want t hg e1];exact e2,?_⟩
  rcases k with ⟨r,h1,h2,h3⟩ | ⟨ac,r,h1,h2,h3⟩
  ·exact .inl ⟨r,by rw [← slotR_congr h.ops h.ob];exact h1,h2,h3⟩
  ·exact .inr ⟨ac,r,fun e=>(h1 e).congr h2 h.ops h.ob,h2,h3⟩
theorem upd_comm {α : Type} (f : Nat → α) {j k : Nat} (a b : α) (h : j ≠ k) : upd (upd f j a) k b = upd (upd f k b) j a:=by
 funext i
 simp only [upd]
 by_cases h1 : i = k
 ·subst h1;rw [if_pos rfl,if_neg (fun e : i = j=>h e.symm),if_pos rfl]
 ·simp [h1]
theorem step1_frame {o : Oper} {d : Nat} {v : AV} (hr : ∀ x ∈ o.op.operands,x ≠ .tmp d) (hd : o.dst ≠ some d) (hc : isCall o = false) :
  step1 P n tk o (s.put (some d) v) = ((step1 P n tk o s).1,(step1 P n tk o s).2.put (some d) v):=by
 obtain ⟨t,ob⟩:=s
 have ho : ∀ x ∈ o.op.operands,opd (upd t d v) x = opd t x:=by
  intro x hx
  cases x with
  | tmp k=>exact upd_ne _ _ _ (fun e=>hr _ hx (by rw [e]))
  | _=>rfl
 have hp : ∀ (r : R1),putS n o.dst r (⟨upd t d v,ob⟩ : St) = ((putS n o.dst r (⟨t,ob⟩ : St)).1,(putS n o.dst r (⟨t,ob⟩ : St)).2.put (some d) v):=by
  intro r
  unfold putS
  congr 1
  cases hdst : o.dst with
  | none=>rfl
  | some e =>
   have hne : d ≠ e:=fun h=>hd (by rw [hdst,h])
   simp only [St.put,upd_comm _ _ _ hne]
 have hmv : ∀ (k e : Nat) (ty : TypeId),k ≠ d → e ≠ d → mvS (upT tk) P n e ty k (⟨upd t d v,ob⟩ : St) = ((mvS (upT tk) P n e ty k (⟨t,ob⟩ : St)).1,(mvS (upT tk) P n e ty k (⟨t,ob⟩ : St)).2.put (some d) v):=by
  intro k e ty h1 h2
  unfold mvS
  simp only [upd_ne _ _ _ h1]
  split
  ·simp only [St.put,upd_comm _ _ _ (Ne.symm h1),upd_comm _ _ _ (Ne.symm h2)]
  ·simp only [St.put,upd_comm _ _ _ (Ne.symm h2)]
 show step1 P n tk o (⟨upd t d v,ob⟩ : St) = _
 by_cases hna : ∀ x,o.op ≠ .assign x
 ·cases hq : slotR P tk o (⟨t,ob⟩ : St) true with
  | some r =>
   have hq' : slotR P tk o (⟨upd t d v,ob⟩ : St) true = some r:=by rw [← hq];exact slotR_congr ho rfl
   rw [slotR_step1 hq hna,slotR_step1 hq' hna]
   exact hp r
  | none =>
   unfold slotR at hq
   unfold step1
   cases hop : o.op<;>rw [hop] at ho hr hq<;>simp only [Op.operands] at ho hr<;>simp only at hq ⊢
   case assign x=>exact absurd hop (hna x)
   case move x =>
    cases x with
    | tmp k =>
     have hk : Ne (α:=Nat) k d:=fun e=>hr (.tmp k) (by simp) (by rw [e])
     cases hdst : o.dst with
     | none=>rw [hdst] at hq;simp at hq
     | some e =>
      have he : Ne (α:=Nat) e d:=fun h=>hd (by rw [hdst,h])
      rw [hdst] at hq
      simp only at hq ⊢
      split at hq
      ·rename_i htk
       rw [if_pos htk,if_pos htk];exact hmv k e _ hk he
      ·cases hq
    | _=>simp at hq
   case load ty a =>
    rw [ho a (by simp)]
    cases hdst : o.dst with
    | none=>rfl
    | some e =>
     have he : Ne (α:=Nat) e d:=fun h=>hd (by rw [hdst,h])
     rw [hdst] at hq
     simp only at hq ⊢
     split at hq
     ·rename_i htk
      rw [if_pos htk,if_pos htk]
      unfold takeS
      split
      ·simp only
       split
       ·split<;>simp only [St.put,upd_comm _ _ _ (Ne.symm he)]
       ·rfl
      ·rfl
     ·cases hq
   case alloc e =>
    split
    ·unfold newS
     cases hdst : o.dst with
     | none=>rfl
     | some q =>
      have he : Ne (α:=Nat) q d:=fun h=>hd (by rw [hdst,h])
      simp only [St.put,upd_comm _ _ _ (Ne.symm he)]
    ·rfl
   case box e x =>
    rw [ho x (by simp)]
    split
    ·unfold newS
     cases hdst : o.dst with
     | none=>rfl
     | some q =>
      have he : Ne (α:=Nat) q d:=fun h=>hd (by rw [hdst,h])
      simp only [St.put,upd_comm _ _ _ (Ne.symm he)]
    ·rfl
   case store ty a x =>
    rw [ho a (by simp)]
    split
    ·unfold storeS
     split
     ·simp only
      split
      ·rw [ho x (by simp)]
       split
       ·rfl
       ·cases x with
        | tmp k =>
         have hk : Ne (α:=Nat) k d:=fun e=>hr (.tmp k) (by simp) (by rw [e])
         simp only [St.put,upd_ne _ _ _ hk,upd_comm _ _ _ (Ne.symm hk)]
        | _=>rfl
       ·rfl
      ·rfl
     ·rfl
    ·rfl
   case mapUpdate ty m k x =>
    rw [ho m (by simp),ho k (by simp),ho x (by simp)]
    split
    ·unfold msetS
     split
     ·simp only
      split
      ·split<;>rfl
      ·rfl
     ·rfl
    ·rfl
   case insert ty m k x =>
    rw [ho m (by simp),ho k (by simp),ho x (by simp)]
    split
    ·unfold msetS
     split
     ·simp only
      split
      ·split<;>rfl
      ·rfl
     ·rfl
    ·rfl
   case makeMap ty r =>
    split
    ·unfold mkMapS
     cases hdst : o.dst with
     | none=>rfl
     | some q =>
      have he : Ne (α:=Nat) q d:=fun h=>hd (by rw [hdst,h])
      simp only [St.put,upd_comm _ _ _ (Ne.symm he)]
    ·rfl
   case makeSlice ty l c =>
    rw [ho l (by simp),ho c (by simp)]
    unfold mkSliceS
    split
    ·split
     ·cases hdst : o.dst with
      | none=>rfl
      | some q =>
       have he : Ne (α:=Nat) q d:=fun h=>hd (by rw [hdst,h])
       simp only [St.put,upd_comm _ _ _ (Ne.symm he)]
     ·rfl
    ·rfl
   case buildSlice ty len parts =>
    split at hq
    ·rename_i hcnd
     rw [if_pos hcnd,if_pos hcnd]
     have hps : (parts.toList.map fun p=>(p.1,(ung true (opd (upd t d v) p.2)).dat)) = parts.toList.map fun p=>(p.1,(ung true (opd t p.2)).dat) :=
      List.map_congr_left fun p hm=>by rw [ho p.2 (by simp only [List.mem_toArray,List.mem_map];exact ⟨p,hm,rfl⟩)]
     unfold bslS
     dsimp only
     rw [hps]
     split
     ·split
      ·cases hdst : o.dst with
       | none=>rfl
       | some q =>
        have he : Ne (α:=Nat) q d:=fun h=>hd (by rw [hdst,h])
        simp only [St.put,upd_comm _ _ _ (Ne.symm he)]
      ·rfl
     ·rfl
    ·cases hq
   case call c =>
    split at hq
    ·rename_i hcal
     simp only [hcal]
     split
     ·rename_i k x ty t2 ha hat
      have hk : Ne (α:=Nat) k d:=fun e=>hr (.tmp k) (by simp [Call.operands,hcal];rw [← Array.mem_toList_iff,ha];simp) (by rw [e])
      rw [ho x (by simp [Call.operands,hcal];rw [← Array.mem_toList_iff,ha];simp)]
      split
      ·unfold appOS
       dsimp only
       split
       ·rename_i e q h1 h2
        have he : Ne (α:=Nat) q d:=fun h=>hd (by rw [h2,h])
        split
        ·simp only [upd_ne _ _ _ hk]
         split
         ·simp only [St.put,upd_comm _ _ _ (Ne.symm he)]
         ·simp only [St.put,upd_comm _ _ _ (Ne.symm he)]
         ·split<;>first | rfl | simp only [St.put,upd_comm _ _ _ (Ne.symm he)]
         ·rfl
        ·rfl
       ·rfl
      ·unfold appS
       dsimp only
       split
       ·rename_i e q h1 h2
        have he : Ne (α:=Nat) q d:=fun h=>hd (by rw [h2,h])
        split
        ·simp only [upd_ne _ _ _ hk]
         split<;>first | rfl | simp only [St.put,upd_comm _ _ _ (Ne.symm hk),upd_comm _ _ _ (Ne.symm he)]
        ·rfl
       ·rfl
     ·rfl
    ·cases hq
   all_goals first | exact hp _ | (cases hq;done) | (simp at hq;done)
 ·obtain ⟨x,hx⟩ : ∃ x,o.op = .assign x:=by
   cases hop : o.op with
   | assign x=>exact ⟨x,rfl⟩
   | _=>exact absurd (fun x=>by rw [hop];exact fun e=>by cases e) hna
  unfold step1
  rw [hx] at ho hr ⊢
  simp only [Op.operands] at ho hr
  simp only
  cases x with
  | tmp k =>
   have hk : Ne (α:=Nat) k d:=fun e=>hr (.tmp k) (by simp) (by rw [e])
   cases hdst : o.dst with
   | none=>simp only;rw [← hdst,ho (.tmp k) (by simp)];exact hp _
   | some e =>
    have he : Ne (α:=Nat) e d:=fun h=>hd (by rw [hdst,h])
    exact hmv k e _ hk he
  | _=>exact hp _
theorem getE_mono {α : Type} {o ex : List α} {i : Nat} {x : α} (h : o[i]? = some x) : (o ++ ex)[i]? = some x:=by
 rw [List.getElem?_append_left (List.getElem?_eq_some_iff.1 h).1];exact h
theorem Hand.mono {o ex oc : List Ob} {ids : List Nat} (h : Hand o ids oc) : Hand (o ++ ex) ids oc :=
 ⟨h.len,h.nodup,fun j i hj=>let ⟨x,h1,h2,h3⟩:=h.get j i hj;⟨x,h1,getE_mono h2,h3⟩⟩
theorem loadR_mono {o ex : List Ob} {t : TypeId} {a : AV} (h : (loadR P o t a).ok = true) : loadR P (o ++ ex) t a = loadR P o t a:=by
 unfold loadR at h ⊢
 split
 ·rename_i id idx off
  simp only at h
  cases ho : o[id]? with
  | none=>rw [ho] at h;simp [R1.no] at h
  | some x=>rw [getE_mono ho]
 ·rfl
 ·rfl
theorem idxR_mono {o ex : List Ob} {t : TypeId} {a i : AV} (h : (idxR P o t a i).ok = true) : idxR P (o ++ ex) t a i = idxR P o t a i:=by
 unfold idxR at h ⊢
 split
 ·rename_i e k n h1
  simp only [h1] at h
  split
  ·rfl
  ·rfl
  ·rename_i id off len
   simp only at h
   cases ho : o[id]? with
   | none=>rw [ho] at h;simp [R1.no] at h
   | some x=>rw [getE_mono ho]
  ·rfl
 ·rfl
 ·rfl
theorem mapEs_mono {o ex : List Ob} {a : AV} {es : List (AV × AV)} (h : mapEs o a = some es) : mapEs (o ++ ex) a = some es:=by
 cases a with
 | mp id =>
  simp only [mapEs] at h ⊢
  cases ho : o[id]? with
  | none=>rw [ho] at h;simp at h
  | some x=>rw [getE_mono ho];rw [ho] at h;exact h
 | _=>exact h
theorem lookR_mono {o ex : List Ob} {t : TypeId} {a i : AV} {c : Bool} (h : (lookR P o t a i c).ok = true) : lookR P (o ++ ex) t a i c = lookR P o t a i c:=by
 unfold lookR at h ⊢
 split
 ·rename_i kt et h1
  simp only [h1] at h
  cases he : mapEs o a with
  | none=>rw [he] at h;simp [R1.no] at h
  | some es=>rw [mapEs_mono he]
 ·rfl
theorem lenR_mono {o ex : List Ob} {t : TypeId} {a : AV} (h : (lenR P o t a).ok = true) : lenR P (o ++ ex) t a = lenR P o t a:=by
 unfold lenR at h ⊢
 split<;>try rfl
 rename_i kt et id h1
 simp only [h1] at h
 cases ho : o[id]? with
 | none=>rw [ho] at h;simp [R1.no] at h
 | some x=>rw [getE_mono ho]
theorem sliceR_mono {o ex : List Ob} {t : TypeId} {a : AV} {lo hi mx : Option AV} (h : (sliceR P o t a lo hi mx).ok = true) : sliceR P (o ++ ex) t a lo hi mx = sliceR P o t a lo hi mx:=by
 unfold sliceR at h ⊢
 split
 ·rfl
 ·simp only at h
  split<;>try rfl
  rename_i e id off len h1
  simp only [h1] at h
  split<;>try rfl
  rename_i l hh e1 e2
  simp only [e1,e2,Bool.and_eq_true,beq_iff_eq] at h
  have h5:=h.2
  unfold refSz at h5 ⊢
  cases ho : o[id]? with
  | none=>rw [ho] at h5;cases h5
  | some x=>rw [getE_mono ho]
theorem pureOp_mono {o ex : List Ob} {op : Op} {ρ : Operand → AV} (h : (pureOp P o op ρ).ok = true) : pureOp P (o ++ ex) op ρ = pureOp P o op ρ:=by
 cases op with
 | load t a=>exact loadR_mono h
 | indexAddr t x i=>exact idxR_mono h
 | lookup t x i c=>exact lookR_mono h
 | slice t x l h' m=>exact sliceR_mono h
 | call c =>
  simp only [pureOp] at h ⊢
  split
  ·rename_i hc
   simp only [hc] at h
   split
   ·rename_i x t e1 e2
    simp only [e1,e2] at h
    exact lenR_mono h
   ·rfl
  ·rfl
  ·rfl
  ·rfl
 | makeFunc f _ _=>cases f<;>rfl
 | _=>rfl
theorem slotR_mono {o : Oper} {g : Bool} {r : R1} {t : Nat → AV} {ob ex : List Ob} (h : slotR P tk o ⟨t,ob⟩ g = some r) (hok : r.ok = true) : slotR P tk o ⟨t,ob ++ ex⟩ g = some r:=by
 unfold slotR at h ⊢
 cases hop : o.op<;>rw [hop] at h<;>simp only at h ⊢
 case load ty a =>
  split
  ·rename_i d hd
   rw [hd] at h
   simp only at h
   split
   ·rename_i e;rw [if_pos e] at h;exact h
   ·rename_i e
    rw [if_neg e] at h
    have h:=Option.some.inj h
    rw [← h] at hok ⊢
    rw [loadR_mono hok]
  ·rename_i hd;rw [hd] at h;exact h
 case call c =>
  split
  ·rename_i hc;rw [hc] at h;exact h
  ·rename_i hc
   have h' : some (pureOp P ob (.call c) fun x=>ung g (opd t x)) = some r:=by
    revert h
    split
    ·intro h;cases h
    ·exact fun h=>h
   have h':=Option.some.inj h'
   rw [← h'] at hok ⊢
   rw [pureOp_mono hok]
 all_goals first
  | exact h
  | (have h':=Option.some.inj h;rw [← h'] at hok ⊢;rw [pureOp_mono hok])
theorem CallD.mono {o : Oper} {ac : List AV} {r : AV} {t : Nat → AV} {ob ex : List Ob} (h : CallD P n o ⟨t,ob⟩ ac r) : CallD P n o ⟨t,ob ++ ex⟩ ac r:=by
 obtain ⟨⟨c,x,b,f,caps,ids,oc,h1,h2,h3,h4,h5,H,h6,h9,h7⟩,h8,h10⟩:=h
 exact ⟨⟨c,x,b,f,caps,ids,oc,h1,h2,h3,h4,h5,H.mono,h6,h9,h7⟩,h8,h10⟩
theorem Val.mono {o : Oper} {v : AV} {t : Nat → AV} {ob ex : List Ob} (h : Val P n gd tk o ⟨t,ob⟩ v) : Val P n gd tk o ⟨t,ob ++ ex⟩ v:=by
 unfold Val at h ⊢
 refine ⟨h.1,?_⟩
 replace h:=h.2
 cases hg : o.guard with
 | none =>
  simp only [hg] at h ⊢
  rcases h with ⟨r,h1,h2,h3⟩ | ⟨ac,h1,h2⟩
  ·exact .inl ⟨r,slotR_mono h1 h2,h2,h3⟩
  ·exact .inr ⟨ac,h1.mono,h2⟩
 | some jw =>
  obtain ⟨j,want⟩:=jw
  simp only [hg] at h ⊢
  obtain ⟨t1,h0,x,e1,e2,h⟩:=h
  refine ⟨t1,h0,x,e1,e2,?_⟩
  cases hc : (h0 && x == want) with
  | true =>
   rw [hc] at h
   rcases h with ⟨r,h1,h2,h3⟩ | ⟨ac,r,h1,h2,h3⟩
   ·exact .inl ⟨r,slotR_mono h1 (h2 rfl),h2,h3⟩
   ·exact .inr ⟨ac,r,fun e=>(h1 e).mono,h2,h3⟩
  | false =>
   rw [hc] at h
   rcases h with ⟨r,h1,h2,h3⟩ | ⟨ac,r,h1,h2,h3⟩
   ·exact .inr ⟨[],r.v,fun e=>by simp at e,rfl,h3⟩
   ·exact .inr ⟨ac,r,fun e=>by simp at e,h2,h3⟩
theorem slotR_S {o : Oper} {g : Bool} {t : Nat → AV} {ob ob' : List Ob} (hS : isS o = true) : slotR P tk o ⟨t,ob⟩ g = slotR P tk o ⟨t,ob'⟩ g:=by
 unfold isS at hS
 unfold slotR
 cases hop : o.op<;>rw [hop] at hS<;>simp only at hS ⊢<;>first
  | rfl
  | (cases hS;done)
  | (simp only [pureOp];done)
  | (rename_i f _ _;cases f<;>rfl)
theorem CallD.notS {o : Oper} {ac : List AV} {r : AV} (hS : isS o = true) (h : CallD P n o s ac r) : False:=by
 obtain ⟨⟨c,x,b,f,caps,ids,oc,h1,_⟩,_⟩:=h
 unfold isS at hS
 rw [h1] at hS
 cases hS
theorem Val.S {o : Oper} {v : AV} {t : Nat → AV} {ob ob' : List Ob} (hS : isS o = true) (h : Val P n gd tk o ⟨t,ob⟩ v) : Val P n gd tk o ⟨t,ob'⟩ v:=by
 unfold Val at h ⊢
 refine ⟨h.1,?_⟩
 replace h:=h.2
 cases hg : o.guard with
 | none =>
  simp only [hg] at h ⊢
  rcases h with ⟨r,h1,h2,h3⟩ | ⟨ac,h1,h2⟩
  ·exact .inl ⟨r,by rw [← slotR_S hS];exact h1,h2,h3⟩
  ·exact (h1.notS hS).elim
 | some jw =>
  obtain ⟨j,want⟩:=jw
  simp only [hg] at h ⊢
  obtain ⟨t1,h0,x,e1,e2,h⟩:=h
  refine ⟨t1,h0,x,e1,e2,?_⟩
  rcases h with ⟨r,h1,h2,h3⟩ | ⟨ac,r,h1,h2,h3⟩
  ·exact .inl ⟨r,by rw [← slotR_S hS];exact h1,h2,h3⟩
  ·exact .inr ⟨ac,r,fun e=>((h1 e).notS hS).elim,h2,h3⟩
theorem step1_A {o : Oper} (hA : isA tk o = true) (hok : (step1 P n tk o s).1 = true) : ∃ x,(step1 P n tk o s).2.o = s.o ++ [x]:=by
 unfold isA at hA
 unfold step1 at hok ⊢
 have hput : ∀ (st : St) (d : Option Nat) (v : AV),(st.put d v).o = st.o:=fun st d v=>by cases d<;>rfl
 cases hop : o.op<;>rw [hop] at hA hok<;>simp only at hA hok ⊢<;>first | (cases hA;done) | skip
 case alloc e =>
  split at hok
  ·exact ⟨_,hput _ _ _⟩
  ·cases hok
 case box e x =>
  split at hok
  ·rename_i h;rw [if_pos h];exact ⟨_,hput _ _ _⟩
  ·cases hok
 case makeMap t r =>
  split at hok
  ·exact ⟨_,hput _ _ _⟩
  ·cases hok
 case makeSlice t l c =>
  unfold mkSliceS at hok ⊢
  split at hok
  ·split at hok
   ·rename_i h;simp only [h];exact ⟨_,hput _ _ _⟩
   ·cases hok
  ·cases hok
 case buildSlice t len parts =>
  simp only [Bool.and_eq_true,bne_iff_ne] at hA
  rw [if_pos hA] at hok ⊢
  unfold bslS at hok ⊢
  split at hok
  ·split at hok
   ·rename_i h;simp only [h];exact ⟨_,hput _ _ _⟩
   ·cases hok
  ·cases hok
structure SameO (o o' : List Ob) : Prop where
 get : ∀ i : Nat,o'[i]? = o[i]? ∨ ∃ sz rows rows',o[i]? = some (.cells sz rows) ∧ o'[i]? = some (.cells sz rows') ∧ rows'.map (fun r=>r.map AV.dat) = rows.map fun r=>r.map AV.dat
theorem SameO.refl (o : List Ob) : SameO o o:=⟨fun _=>.inl rfl⟩
theorem dat_dat (a : AV) : a.dat.dat = a.dat:=by
 cases a with
 | gd g v=>simp only [AV.dat];rw [dat_dat v]
 | _=>rfl
theorem map_dat_get {rows rows' : List (List AV)} (h : rows'.map (fun r=>r.map AV.dat) = rows.map fun r=>r.map AV.dat) : rows'.length = rows.length ∧ ∀ i,(rows'.getD i []).length = (rows.getD i []).length ∧ (rows'.getD i []).map AV.dat = (rows.getD i []).map AV.dat ∧ ∀ c,((rows'.getD i []).getD c .any).dat = ((rows.getD i []).getD c .any).dat:=by
 have hl : rows'.length = rows.length:=by have:=congrArg List.length h;simpa using this
 refine ⟨hl,fun i=>?_⟩
 have hr : (rows'.getD i []).map AV.dat = (rows.getD i []).map AV.dat:=by
  have:=congrArg (fun l=>l[i]?) h
  simp only [List.getElem?_map] at this
  simp only [List.getD_eq_getElem?_getD]
  cases h1 : rows'[i]? with
  | none =>
   cases h2 : rows[i]? with
   | none=>rfl
   | some x=>rw [h1,h2] at this;cases this
  | some x =>
   cases h2 : rows[i]? with
   | none=>rw [h1,h2] at this;cases this
   | some y=>rw [h1,h2] at this;simpa using this
 refine ⟨by have:=congrArg List.length hr;simpa using this,hr,fun c=>?_⟩
 have:=congrArg (fun l=>l[c]?) hr
 simp only [List.getElem?_map] at this
 generalize rows'.getD i [] = a at this ⊢
 generalize rows.getD i [] = b at this ⊢
 rw [List.getD_eq_getElem?_getD,List.getD_eq_getElem?_getD]
 cases h1 : a[c]? with
 | none =>
  cases h2 : b[c]? with
  | none=>rfl
  | some x=>rw [h1,h2] at this;cases this
 | some x =>
  cases h2 : b[c]? with
  | none=>rw [h1,h2] at this;cases this
  | some y=>rw [h1,h2] at this;simpa using this
theorem loadR_same {o o' : List Ob} (h : SameO o o') (t : TypeId) (a : AV) : loadR P o' t a = loadR P o t a:=by
 unfold loadR
 split
 ·rename_i id idx off
  rcases h.get id with e | ⟨sz,rows,rows',e1,e2,e3⟩
  ·rw [e]
  ·rw [e1,e2]
   obtain ⟨g1,g2⟩:=map_dat_get e3
   obtain ⟨g3,g4,g5⟩:=g2 idx
   simp only
   congr 1
   ·rw [g1]
    congr 1
    unfold loadOk
    rw [g3]
   ·unfold loadAV
    split
    ·congr 1
     rw [List.map_take,List.map_drop,List.map_take,List.map_drop,g4]
    ·exact g5 off
 ·rfl
 ·rfl
theorem idxR_same {o o' : List Ob} (h : SameO o o') (t : TypeId) (a i : AV) : idxR P o' t a i = idxR P o t a i:=by
 unfold idxR
 split
 ·split<;>try rfl
  rename_i id off len
  rcases h.get id with e | ⟨sz,rows,rows',e1,e2,e3⟩
  ·rw [e]
  ·rw [e1,e2]
 ·rfl
 ·rfl
theorem mapEs_same {o o' : List Ob} (h : SameO o o') (a : AV) : mapEs o' a = mapEs o a:=by
 unfold mapEs
 split<;>try rfl
 rename_i id
 rcases h.get id with e | ⟨sz,rows,rows',e1,e2,e3⟩
 ·rw [e]
 ·rw [e1,e2]
theorem lookR_same {o o' : List Ob} (h : SameO o o') (t : TypeId) (a i : AV) (c : Bool) : lookR P o' t a i c = lookR P o t a i c:=by
 unfold lookR
 rw [mapEs_same h]
theorem lenR_same {o o' : List Ob} (h : SameO o o') (t : TypeId) (a : AV) : lenR P o' t a = lenR P o t a:=by
 unfold lenR
 split<;>try rfl
 rename_i id _
 rcases h.get id with e | ⟨sz,rows,rows',e1,e2,e3⟩
 ·rw [e]
 ·rw [e1,e2]
theorem sliceR_same {o o' : List Ob} (h : SameO o o') (t : TypeId) (a : AV) (lo hi mx : Option AV) : sliceR P o' t a lo hi mx = sliceR P o t a lo hi mx:=by
 unfold sliceR
 split
 ·rfl
 ·split<;>try rfl
  have : ∀ id,refSz o' id = refSz o id:=by
   intro id
   unfold refSz
   rcases h.get id with e | ⟨sz,rows,rows',e1,e2,e3⟩
   ·rw [e]
   ·rw [e1,e2]
  simp only [this]
theorem pureOp_same {o o' : List Ob} (h : SameO o o') (op : Op) (ρ : Operand → AV) : pureOp P o' op ρ = pureOp P o op ρ:=by
 cases op with
 | load t a=>exact loadR_same h _ _
 | indexAddr t x i=>exact idxR_same h _ _ _
 | lookup t x i c=>exact lookR_same h _ _ _ _
 | slice t x l h' m=>exact sliceR_same h _ _ _ _ _
 | call c =>
  simp only [pureOp]
  split
  ·split
   ·exact lenR_same h _ _
   ·rfl
  ·rfl
  ·rfl
  ·rfl
 | makeFunc f _ _=>cases f<;>rfl
 | _=>rfl
theorem slotR_same {o : Oper} {g : Bool} {t : Nat → AV} {ob ob' : List Ob} (h : SameO ob ob') : slotR P tk o ⟨t,ob'⟩ g = slotR P tk o ⟨t,ob⟩ g:=by
 unfold slotR
 cases o.op<;>simp only [loadR_same h,pureOp_same h]
theorem Val.same {o : Oper} {v : AV} {t : Nat → AV} {ob ob' : List Ob} (hc : isCall o = false) (hs : SameO ob ob') (h : Val P n gd tk o ⟨t,ob⟩ v) : Val P n gd tk o ⟨t,ob'⟩ v:=by
 have nocall : ∀ {ac : List AV} {r : AV} {s : St},CallD P n o s ac r → False:=by
  rintro ac r s ⟨⟨c,x,b,f,caps,ids,oc,h1,h2,_⟩,_,_⟩
  unfold isCall at hc
  rw [h1] at hc
  simp only [h2] at hc
  cases hc
 obtain ⟨d,h⟩:=h
 refine ⟨d,?_⟩
 cases hg : o.guard with
 | none =>
  simp only [hg] at h ⊢
  rcases h with ⟨r,h1,h2,h3⟩ | ⟨ac,h1,h2⟩
  ·exact .inl ⟨r,by rw [slotR_same hs];exact h1,h2,h3⟩
  ·exact (nocall h1).elim
 | some jw =>
  obtain ⟨j,want⟩:=jw
  simp only [hg] at h ⊢
  obtain ⟨t1,h0,x,e1,e2,h⟩:=h
  refine ⟨t1,h0,x,e1,e2,?_⟩
  rcases h with ⟨r,h1,h2,h3⟩ | ⟨ac,r,h1,h2,h3⟩
  ·exact .inl ⟨r,by rw [slotR_same hs];exact h1,h2,h3⟩
  ·exact .inr ⟨ac,r,fun e=>(nocall (h1 e)).elim,h2,h3⟩
theorem step1_N {o : Oper} (hN : isN tk o = true) (hok : (step1 P n tk o s).1 = true) : SameO s.o (step1 P n tk o s).2.o:=by
 unfold isN at hN
 unfold step1 at hok ⊢
 cases hop : o.op<;>rw [hop] at hN hok<;>simp only at hN hok ⊢<;>first | (cases hN;done) | skip
 case load t a =>
  cases hd : o.dst with
  | none=>rw [hd] at hN;cases hN
  | some d =>
   rw [hd] at hN hok
   simp only at hN hok ⊢
   rw [if_pos hN] at hok ⊢
   unfold takeS at hok ⊢
   split at hok
   ·rename_i id idx off ha
    simp only at hok ⊢
    split at hok
    ·rename_i sz rows hid
     split at hok
     ·rename_i hown
      rw [if_pos hown]
      refine ⟨fun i=>?_⟩
      rw [set_get hid]
      split
      ·rename_i e
       subst e
       right
       refine ⟨sz,rows,_,hid,rfl,?_⟩
       apply List.ext_getElem?
       intro r
       simp only [List.getElem?_map,rset_get]
       split
       ·rename_i e
        subst e
        cases hr : rows[idx]? with
        | none=>rfl
        | some row =>
         simp only [Option.map_some,Option.some.injEq]
         apply List.ext_getElem?
         intro c
         simp only [List.getElem?_map,List.getElem?_set]
         split
         ·rename_i e
          subst e
          split
          ·rename_i hlt
           have : (rows.getD idx []).getD off .any = row[off]:=by
            rw [List.getD_eq_getElem?_getD,List.getD_eq_getElem?_getD,hr]
            simp [hlt]
           rw [List.getElem?_eq_getElem hlt]
           simp only [Option.map_some,Option.some.injEq]
           rw [this,dat_dat]
          ·rename_i hlt
           rw [List.getElem?_eq_none (by omega)]
         ·rfl
       ·rfl
      ·exact .inl rfl
     ·rename_i hown
      rw [if_neg hown]
      exact .refl _
    ·cases hok
   ·cases hok
 case call c =>
  split at hN
  ·rename_i hc
   simp only [hc] at hok ⊢
   have hf : ¬ tk.contains 1000000 = true:=by simpa using hN
   split at hok
   ·rename_i k x t t2 ha hat
    rw [if_neg hf] at hok ⊢
    unfold appS at hok ⊢
    split at hok
    ·rename_i e d h1 h2
     split at hok
     ·rename_i nr hnr
      skip
      split at hok
      ·exact .refl _
      ·exact .refl _
      ·exact .refl _
      ·cases hok
     ·cases hok
    ·cases hok
   ·cases hok
  ·cases hN
def puts (l : List (Nat × AV)) (s : St) : St:=l.foldl (fun s x=>s.put (some x.1) x.2) s
theorem puts_o : ∀ (l : List (Nat × AV)) (s : St),(puts l s).o = s.o
 | [],_=>rfl
 | x :: l,s=>puts_o l (s.put (some x.1) x.2)
theorem step1_M {o : Oper} (hM : isM tk o = true) (hok : (step1 P n tk o s).1 = true) : ∃ l : List (Nat × AV),(∀ x ∈ l,Operand.tmp x.1 ∈ o.op.operands ∨ o.dst = some x.1) ∧ (step1 P n tk o s).2 = puts l s:=by
 have mv : ∀ (up : Bool) (d : Nat) (ty : TypeId) (k : Nat),(Operand.tmp k ∈ o.op.operands) → o.dst = some d → ∃ l : List (Nat × AV),(∀ x ∈ l,Operand.tmp x.1 ∈ o.op.operands ∨ o.dst = some x.1) ∧ (mvS up P n d ty k s).2 = puts l s:=by
  intro up d ty k hk hd
  unfold mvS
  split
  ·refine ⟨[(k,(s.t k).dat),(d,s.t k)],fun x hx=>?_,rfl⟩
   simp only [List.mem_cons,List.not_mem_nil,or_false] at hx
   rcases hx with rfl | rfl
   ·exact .inl hk
   ·exact .inr hd
  ·refine ⟨[(d,upAV (elU up P ty) (s.t k))],fun x hx=>?_,rfl⟩
   simp only [List.mem_cons,List.not_mem_nil,or_false] at hx
   subst hx
   exact .inr hd
 unfold isM at hM
 unfold step1 at hok ⊢
 cases hop : o.op<;>rw [hop] at hM hok mv<;>simp only at hM hok mv ⊢<;>first | (cases hM;done) | skip
 case move x =>
  cases x with
  | tmp k =>
   cases hd : o.dst with
   | none=>rw [hd] at hM;cases hM
   | some d =>
    rw [hd] at hM hok
    simp only at hM hok ⊢
    rw [if_pos hM] at hok ⊢
    exact hd ▸ mv (upT tk) d o.type k (by simp [Op.operands]) hd
  | _=>cases hM
 case assign x =>
  cases x with
  | tmp k =>
   cases hd : o.dst with
   | none=>rw [hd] at hM;cases hM
   | some d =>
    simp only
    exact hd ▸ mv (upT tk) d o.type k (by simp [Op.operands]) hd
  | _=>cases hM
 case call c =>
  cases hc : c.callee with
  | builtin b =>
   rw [hc] at hM hok
   cases b<;>first | (cases hM;done) | skip
   simp only at hM hok ⊢
   split at hok
   ·rename_i k x t t2 ha ht
    have hf : ¬ (tk.contains 1000000 = true):=by simpa using hM
    rw [if_neg hf] at hok ⊢
    have hk : Operand.tmp k ∈ c.args.toList:=by rw [ha];simp
    have hko : Operand.tmp k ∈ (Op.call c).operands:=by
     have hk' : Operand.tmp k ∈ c.args:=by simpa using hk
     show Operand.tmp k ∈ c.operands
     unfold Call.operands
     exact Array.mem_append.2 (.inr hk')
    unfold appS at hok ⊢
    split at hok
    ·rename_i e d h1 h2
     split at hok
     ·rename_i nr hnr
      split at hok
      ·rename_i sz rows hrow
       refine ⟨[(k,(s.t k).dat),(d,.own (szOf P e) (rows ++ nr))],fun x hx=>?_,rfl⟩
       simp only [List.mem_cons,List.not_mem_nil,or_false] at hx
       rcases hx with rfl | rfl
       ·exact .inl hko
       ·exact .inr h2
      ·refine ⟨[(d,.own (szOf P e) nr)],fun x hx=>?_,rfl⟩
       simp only [List.mem_cons,List.not_mem_nil,or_false] at hx
       subst hx
       exact .inr h2
      ·refine ⟨[(d,.own (szOf P e) nr)],fun x hx=>?_,rfl⟩
       simp only [List.mem_cons,List.not_mem_nil,or_false] at hx
       subst hx
       exact .inr h2
      ·cases hok
     ·cases hok
    ·cases hok
   ·cases hok
  | _=>rw [hc] at hM;cases hM
theorem D_swap2 {p e : Oper} {r : List Oper} (h : indep2 gd tk p e = true) (k : D P n gd tk (p :: e :: r) K s) : D P n gd tk (e :: p :: r) K s:=by
 simp only [indep2,Bool.and_eq_true,Bool.not_eq_true',Bool.or_eq_true] at h
 obtain ⟨⟨⟨⟨⟨⟨qp,qe⟩,ce⟩,hob⟩,h1⟩,h2⟩,h3⟩:=h
 simp only [D,qp,qe,ce,if_true,if_false,Bool.false_eq_true] at k ⊢
 obtain ⟨v,k1,hg,s1,k2,k3⟩:=k
 -- the second one,done first
 have hfr : ∃ s2,step1 P n tk e s = (true,s2) ∧ s1 = s2.put p.dst v:=by
  cases hd : p.dst with
  | none=>rw [hd] at k2;exact ⟨s1,k2,rfl⟩
  | some d =>
   rw [hd] at k2 h1
   simp only [Bool.and_eq_true,Bool.not_eq_true',bne_iff_ne] at h1
   rw [step1_frame (fun x hx hxd=>?_) h1.2 ce] at k2
   ·simp only [Prod.mk.injEq] at k2
    exact ⟨_,by rw [← k2.1],k2.2.symm⟩
   ·subst hxd
    have : d ∈ readsL gd e:=by
     unfold readsL
     exact List.mem_append_left _ (List.mem_filterMap.2 ⟨.tmp d,by simpa using hx,rfl⟩)
    rw [List.contains_eq_mem] at h1
    simp [this] at h1
 obtain ⟨s2,e1,rfl⟩:=hfr
 refine ⟨hg,s2,e1,v,?_,k3⟩
 -- what the first one puts is the same
 have hslot : ∀ j,j ∈ readsL gd p → s2.t j = s.t j:=by
  intro j hj
  have hself : s.put (some j) (s.t j) = s:=by
   obtain ⟨t,ob⟩:=s
   simp only [St.put,upd_self]
  have:=step1_frame (P:=P) (n:=n) (tk:=tk) (s:=s) (o:=e) (d:=j) (v:=s.t j) (fun x hx hxj=>?_) (fun hd=>?_) ce
  ·rw [hself,e1] at this
   simp only [Prod.mk.injEq,true_and] at this
   have h4:=congrArg (fun st : St=>st.t j) this
   simpa [St.put,upd] using h4
  ·subst hxj
   have h5 : j ∈ readsL gd e:=by
    unfold readsL
    exact List.mem_append_left _ (List.mem_filterMap.2 ⟨.tmp j,by simpa using hx,rfl⟩)
   rw [List.all_eq_true] at h3
   have:=h3 j h5
   rw [List.contains_eq_mem] at this
   simp [hj] at this
  ·rw [hd] at h2
   simp only [List.contains_eq_mem] at h2
   simp [hj] at h2
 have hag : Agree gd p s ⟨s2.t,s.o⟩:=by
  refine ⟨fun x hx=>?_,fun j want t hg ht=>?_,rfl⟩
  ·cases x with
   | tmp j =>
    refine (hslot j ?_).symm
    unfold readsL
    exact List.mem_append_left _ (List.mem_filterMap.2 ⟨.tmp j,by simpa using hx,rfl⟩)
   | _=>rfl
  ·refine (hslot t ?_).symm
   unfold readsL
   refine List.mem_append_right _ ?_
   rw [hg];simp only [ht];simp
 have hv:=k1.congr hag
 rcases hob with ((hS | hA) | hNN) | hMM
 ·exact Val.S hS hv
 rotate_left 2
 ·obtain ⟨l,_,hl⟩:=step1_M (P:=P) (n:=n) (tk:=tk) (s:=s) hMM (by rw [e1])
  rw [e1] at hl
  have hso : s2.o = s.o:=by
   have:=congrArg St.o hl
   rw [puts_o] at this
   exact this
  have hag2 : Agree gd p s s2:=⟨hag.ops,hag.grd,hso.symm⟩
  exact k1.congr hag2
 rotate_left
 ·have hsame:=step1_N (P:=P) (n:=n) (tk:=tk) (s:=s) hNN.1 (by rw [e1])
  rw [e1] at hsame
  exact Val.same hNN.2 hsame hv
 ·obtain ⟨x,hx⟩:=step1_A (P:=P) (n:=n) (tk:=tk) (s:=s) hA (by rw [e1])
  rw [e1] at hx
  have:=Val.mono (ex:=[x]) hv
  rw [← hx] at this
  exact this
def indep3 (gd : List (Option Nat)) (tk : List Nat) (a b : Oper) : Bool:=indep2 gd tk b a && isS b
theorem D_swap3 {p e : Oper} {r : List Oper} (h : indep3 gd tk p e = true) (k : D P n gd tk (p :: e :: r) K s) : D P n gd tk (e :: p :: r) K s:=by
 simp only [indep3,indep2,Bool.and_eq_true,Bool.not_eq_true',Bool.or_eq_true] at h
 obtain ⟨⟨⟨⟨⟨⟨⟨qe,qp⟩,cp⟩,_⟩,h1⟩,h2⟩,h3⟩,hS⟩:=h
 simp only [D,qp,qe,cp,if_true,if_false,Bool.false_eq_true] at k ⊢
 obtain ⟨hg,s1,k1,v,k2,k3⟩:=k
 have hslot : ∀ j,j ∈ readsL gd e → s1.t j = s.t j:=by
  intro j hj
  have hself : s.put (some j) (s.t j) = s:=by
   obtain ⟨t,ob⟩:=s
   simp only [St.put,upd_self]
  have:=step1_frame (P:=P) (n:=n) (tk:=tk) (s:=s) (o:=p) (d:=j) (v:=s.t j) (fun x hx hxj=>?_) (fun hd=>?_) cp
  ·rw [hself,k1] at this
   simp only [Prod.mk.injEq,true_and] at this
   have h4:=congrArg (fun st : St=>st.t j) this
   simpa [St.put,upd] using h4
  ·subst hxj
   have h5 : j ∈ readsL gd p:=by
    unfold readsL
    exact List.mem_append_left _ (List.mem_filterMap.2 ⟨.tmp j,by simpa using hx,rfl⟩)
   rw [List.all_eq_true] at h3
   have:=h3 j h5
   rw [List.contains_eq_mem] at this
   simp [hj] at this
  ·rw [hd] at h2
   simp only [List.contains_eq_mem] at h2
   simp [hj] at h2
 have hag : Agree gd e s1 ⟨s.t,s1.o⟩:=by
  refine ⟨fun x hx=>?_,fun j want t hg ht=>?_,rfl⟩
  ·cases x with
   | tmp j =>
    refine hslot j ?_
    unfold readsL
    exact List.mem_append_left _ (List.mem_filterMap.2 ⟨.tmp j,by simpa using hx,rfl⟩)
   | _=>rfl
  ·refine hslot t ?_
   unfold readsL
   refine List.mem_append_right _ ?_
   rw [hg];simp only [ht];simp
 refine ⟨v,Val.S hS (k2.congr hag),hg,s1.put e.dst v,?_,k3⟩
 cases hd : e.dst with
 | none=>exact k1
 | some d =>
  rw [hd] at h1
  simp only [Bool.and_eq_true,Bool.not_eq_true',bne_iff_ne] at h1
  rw [step1_frame (fun x hx hxd=>?_) h1.2 cp,k1]
  subst hxd
  have : d ∈ readsL gd p:=by
   unfold readsL
   exact List.mem_append_left _ (List.mem_filterMap.2 ⟨.tmp d,by simpa using hx,rfl⟩)
  rw [List.contains_eq_mem] at h1
  simp [this] at h1
def indep4 (gd : List (Option Nat)) (tk : List Nat) (a b : Oper) : Bool :=
 isM tk a && isM tk b && !isQ tk a && !isQ tk b && !isCall a && !isCall b && (readsL gd a ++ a.dst.toList).all fun k=>!(readsL gd b ++ b.dst.toList).contains k
theorem step1_puts {o : Oper} (hc : isCall o = false) : ∀ (l : List (Nat × AV)) (s : St),(∀ x ∈ l,¬ x.1 ∈ readsL gd o ++ o.dst.toList) → step1 P n tk o (puts l s) = ((step1 P n tk o s).1,puts l (step1 P n tk o s).2)
 | [],_,_=>rfl
 | x :: l,s,h=>by
  have hx:=h x (by simp)
  have h1:=step1_frame (P:=P) (n:=n) (tk:=tk) (s:=s) (o:=o) (d:=x.1) (v:=x.2) (fun y hy e=>by
   subst e
   refine hx (List.mem_append_left _ ?_)
   unfold readsL
   exact List.mem_append_left _ (List.mem_filterMap.2 ⟨.tmp x.1,by simpa using hy,rfl⟩)) (fun e=>hx (List.mem_append_right _ (by rw [e];simp))) hc
  have h2:=step1_puts hc l (s.put (some x.1) x.2) fun y hy=>h y (by simp [hy])
  show step1 P n tk o (puts l (s.put (some x.1) x.2)) = _
  rw [h2,h1]
  rfl
theorem puts_put : ∀ (l : List (Nat × AV)) (s : St) (k : Nat) (v : AV),(∀ x ∈ l,x.1 ≠ k) → puts l (s.put (some k) v) = (puts l s).put (some k) v
 | [],_,_,_,_=>rfl
 | x :: l,s,k,v,h=>by
  have hx:=h x (by simp)
  show puts l ((s.put (some k) v).put (some x.1) x.2) = (puts l (s.put (some x.1) x.2)).put (some k) v
  rw [← puts_put l _ k v fun y hy=>h y (by simp [hy])]
  congr 1
  obtain ⟨t,ob⟩:=s
  simp only [St.put,St.mk.injEq,and_true]
  funext j
  simp only [upd]
  by_cases h1 : j = x.1
  ·subst h1
   simp [hx]
  ·simp [h1]
theorem puts_puts : ∀ (l r : List (Nat × AV)) (s : St),(∀ x ∈ l,∀ y ∈ r,x.1 ≠ y.1) → puts l (puts r s) = puts r (puts l s)
 | l,[],s,_=>rfl
 | l,y :: r,s,h=>by
  show puts l (puts r (s.put (some y.1) y.2)) = puts r ((puts l s).put (some y.1) y.2)
  rw [puts_puts l r _ fun x hx z hz=>h x hx z (by simp [hz]),puts_put l s y.1 y.2 fun x hx=>h x hx y (by simp)]
theorem D_swap4 {p e : Oper} {r : List Oper} (h : indep4 gd tk p e = true) (k : D P n gd tk (p :: e :: r) K s) : D P n gd tk (e :: p :: r) K s:=by
 simp only [indep4,Bool.and_eq_true,Bool.not_eq_true'] at h
 obtain ⟨⟨⟨⟨⟨⟨mp,me⟩,qp⟩,qe⟩,cp⟩,ce⟩,hd⟩:=h
 simp only [D,qp,qe,cp,ce,if_false,Bool.false_eq_true] at k ⊢
 obtain ⟨hg1,s1,k1,hg2,s2,k2,k3⟩:=k
 have hdis : ∀ x,x ∈ readsL gd p ++ p.dst.toList → ¬ x ∈ readsL gd e ++ e.dst.toList:=by
  intro x hx hy
  rw [List.all_eq_true] at hd
  have:=hd x hx
  rw [List.contains_eq_mem] at this
  simp [hy] at this
 have rd : ∀ (o : Oper) (x : Nat),(Operand.tmp x ∈ o.op.operands ∨ o.dst = some x) → x ∈ readsL gd o ++ o.dst.toList:=by
  intro o x hx
  rcases hx with hx | hx
  ·refine List.mem_append_left _ ?_
   unfold readsL
   exact List.mem_append_left _ (List.mem_filterMap.2 ⟨.tmp x,by simpa using hx,rfl⟩)
  ·exact List.mem_append_right _ (by rw [hx];simp)
 obtain ⟨l,hl,el⟩:=step1_M (P:=P) (n:=n) (tk:=tk) (s:=s) mp (by rw [k1])
 rw [k1] at el
 simp only at el
 subst el
 have hf1:=step1_puts (P:=P) (n:=n) (gd:=gd) (tk:=tk) (o:=e) ce l s (fun x hx=>hdis x.1 (rd p x.1 (hl x hx)))
 rw [k2] at hf1
 simp only [Prod.mk.injEq] at hf1
 have eok : (step1 P n tk e s).1 = true:=hf1.1.symm
 obtain ⟨l2,hl2,el2⟩:=step1_M (P:=P) (n:=n) (tk:=tk) (s:=s) me eok
 have hf2:=step1_puts (P:=P) (n:=n) (gd:=gd) (tk:=tk) (o:=p) cp l2 s (fun x hx hy=>hdis x.1 hy (rd e x.1 (hl2 x hx)))
 rw [k1] at hf2
 refine ⟨hg2,puts l2 s,by rw [← el2,← eok],hg1,s2,?_,k3⟩
 rw [hf2,hf1.2,el2]
 refine Prod.ext rfl ?_
 exact puts_puts l2 l s fun x hx y hy e1=>hdis y.1 (rd p y.1 (hl y hy)) (e1 ▸ rd e x.1 (hl2 x hx))
end
end Go.AW
namespace Go.AW
open Go
set_option linter.unusedSimpArgs false
set_option linter.unusedVariables false
section
variable {P : Program} {n : Nat} {gd : List (Option Nat)} {tk : List Nat} {Q : Exit → St → Prop} {s s' : St} {K : St → Prop}
theorem put_comm (s : St) {d e : Option Nat} (a b : AV) (h : ∀ k,d = some k → e ≠ some k) : (s.put d a).put e b = (s.put e b).put d a:=by
 cases d with
 | none=>rfl
 | some d =>
  cases e with
  | none=>rfl
  | some e =>
   have hne : e ≠ d:=fun k=>h d rfl (by rw [k])
   simp only [St.put]
   congr 1
   funext j
   simp only [upd]
   by_cases h1 : j = e
   ·subst h1;simp [hne]
   ·simp [h1]
theorem D_swap {a b : Oper} {r : List Oper} (h : indep gd tk a b = true) (k : D P n gd tk (a :: b :: r) K s) : D P n gd tk (b :: a :: r) K s:=by
 simp only [indep,Bool.and_eq_true] at h
 obtain ⟨⟨⟨qa,qb⟩,h1⟩,h2⟩:=h
 simp only [D,qa,qb,if_true] at k ⊢
 obtain ⟨v,k1,u,k2,k3⟩:=k
 have hab : Agree gd b s (s.put a.dst v):=Agree.put fun d hd=>by rw [hd] at h1;simp at h1;simp [h1.1]
 have hba : Agree gd a s (s.put b.dst u):=Agree.put fun d hd=>by rw [hd] at h2;simp at h2;simp [h2]
 refine ⟨u,k2.congr hab.symm,v,k1.congr hba,?_⟩
 rw [← put_comm s v u (fun d hd=>?_)]
 ·exact k3
 ·rw [hd] at h1;simp at h1;exact h1.2
theorem D_under : ∀ {l r r' : List Oper} {s : St},(∀ s,D P n gd tk r K s → D P n gd tk r' K s) → D P n gd tk (l ++ r) K s → D P n gd tk (l ++ r') K s
 | [],r,r',s,h,k=>h s k
 | o :: l,r,r',s,h,k=>by
  simp only [List.cons_append,D] at k ⊢
  split at k
  ·rename_i hq
   rw [if_pos hq]
   obtain ⟨v,h1,h2⟩:=k
   exact ⟨v,h1,D_under h h2⟩
  ·rename_i hq
   rw [if_neg hq]
   refine ⟨k.1,?_⟩
   have k2:=k.2
   split at k2
   ·rename_i hc
    rw [if_pos hc]
    exact k2.mono fun s hs=>D_under h hs
   ·rename_i hc
    rw [if_neg hc]
    obtain ⟨s',h1,h2⟩:=k2
    exact ⟨s',h1,D_under h h2⟩
theorem D_front {o : Oper} {post : List Oper} : ∀ (pre : List Oper) {s : St},(∀ p ∈ pre,(indep gd tk p o || indep2 gd tk p o || indep3 gd tk p o || indep4 gd tk p o) = true) → D P n gd tk (pre ++ o :: post) K s → D P n gd tk (o :: (pre ++ post)) K s
 | [],s,_,h=>h
 | p :: pre,s,hp,h=>by
  have hpo:=hp p (by simp)
  have hd : D P n gd tk (p :: o :: (pre ++ post)) K s:=by
   have : D P n gd tk ([p] ++ (pre ++ o :: post)) K s:=h
   have h2:=D_under (l:=[p]) (K:=K) (fun s' h'=>D_front pre (fun q hq=>hp q (by simp [hq])) h') this
   exact h2
  rw [Bool.or_eq_true,Bool.or_eq_true,Bool.or_eq_true] at hpo
  rcases hpo with ((hpo | hpo) | hpo) | hpo
  ·exact D_swap hpo hd
  ·exact D_swap2 hpo hd
  ·exact D_swap3 hpo hd
  ·exact D_swap4 hpo hd
theorem D_exec {ops : Array Oper} {i : Nat} {o : Oper} {r : List Oper} (hgd : ops.toList.map (·.dst) = gd) (hi : ops[i]? = some o) (h : D P n gd tk (o :: r) K s) {g : G} {a : Act} {w : World} (hn : g.n = n) (hat : At g s a w)
  {K' : Act → World → Prop} (hK : ∀ s' a' w',D P n gd tk r K s' → At g s' a' w' → K' a' w') {Q' : Exit → Act → World → Prop} : wpOp P ops Q' i K' a w:=by
 have plain : ∀ (s1 : St),o.guard = none → OpW P n o s (fun s2=>D P n gd tk r K s2) → wpOp P ops Q' i K' a w:=by
  intro s1 hg hop
  unfold wpOp
  simp only [hi]
  have hw : Region.wanted o (yielded ops a.tmps) = true:=by simp [Region.wanted,hg]
  simp only [hw,if_true]
  exact .inl (Oper.wp_q (Oper.wp_mono (fun a' w' ⟨s',h1,h2⟩=>hK s' a' w' h1 h2) (hop g a w hn hat)))
 by_cases hq : isQ tk o = true
 ·simp only [D,hq,if_true] at h
  obtain ⟨v,⟨hd,hv⟩,hr⟩:=h
  cases hg : o.guard with
  | none =>
   simp only [hg] at hv
   refine plain s hg ?_
   rcases hv with ⟨r1,h1,h2,rfl⟩ | ⟨ac,h1,h2⟩
   ·exact OpW_slot h1 h2 hd hr
   ·refine OpW_data h1 ?_
    rw [dropA_id o h2];exact hr
  | some jw =>
   obtain ⟨j,want⟩:=jw
   simp only [hg] at hv
   obtain ⟨t,h0,x,e1,e2,hv⟩:=hv
   have hy:=yield_b hgd hat e1 e2 want
   have hw : Region.wanted o (yielded ops a.tmps) = (h0 && x == want):=by simp only [Region.wanted,hg];exact hy
   unfold wpOp
   simp only [hi]
   cases hc : (h0 && x == want) with
   | true =>
    simp only [hw,hc,if_true]
    rw [hc] at hv
    have : OpW P n o s (fun s2=>D P n gd tk r K s2 ∨ ∃ r1,s2 = s.put o.dst r1 ∧ v = .gd true r1):=by
     rcases hv with ⟨r1,h1,h2,rfl⟩ | ⟨ac,r1,h1,h2,rfl⟩
     ·exact OpW_slot h1 (h2 rfl) hd (.inr ⟨_,rfl,rfl⟩)
     ·refine OpW_data (h1 rfl) ?_
      rw [dropA_id o h2];exact .inr ⟨_,rfl,rfl⟩
    refine .inl (Oper.wp_q (Oper.wp_mono ?_ (this g a w hn hat)))
    rintro a' w' ⟨s',h1,h2⟩
    rcases h1 with h1 | ⟨r1,rfl,rfl⟩
    ·exact hK s' a' w' h1 h2
    ·refine hK _ a' w' hr (h2.weak (put_le s o.dst (Le.gdI rfl _)) ?_)
     cases o.dst<;>rfl
   | false =>
    simp only [hw,hc,Bool.false_eq_true,if_false]
    rw [hc] at hv
    subst hn
    refine hK _ _ w hr (hat.putAny hd (fun w Y m=>?_) ?_)
    ·rcases hv with ⟨r1,h1,h2,rfl⟩ | ⟨ac,r1,h1,h2,rfl⟩<;>simp [V]
    ·rcases hv with ⟨r1,h1,h2,rfl⟩ | ⟨ac,r1,h1,h2,rfl⟩<;>rfl
 ·have hq : isQ tk o = false:=by simpa using hq
  simp only [D,hq,if_false,Bool.false_eq_true] at h
  refine plain s h.1 ?_
  cases hc : isCall o with
  | true=>simpa only [hc,if_true] using h.2
  | false =>
   obtain ⟨s',h1,h2⟩ : ∃ s',step1 P n tk o s = (true,s') ∧ D P n gd tk r K s':=by simpa only [hc,if_false,Bool.false_eq_true] using h.2
   exact OpW_step tk h1 h2
end
def dirs (ops : Array Oper) (i : Nat) : List Nat:=match ops[i]? with | some o=>(o.after.toList.filter (Region.binds .any)).map (·.on) | none=>[]
def drawOk (ops : Array Oper) (gd : List (Option Nat)) (tk : List Nat) (ord : List Nat) (tp : List (List Nat)) : Bool :=
 decide ord.Nodup && (List.range ops.size).all (ord.contains ·) && ord.all (fun i=>decide (i < ops.size)) &&
 (List.range ops.size).all (fun i=>(tp.getD i []).all fun j=>(dirs ops i).contains j || (dirs ops i).any fun k=>(tp.getD k []).contains j) &&
 (List.range ops.size).all (fun i=>(dirs ops i).all fun k=>k != i && decide (k < ops.size)) &&
 decide (ord.Pairwise fun a b=>(!(dirs ops a).contains b && ((tp.getD b []).contains a || (match ops[a]?,ops[b]? with | some x,some y=>indep gd tk x y || indep2 gd tk x y || indep3 gd tk x y || indep4 gd tk x y | _,_=>false))) = true) && ord.length == ops.size
section
variable {P : Program} {n : Nat} {gd : List (Option Nat)} {tk : List Nat} {Q : Exit → St → Prop} {s s' : St} {K : St → Prop}
theorem wpAny_of_D {ops : Array Oper} {ord : List Nat} {tp : List (List Nat)} (hgd : ops.toList.map (·.dst) = gd) (hok : drawOk ops gd tk ord tp = true) {g : G} (hn : g.n = n) :
  ∀ (fuel : Nat) (rem : List Nat) (listed : Array Bool) (s : St) (a : Act) (w : World),rem.length = fuel → rem.Sublist ord → listed.size = ops.size →
   (∀ i,i < ops.size → (listed.getD i true = false ↔ i ∈ rem)) → (∀ k,k < ops.size → k ∉ rem → ∀ j ∈ tp.getD k [],j ∉ rem) →
   D P n gd tk (rem.filterMap (ops[·]?)) (Q .normal) s → At g s a w → wpAny P .any ops (QL g Q) fuel listed a w:=by
 simp only [drawOk,Bool.and_eq_true,decide_eq_true_eq,List.all_eq_true,List.mem_range,Bool.or_eq_true,List.contains_iff_mem,List.any_eq_true,bne_iff_ne,beq_iff_eq] at hok
 obtain ⟨⟨⟨⟨⟨⟨c1,c2⟩,c3⟩,c4⟩,c5⟩,c6⟩,c7⟩:=hok
 intro fuel
 induction fuel with
 | zero =>
  intro rem listed s a w hl hsub hsz hli hcl hD hat
  have : rem = []:=List.eq_nil_of_length_eq_zero hl
  subst this
  refine ⟨?_,s,hD,hat⟩
  unfold Region.ready
  rw [List.filter_eq_nil_iff]
  intro i hi
  have:=(hli i (List.mem_range.1 hi))
  simp only [List.not_mem_nil,iff_false,Bool.not_eq_false] at this
  simp [this]
 | succ fuel ih =>
  intro rem listed s a w hl hsub hsz hli hcl hD hat
  have hmem : ∀ i,i ∈ rem → i < ops.size:=fun i hi=>c3 i (hsub.subset hi)
  have hdir : ∀ (i : Nat),i ∈ Region.ready .any ops listed → i < ops.size ∧ i ∈ rem ∧ ∀ k ∈ dirs ops i,k ∉ rem:=by
   intro i hi
   rw [mem_ready] at hi
   obtain ⟨h1,o,ho,h2⟩:=hi
   have hlt:=(Array.getElem?_eq_some_iff.1 ho).1
   refine ⟨hlt,(hli i hlt).1 h1,fun k hk hkr=>?_⟩
   unfold dirs at hk
   rw [ho] at hk
   simp only [List.mem_map,List.mem_filter,Array.mem_toList_iff] at hk
   obtain ⟨e,⟨he,hb⟩,rfl⟩:=hk
   have h3:=h2 e he hb
   have h4:=(hli e.on (hmem _ hkr)).2 hkr
   rw [Array.getD_eq_getD_getElem?] at h3 h4
   cases hq : listed[e.on]? with
   | none=>rw [hq] at h4;simp at h4
   | some b=>rw [hq] at h3 h4;simp at h3 h4;rw [h3] at h4;cases h4
  refine ⟨fun hno=>?_,fun i hi=>?_⟩
  ·-- the first one is ready
   exfalso
   match rem,hl with
   | i :: rest,_ =>
    have hi : i < ops.size:=hmem i (by simp)
    have : i ∈ Region.ready .any ops listed:=by
     rw [mem_ready]
     refine ⟨(hli i hi).2 (by simp),ops[i],by simp [hi],fun e he hb=>?_⟩
     have hk : e.on ∈ dirs ops i:=by
      unfold dirs
      rw [show ops[i]? = some ops[i] by simp [hi]]
      simp only [List.mem_map,List.mem_filter,Array.mem_toList_iff]
      exact ⟨e,⟨he,hb⟩,rfl⟩
     have hne:=c5 i hi _ hk
     cases hq : listed.getD e.on true with
     | false =>
      have hin:=(hli _ hne.2).1 hq
      have hp:=(c6.sublist hsub)
      rw [List.pairwise_cons] at hp
      have:=hp.1 e.on ((List.mem_cons.1 hin).resolve_left hne.1)
      simp [List.contains_eq_mem,hk] at this
     | true =>
      rw [Array.getD_eq_getD_getElem?] at hq ⊢
      have h4 : e.on < listed.size:=by rw [hsz];exact hne.2
      rw [Array.getElem?_eq_getElem h4] at hq ⊢
      simpa using hq
    rw [hno] at this;cases this
  ·obtain ⟨hlt,hir,hdn⟩:=hdir i hi
   obtain ⟨pre,post,rfl⟩:=List.append_of_mem hir
   have ho : ops[i]? = some ops[i]:=by simp [hlt]
   rw [List.filterMap_append,List.filterMap_cons,ho] at hD
   have hp:=c6.sublist hsub
   have hnd : (pre ++ i :: post).Nodup:=c1.sublist hsub
   have hind : ∀ p ∈ pre.filterMap (ops[·]?),(indep gd tk p ops[i] || indep2 gd tk p ops[i] || indep3 gd tk p ops[i] || indep4 gd tk p ops[i]) = true:=by
    intro p hpm
    obtain ⟨j,hj,hjo⟩:=List.mem_filterMap.1 hpm
    have h1:=(List.pairwise_append.1 hp).2.2 j hj i (by simp)
    rcases h1.2 with h2 | h2
    ·exfalso
     rcases c4 i hlt j h2 with h3 | ⟨k,h3,h4⟩
     ·exact hdn j h3 (by simp [hj])
     ·exact hcl k (c5 i hlt k h3).2 (hdn k h3) j h4 (by simp [hj])
    ·rw [hjo,ho] at h2;exact h2
   have hfr:=D_front _ hind hD
   refine D_exec hgd ho hfr hn hat ?_
   intro s' a' w' hD' hat'
   have hni : i ∉ pre ++ post:=by
    have:=hnd.perm List.perm_middle
    exact (List.nodup_cons.1 this).1
   refine ih (pre ++ post) _ s' a' w' ?_ ?_ ?_ ?_ ?_ ?_ hat'
   ·simp at hl ⊢;omega
   ·refine List.Sublist.trans ?_ hsub
    exact List.Sublist.append (List.Sublist.refl _) (List.sublist_cons_self _ _)
   ·simp [hsz]
   ·intro j hj
    by_cases hji : j = i
    ·subst hji
     simp only [hni,iff_false]
     simp [hsz,hj]
    ·rw [getD_set_ne true (fun e=>hji e.symm),hli j hj]
     simp [hji]
   ·intro k hk hkr j hj hjr
    by_cases hki : k = i
    ·subst hki
     have hjr' : j ∈ pre ++ k :: post:=by simp at hjr ⊢;rcases hjr with h | h<;>simp [h]
     rcases c4 k hk j hj with h3 | ⟨q,h3,h4⟩
     ·exact hdn j h3 hjr'
     ·exact hcl q (c5 k hk q h3).2 (hdn q h3) j h4 hjr'
    ·refine hcl k hk (fun h=>hkr ?_) j hj ?_
     ·simp [hki] at h ⊢;exact h
     ·simp at hjr ⊢;rcases hjr with h | h<;>simp [h]
   ·rw [List.filterMap_append];exact hD'
theorem W_draw {id : Nat} {l : List Oper} (hm : P.follows .mixedOrders = true) (tk : List Nat) (ord : List Nat) (tp : List (List Nat)) (hok : drawOk l.toArray (l.map (·.dst)) tk ord tp = true)
  (h : D P n (l.map (·.dst)) tk (ord.filterMap (l[·]?)) (Q .normal) s) : W P n (.region id l.toArray true) Q s:=by
 intro g a w hn hat
 have hat' : At g s a { w with drawn:=w.drawn + 1 }:=by
  obtain ⟨⟨m,reg,h1,h2,h3⟩,h4,h5,h6⟩:=hat
  have hg:=Grow.draw w (w.drawn + 1) (Nat.le_succ _)
  exact ⟨⟨m,reg,h1.grow hg,h2,h3⟩,h4.trans (hg.evol (fun _ _=>False)) (fun _ _ k=>k.elim),h5,h6⟩
 have hok':=hok
 simp only [drawOk,Bool.and_eq_true,decide_eq_true_eq,List.all_eq_true,List.mem_range,Bool.or_eq_true,List.contains_iff_mem,List.any_eq_true,bne_iff_ne,beq_iff_eq] at hok'
 obtain ⟨⟨⟨⟨⟨⟨c1,c2⟩,c3⟩,c4⟩,c5⟩,c6⟩,c7⟩:=hok'
 refine wp_region_any hm ?_
 have hsz : l.toArray.size = ord.length:=c7.symm
 rw [hsz]
 refine wpAny_of_D (by simp) hok hn ord.length ord _ s a _ rfl (List.Sublist.refl _) (by simp [hsz]) ?_ ?_ (by simpa using h) hat'
 ·intro i hi
  constructor
  ·intro _;exact c2 i hi
  ·intro _;rw [hsz] at hi;simp [hi]
 ·intro k hk hkr;exact absurd (c2 k hk) hkr
end
end Go.AW
namespace Go.AW
open Go
set_option linter.unusedSimpArgs false
set_option linter.unusedVariables false
def andR (r : SR) (K : St → Prop) : Prop:=r.1 = true ∧ K r.2
def runP (P : Program) (n : Nat) (gd : List (Option Nat)) (tk : List Nat) : List Oper → (St → Prop) → St → Prop
 | [],K,s=>K s
 | o :: r,K,s=>andR (runO P n gd tk o s) (runP P n gd tk r K)
theorem runP_nil {P : Program} {n : Nat} {gd : List (Option Nat)} {tk : List Nat} {K : St → Prop} {s : St} : runP P n gd tk [] K s = K s:=rfl
theorem runP_cons {P : Program} {n : Nat} {gd : List (Option Nat)} {tk : List Nat} {o : Oper} {r : List Oper} {K : St → Prop} {s : St} : runP P n gd tk (o :: r) K s = andR (runO P n gd tk o s) (runP P n gd tk r K):=rfl
theorem andR_mk (b : Bool) (s : St) (K : St → Prop) : andR (b,s) K = (b = true ∧ K s):=rfl
theorem andR_true (s : St) (K : St → Prop) : andR (true,s) K = K s:=by simp [andR]
section
variable {P : Program} {n : Nat} {gd : List (Option Nat)} {Q : Exit → St → Prop} {s : St}
end
theorem opd_tmp (t : Nat → AV) (k : Nat) : opd t (.tmp k) = t k:=rfl
theorem opd_const (t : Nat → AV) (v : Value) : opd t (.const v) = rdc v:=rfl
theorem opd_func (t : Nat → AV) (f : FuncId) : opd t (.func f) = .fn f []:=rfl
theorem rdc_int (k : IntKind) (n : Int) : rdc (.int k n) = .i k n:=rfl
theorem rdc_bool (b : Bool) : rdc (.bool b) = .b b:=rfl
theorem rdc_str (s : ByteArray) : rdc (.string s) = .s s:=rfl
theorem rdc_nilp : rdc (.pointer none) = .nilp:=rfl
theorem rdc_nilm : rdc (.map none) = .nilm:=rfl
theorem rdc_nilf : rdc .nilFunc = .nilf:=rfl
theorem rdc_nili : rdc .nilIface = .nili:=rfl
theorem rdc_nsl : rdc (.slice none 0 0) = .nsl:=rfl
theorem upd_at {α : Type} (f : Nat → α) (k : Nat) (v : α) (j : Nat) : upd f k v j = if j = k then v else f j:=rfl
theorem put_some (t : Nat → AV) (o : List Ob) (d : Nat) (v : AV) : St.put ⟨t,o⟩ (some d) v = ⟨upd t d v,o⟩:=rfl
theorem put_none (s : St) (v : AV) : s.put none v = s:=rfl
theorem putS_eq (n : Nat) (d : Option Nat) (ok : Bool) (v : AV) (s : St) : putS n d ⟨ok,v⟩ s = (ok && dstOk n d,s.put d v):=rfl
theorem dstOk_some (n d : Nat) : dstOk n (some d) = decide (d < n):=rfl
theorem dstOk_none (n : Nat) : dstOk n none = true:=rfl
end Go.AW
namespace Go.AW
open Go
theorem ACalls_of' {P : Program} {f : FuncId} {fn : Func} {c : Code} {ac : List AV} {oc : List Ob} {R : AV → List Ob → Prop} {n : Nat} {rs : List ResultVar} (hf : P.funcs[f]? = some fn) (hb : fn.body = some c) (hr : fn.results.toList = rs) (hn' : fn.ntmps = n) (hn : ac.length ≤ n) (hk : callOk P f = true)
  (h : W P n c (endQ P rs oc.length R) ⟨fun k=>ac.getD k .any,oc⟩) : ACalls P f ac oc R:=by
 subst hr hn'
 exact ACalls_of hf hb hn hk h
end Go.AW
namespace Go.AW
open Go
attribute [go_sem] runP_cons runP_nil andR_mk andR_true opd_tmp opd_const opd_func rdc_int rdc_bool rdc_str rdc_nilp rdc_nilm rdc_nilf rdc_nili rdc_nsl upd_at put_some put_none putS_eq dstOk_some dstOk_none
attribute [go_sem] runO step1 AV.dat AV.okPart AV.cellsOf newS upT elU ckU upCells upAV AV.isOwn elSz pureOp ung mvS storeS takeS binAV eqAgg eqCells eqC binInt binStr unAV convAV loadR fieldR idxR partR indexR bnd sliceR refSz rowsG appOS bslS lookR lookE lenR maxL minL slotR bslR partRows buildR fillA placeOf rowsOf zeroOk appS setRow loadOk loadAV rset AV.plain AV.ltk AV.ltks isNil keq keyOk mfind mset msetS mkMapS mkSliceS mapEs SR.no R1.no UK.agg topA resAV res1 resL
attribute [go_sem] Option.isSome_some List.getD_cons_zero List.getD_cons_succ List.length_cons List.length_nil List.all_cons List.all_nil List.map_cons List.map_nil Bool.not_false Bool.not_true Bool.and_true Bool.true_and Bool.and_false Bool.false_and decide_true decide_false if_true if_false Bool.or_true Bool.true_or Bool.or_false Bool.false_or cond_true cond_false beq_self_eq_true bne_self_eq_false List.nil_append true_and and_true
end Go.AW
namespace Go.AW
open Go
@[go_sem] theorem gv_b (x : Bool) : gv (.b x) = some (true,x):=rfl
@[go_sem] theorem gv_gd (g : Bool) (v : AV) : gv (.gd g v) = match gv v with | some (h,x)=>some (g && h,x) | none=>if g then none else some (false,false):=rfl
@[go_sem] theorem beq_t (x : Bool) : (x == true) = x:=by cases x<;>rfl
@[go_sem] theorem beq_f (x : Bool) : (x == false) = !x:=by cases x<;>rfl
@[go_sem] theorem nao1 (a : Bool) : (!a || a) = true:=by cases a<;>rfl
@[go_sem] theorem nao2 (a b : Bool) : (!(a && b) || a) = true:=by cases a<;>cases b<;>rfl
@[go_sem] theorem nao3 (a b : Bool) : (!(a && b) || b) = true:=by cases a<;>cases b<;>rfl
@[go_sem] theorem nao4 (a b c : Bool) : (!(a && b && c) || a) = true:=by cases a<;>cases b<;>cases c<;>rfl
@[go_sem] theorem nao5 (a b c : Bool) : (!(a && b && c) || b) = true:=by cases a<;>cases b<;>cases c<;>rfl
@[go_sem] theorem nao6 (a b c : Bool) : (!(a && b && c) || (a && b)) = true:=by cases a<;>cases b<;>cases c<;>rfl
attribute [go_sem] pickR ung AV.dat
@[go_sem] theorem ukne_bool : (UK.bool != UK.other) = true:=rfl
@[go_sem] theorem ukne_int (k : IntKind) : (UK.int k != UK.other) = true:=by cases k<;>rfl
@[go_sem] theorem ukne_str : (UK.str != UK.other) = true:=rfl
@[go_sem] theorem ukne_slice (e : TypeId) : (UK.slice e != UK.other) = true:=by simp
@[go_sem] theorem ukne_map (k e : TypeId) : (UK.map k e != UK.other) = true:=by simp
@[go_sem] theorem ukne_ptr (e : TypeId) : (UK.ptr e != UK.other) = true:=by simp
@[go_sem] theorem ukne_struct : (UK.struct != UK.other) = true:=rfl
@[go_sem] theorem ukne_arr (n : Nat) (e : TypeId) : (UK.arr n e != UK.other) = true:=by simp
@[go_sem] theorem ukne_func : (UK.func != UK.other) = true:=rfl
@[go_sem] theorem ukne_iface : (UK.iface != UK.other) = true:=rfl
@[go_sem] theorem ukeq_bool : (UK.bool == UK.bool) = true:=rfl
@[go_sem] theorem ukeq_str : (UK.str == UK.str) = true:=rfl
@[go_sem] theorem ukeq_slice (e : TypeId) : (UK.slice e == UK.slice e) = true:=by simp
end Go.AW
namespace Go.AW
open Go
attribute [go_sem] List.contains_nil List.contains_cons Bool.false_eq_true ne_eq not_false_eq_true not_true_eq_false List.getElem?_cons_zero List.getElem?_cons_succ List.getElem?_nil Option.map_some Option.map_none Option.some.injEq Bool.not_or Bool.or_self Bool.and_self Bool.false_or AV.b.injEq reduceCtorEq ite_true ite_false
end Go.AW
namespace Go.AW
open Go
section
variable {P : Program} {n : Nat} {Q : Exit → St → Prop} {s : St}
def thenQ (M : St → Prop) (Q : Exit → St → Prop) : Exit → St → Prop
 | .normal,s=>M s
 | e,s=>Q e s
theorem thenQ_normal {M : St → Prop} (h : M s) : thenQ M Q .normal s:=h
theorem thenQ_ret {M : St → Prop} (h : Q .ret s) : thenQ M Q .ret s:=h
theorem thenQ_exit {M : St → Prop} {id : Nat} (h : Q (.exit id) s) : thenQ M Q (.exit id) s:=h
def whileQ (I : Nat → St → Prop) (m : Nat) (Q : Exit → St → Prop) : Exit → St → Prop
 | .normal,s=>∃ m',m' < m ∧ I m' s
 | e,s=>Q e s
theorem whileQ_ret {I : Nat → St → Prop} {m : Nat} (h : Q .ret s) : whileQ I m Q .ret s:=h
theorem whileQ_exit {I : Nat → St → Prop} {m id : Nat} (h : Q (.exit id) s) : whileQ I m Q (.exit id) s:=h
theorem endQ_data {rs : List ResultVar} {r r' : AV} (h1 : resAV P rs s = some r) (h2 : Le r r') (h6 : r'.ltk 0 = true) : endQ P rs ([] : List Ob).length (fun x o'=>x = r' ∧ o' = []) .ret s :=
 ⟨r,r',0,h1,h2,Nat.le_refl _,Nat.zero_le _,rfl,h6,rfl,rfl⟩
theorem W_while {c : Code} (I : Nat → St → Prop) (m : Nat) (h0 : I m s) (round : ∀ m s,I m s → W P n c (whileQ I m Q) s) : W P n (.loop c) Q s:=by
 intro g a w hn hat b k cs
 have key : ∀ N s a w,I N s → At g s a w →
   ∃ e a' w',(∃ s',Q e s' ∧ At g s' a' w') ∧ Arrives P (lone (b.at a (.code c :: .inLoop c :: k)) cs w) b k cs e a' w':=by
  intro N
  induction N using Nat.strongRecOn with
  | _ N ih =>
   intro s a w hI hat
   obtain ⟨e,a₁,w₁,⟨s',hq,hat'⟩,harr⟩:=round N s hI g a w hn hat b (.inLoop c :: k) cs
   cases e with
   | normal =>
    obtain ⟨m',hlt,hI₁⟩:=hq
    obtain ⟨e₂,a₂,w₂,hq₂,harr₂⟩:=ih m' hlt s' a₁ w₁ hI₁ hat'
    exact ⟨e₂,a₂,w₂,hq₂,.of_steps (Steps.trans harr (.one step_inLoop)) harr₂⟩
   | exit id=>exact ⟨_,a₁,w₁,⟨s',hq,hat'⟩,.pass (x:=.inLoop c) rfl (fun _ _=>.inl (by simp)) harr⟩
   | goto l=>exact ⟨_,a₁,w₁,⟨s',hq,hat'⟩,.pass (x:=.inLoop c) rfl (fun _ _=>.inl (by simp)) harr⟩
   | ret=>exact ⟨_,a₁,w₁,⟨s',hq,hat'⟩,.pass (x:=.inLoop c) rfl (fun _ _=>.inl (by simp)) harr⟩
   | panic ch=>exact ⟨_,a₁,w₁,⟨s',hq,hat'⟩,.pass (x:=.inLoop c) rfl (fun _ _=>.inl (by simp)) harr⟩
   | outgrown=>exact ⟨_,a₁,w₁,⟨s',hq,hat'⟩,.pass (x:=.inLoop c) rfl (fun _ _=>.inl (by simp)) harr⟩
 obtain ⟨e,a',w',hq,harr⟩:=key m s a w h0 hat
 exact ⟨e,a',w',hq,.of_steps (.one step_loop) harr⟩
end
end Go.AW
namespace Go.AW
open Go
section
variable {P : Program} {n : Nat} {gd : List (Option Nat)} {Q : Exit → St → Prop} {s : St}
theorem RL_callF {d : Option Tmp} {f : FuncId} {xs : List Operand} {ats : Array TypeId} {ty : TypeId} {pos : String} {aft : Array Edge} {rest : List Oper} {ac : List AV} {r : AV} (h : ACallsD P f ac r)
  (hin : xs.all (opIn n) = true) (hd : dstOk n d = true) (hlen : xs.length = ac.length) (hle : LeA (argVals xs ac s.t) ac) (harg : ac.all (AV.ltk 0) = true) (hres : r.ltk 0 = true)
  (hK : RL P n gd rest Q ((⟨argDrop xs ac s.t,s.o⟩ : St).put d r)) : RL P n gd (⟨d,.call ⟨.value (.func f),xs.toArray,ats⟩,ty,pos,aft,none⟩ :: rest) Q s:=by
 have ht : ac.take xs.toArray.size = ac:=by rw [List.take_of_length_le];simp [hlen]
 refine RL_call ac r rfl ⟨⟨_,.func f,false,f,[],[],[],rfl,rfl,rfl,hin,by simp [hlen],Hand.nil _,?_,harg,h⟩,hd,hres⟩ ?_
 ·rw [ht,map_ren_id _ harg];simpa using hle
 ·simpa only [dropA,ht] using hK
end
@[go_sem] theorem LeA_nil : LeA [] [] = True:=rfl
@[go_sem] theorem LeA_cons (a b : AV) (l r : List AV) : LeA (a :: l) (b :: r) = (Le a b ∧ LeA l r):=rfl
@[go_sem] theorem Le_self (a : AV) : Le a a = True:=eq_true (.refl a)
attribute [go_sem] argVals argA argT argDrop List.take_succ_cons List.take_zero List.drop_zero List.take_nil
end Go.AW
namespace Go.AW
open Go
set_option linter.unusedSimpArgs false
set_option linter.unusedVariables false
def fz {β : Type} (a : AV) (k : AV → β) : β :=
 match a with
 | .any=>k .any
 | .b true=>k (.b true)
 | .b false=>k (.b false)
 | .i kd (.ofNat m)=>k (.i kd (.ofNat m))
 | .i kd (.negSucc m)=>k (.i kd (.negSucc m))
 | .s x=>k (.s x)
 | .sl sz rows=>k (.sl sz rows)
 | .own sz rows=>k (.own sz rows)
 | .ref id off len=>k (.ref id off len)
 | .ptr id idx off=>k (.ptr id idx off)
 | .ep row off=>k (.ep row off)
 | .nilp=>k .nilp
 | .mp id=>k (.mp id)
 | .nilm=>k .nilm
 | .nsl=>k .nsl
 | .esl=>k .esl
 | .fn f caps=>k (.fn f caps)
 | .nilf=>k .nilf
 | .agg cs=>k (.agg cs)
 | .tup vs=>k (.tup vs)
 | .nili=>k .nili
 | .ifc t v=>k (.ifc t v)
 | .bm t v=>k (.bm t v)
 | .gd g v=>k (.gd g v)
theorem fz_eq {β : Type} (a : AV) (k : AV → β) : fz a k = k a:=by
 unfold fz;split<;>rfl
mutual
theorem ren_self : ∀ (a : AV),(a.ren fun k=>k) = a
 | .any | .b _ | .i _ _ | .s _ | .sl _ _ | .own _ _ | .ep _ _ | .nilp | .nilm | .nsl | .esl | .nilf | .nili | .ref _ _ _ | .ptr _ _ _ | .mp _=>rfl
 | .fn f l=>by simp only [AV.ren,rens_self l]
 | .agg l=>by simp only [AV.ren,rens_self l]
 | .tup l=>by simp only [AV.ren,rens_self l]
 | .ifc t v=>by simp only [AV.ren,ren_self v]
 | .bm t v=>by simp only [AV.ren,ren_self v]
 | .gd g v=>by simp only [AV.ren,ren_self v]
theorem rens_self : ∀ (l : List AV),AV.rens (fun k=>k) l = l
 | []=>rfl
 | a :: l=>by simp only [AV.rens,ren_self a,rens_self l]
end
theorem Ob.ren_self (x : Ob) : (x.ren fun k=>k) = x:=by
 have e : ∀ r : List AV,r.map (AV.ren fun k=>k) = r:=fun r=>by rw [← rens_map];exact rens_self r
 cases x with
 | cells sz rows =>
  simp only [Ob.ren,Ob.cells.injEq,true_and]
  conv=>rhs;rw [← List.map_id rows]
  exact List.map_congr_left fun r _=>e r
 | mapo es =>
  simp only [Ob.ren,Ob.mapo.injEq]
  conv=>rhs;rw [← List.map_id es]
  exact List.map_congr_left fun x _=>by rw [AW.ren_self,AW.ren_self];rfl
 | _=>rfl
def fzL {β : Type} : List AV → (List AV → β) → β
 | [],k=>k []
 | a :: r,k=>fz a fun a=>fzL r fun r=>k (a :: r)
theorem fzL_eq {β : Type} : ∀ (l : List AV) (k : List AV → β),fzL l k = k l
 | [],k=>rfl
 | a :: r,k=>by simp only [fzL,fz_eq,fzL_eq r]
mutual
def eqA : AV → AV → Bool
 | .any,.any=>true
 | .b x,.b y=>x == y
 | .i k n,.i k' n'=>decide (k = k') && decide (n = n')
 | .s x,.s y=>decide (x = y)
 | .sl a r,.sl b t=>decide (a = b) && eqAR r t
 | .own a r,.own b t=>decide (a = b) && eqAR r t
 | .ref a b c,.ref a' b' c'=>decide (a = a') && decide (b = b') && decide (c = c')
 | .ptr a b c,.ptr a' b' c'=>decide (a = a') && decide (b = b') && decide (c = c')
 | .ep r a,.ep t b=>decide (a = b) && eqAL r t
 | .nilp,.nilp=>true
 | .mp a,.mp b=>decide (a = b)
 | .nilm,.nilm=>true
 | .nsl,.nsl=>true
 | .esl,.esl=>true
 | .fn f c,.fn f' c'=>decide (f = f') && eqAL c c'
 | .nilf,.nilf=>true
 | .agg r,.agg t=>eqAL r t
 | .tup r,.tup t=>eqAL r t
 | .nili,.nili=>true
 | .ifc t v,.ifc t' v'=>decide (t = t') && eqA v v'
 | .bm t v,.bm t' v'=>decide (t = t') && eqA v v'
 | .gd g v,.gd g' v'=>(g == g') && eqA v v'
 | _,_=>false
def eqAL : List AV → List AV → Bool
 | [],[]=>true
 | a :: r,b :: t=>eqA a b && eqAL r t
 | _,_=>false
def eqAR : List (List AV) → List (List AV) → Bool
 | [],[]=>true
 | a :: r,b :: t=>eqAL a b && eqAR r t
 | _,_=>false
end
mutual
theorem eqA_eq : ∀ (a b : AV),eqA a b = true → a = b
 | .any,b,h=>by cases b<;>simp [eqA] at h ⊢
 | .b x,b,h=>by cases b<;>simp [eqA] at h ⊢;exact h
 | .i k n,b,h=>by cases b<;>simp [eqA] at h ⊢;exact h
 | .s x,b,h=>by cases b<;>simp [eqA] at h ⊢;exact h
 | .sl a r,b,h=>by cases b<;>simp [eqA] at h ⊢;exact ⟨h.1,eqAR_eq _ _ h.2⟩
 | .own a r,b,h=>by cases b<;>simp [eqA] at h ⊢;exact ⟨h.1,eqAR_eq _ _ h.2⟩
 | .ref _ _ _,b,h=>by cases b<;>simp [eqA] at h ⊢;exact ⟨h.1.1,h.1.2,h.2⟩
 | .ptr _ _ _,b,h=>by cases b<;>simp [eqA] at h ⊢;exact ⟨h.1.1,h.1.2,h.2⟩
 | .ep r a,b,h=>by cases b<;>simp [eqA] at h ⊢;exact ⟨eqAL_eq _ _ h.2,h.1⟩
 | .nilp,b,h=>by cases b<;>simp [eqA] at h ⊢
 | .mp _,b,h=>by cases b<;>simp [eqA] at h ⊢;exact h
 | .nilm,b,h=>by cases b<;>simp [eqA] at h ⊢
 | .nsl,b,h=>by cases b<;>simp [eqA] at h ⊢
 | .esl,b,h=>by cases b<;>simp [eqA] at h ⊢
 | .fn f c,b,h=>by cases b<;>simp [eqA] at h ⊢;exact ⟨h.1,eqAL_eq _ _ h.2⟩
 | .nilf,b,h=>by cases b<;>simp [eqA] at h ⊢
 | .agg c,b,h=>by cases b<;>simp [eqA] at h ⊢;exact eqAL_eq _ _ h
 | .tup c,b,h=>by cases b<;>simp [eqA] at h ⊢;exact eqAL_eq _ _ h
 | .nili,b,h=>by cases b<;>simp [eqA] at h ⊢
 | .ifc t v,b,h=>by cases b<;>simp [eqA] at h ⊢;exact ⟨h.1,eqA_eq _ _ h.2⟩
 | .bm t v,b,h=>by cases b<;>simp [eqA] at h ⊢;exact ⟨h.1,eqA_eq _ _ h.2⟩
 | .gd g v,b,h=>by cases b<;>simp [eqA] at h ⊢;exact ⟨h.1,eqA_eq _ _ h.2⟩
theorem eqAL_eq : ∀ (a b : List AV),eqAL a b = true → a = b
 | [],b,h=>by cases b<;>simp [eqAL] at h ⊢
 | a :: r,b,h=>by
  cases b<;>simp [eqAL] at h ⊢
  exact ⟨eqA_eq _ _ h.1,eqAL_eq _ _ h.2⟩
theorem eqAR_eq : ∀ (a b : List (List AV)),eqAR a b = true → a = b
 | [],b,h=>by cases b<;>simp [eqAR] at h ⊢
 | a :: r,b,h=>by
  cases b<;>simp [eqAR] at h ⊢
  exact ⟨eqAL_eq _ _ h.1,eqAR_eq _ _ h.2⟩
end
def eqbM : List (AV × AV) → List (AV × AV) → Bool
 | [],[]=>true
 | a :: r,b :: t=>eqA a.1 b.1 && eqA a.2 b.2 && eqbM r t
 | _,_=>false
theorem eqbM_eq : ∀ (a b : List (AV × AV)),eqbM a b = true → a = b
 | [],b,h=>by cases b<;>simp [eqbM] at h ⊢
 | (x,y) :: r,b,h=>by
  cases b with
  | nil=>simp [eqbM] at h
  | cons c t =>
   obtain ⟨u,v⟩:=c
   simp only [eqbM,Bool.and_eq_true] at h
   rw [eqA_eq _ _ h.1.1,eqA_eq _ _ h.1.2,eqbM_eq _ _ h.2]
def Ob.eqb : Ob → Ob → Bool
 | .cells a r,.cells b t=>decide (a = b) && eqAR r t
 | .frz a r,.frz b t=>decide (a = b) && eqAR r t
 | .mapo a,.mapo b=>eqbM a b
 | .dead,.dead=>true
 | _,_=>false
theorem Ob.eqb_eq (a b : Ob) (h : Ob.eqb a b = true) : a = b:=by
 cases a<;>cases b<;>simp [Ob.eqb] at h ⊢
 ·exact ⟨h.1,eqAR_eq _ _ h.2⟩
 ·exact ⟨h.1,eqAR_eq _ _ h.2⟩
 ·exact eqbM_eq _ _ h
def eqbO : List Ob → List Ob → Bool
 | [],[]=>true
 | a :: r,b :: t=>Ob.eqb a b && eqbO r t
 | _,_=>false
theorem eqbO_eq : ∀ (a b : List Ob),eqbO a b = true → a = b
 | [],b,h=>by cases b<;>simp [eqbO] at h ⊢
 | a :: r,b,h=>by
  cases b with
  | nil=>simp [eqbO] at h
  | cons c t =>
   simp only [eqbO,Bool.and_eq_true] at h
   rw [Ob.eqb_eq _ _ h.1,eqbO_eq _ _ h.2]
theorem range_getD {n k : Nat} (h : k < n) : (List.range n).getD k 0 = k:=by
 rw [List.getD_eq_getElem?_getD,List.getElem?_range h];rfl
theorem ren_range {n : Nat} (a : AV) (h : a.ltk n = true) : (a.ren fun k=>(List.range n).getD k 0) = a:=by
 rw [ren_congr (ψ:=fun k=>k) (fun k hk=>range_getD hk) a h];exact ren_self a
theorem Hand.all {o : List Ob} (h : o.all (Ob.ltk o.length) = true) : Hand o (List.range o.length) o:=by
 refine ⟨by simp,List.nodup_range,fun j i hj=>?_⟩
 have hlt : j < o.length:=by have:=(List.getElem?_eq_some_iff.1 hj).1;simpa using this
 rw [List.getElem?_range hlt] at hj
 obtain rfl:=Option.some.inj hj
 simp only [List.all_eq_true] at h
 have hx:=h o[j] (List.getElem_mem hlt)
 refine ⟨o[j],List.getElem?_eq_getElem hlt,?_,by simpa using hx⟩
 rw [Ob.ren_congr (ψ:=fun k=>k) (fun k hk=>range_getD hk) _ hx,Ob.ren_self]
 exact List.getElem?_eq_getElem hlt
theorem after_all {o o' : List Ob} (h : o.length ≤ o'.length) : after o (List.range o.length) o' = o':=by
 have hφ : phi (List.range o.length) o.length = fun k=>k:=by
  funext k
  unfold phi
  simp only [List.length_range]
  split
  ·rename_i hk;exact range_getD hk
  ·omega
 unfold after
 rw [hφ]
 have e : ∀ l : List Ob,l.map (Ob.ren fun k=>k) = l:=fun l=>by
  conv=>rhs;rw [← List.map_id l]
  exact List.map_congr_left fun x _=>Ob.ren_self x
 rw [e,e,List.length_range]
 apply List.ext_getElem?
 intro i
 by_cases hi : i < o.length
 ·rw [List.getElem?_append_left (by rw [back_length];exact hi)]
  rw [back_get _ _ _ i i List.nodup_range (by simp;omega) (List.getElem?_range hi) hi,List.getElem?_take,if_pos hi]
 ·rw [List.getElem?_append_right (by rw [back_length];omega),back_length,List.getElem?_drop]
  congr 1
  omega
end Go.AW
namespace Go.AW
open Go
set_option linter.unusedSimpArgs false
set_option linter.unusedVariables false
section
variable {w : World} {Z : CS} {m : List MB} {reg : Pl → Option Reg} {t : Nat → AV} {u : Nat → Value} {o : List Ob} {i j : Nat}
end
theorem At.glen {g : G} {s : St} {a : Act} {w : World} (h : At g s a w) : g.m.length ≤ s.o.length:=by
 obtain ⟨⟨m,reg,h1,h2,h3⟩,h4,h5,h6⟩:=h
 rw [← h1.len]
 rcases Nat.lt_or_ge m.length g.m.length with hl | hl
 ·have:=h3 m.length _ (List.getElem?_eq_getElem hl)
  rw [List.getElem?_eq_none (Nat.le_refl _)] at this;cases this
 ·exact hl
end Go.AW
namespace Go.AW
open Go
set_option linter.unusedSimpArgs false
set_option linter.unusedVariables false
def runD1 (P : Program) (n : Nat) (gd : List (Option Nat)) (tk : List Nat) (o : Oper) (s : St) : SR :=
 match o.guard with
 | none =>
  if isQ tk o = true then match slotR P tk o s true with | some r=>putS n o.dst r s | none=>SR.no s
  else if isCall o = true then SR.no s else step1 P n tk o s
 | some (j,want) =>
  if isQ tk o = true then
   match gd.getD j none with
   | none=>SR.no s
   | some t =>
    match gv (s.t t) with
    | some (h,x) =>
     match slotR P tk o s (h && x == want) with
     | some r=>((!(h && x == want) || r.ok) && dstOk n o.dst,s.put o.dst (.gd (h && x == want) r.v))
     | none=>SR.no s
    | none=>SR.no s
  else SR.no s
def runDP (P : Program) (n : Nat) (gd : List (Option Nat)) (tk : List Nat) : List Oper → (St → Prop) → St → Prop
 | [],K,s=>K s
 | o :: r,K,s=>andR (runD1 P n gd tk o s) (runDP P n gd tk r K)
theorem runDP_nil {P : Program} {n : Nat} {gd : List (Option Nat)} {tk : List Nat} {K : St → Prop} {s : St} : runDP P n gd tk [] K s = K s:=rfl
theorem runDP_cons {P : Program} {n : Nat} {gd : List (Option Nat)} {tk : List Nat} {o : Oper} {r : List Oper} {K : St → Prop} {s : St} : runDP P n gd tk (o :: r) K s = andR (runD1 P n gd tk o s) (runDP P n gd tk r K):=rfl
section
variable {P : Program} {n : Nat} {gd : List (Option Nat)} {tk : List Nat} {K : St → Prop} {s : St}
theorem D_runDP : ∀ (k : Nat) {rest : List Oper} {s : St},runDP P n gd tk (rest.take k) (D P n gd tk (rest.drop k) K) s → D P n gd tk rest K s
 | 0,rest,s,h=>by simpa [runDP] using h
 | k + 1,[],s,h=>by simpa [runDP] using h
 | k + 1,o :: rest,s,h=>by
  simp only [List.take_succ_cons,runDP,andR,List.drop_succ_cons] at h
  obtain ⟨h1,h2⟩:=h
  have h2:=D_runDP k h2
  unfold runD1 at h1 h2
  cases hg : o.guard with
  | none =>
   simp only [hg] at h1 h2
   by_cases hq : isQ tk o = true
   ·rw [if_pos hq] at h1 h2
    simp only [D,hq,if_true]
    split at h1
    ·rename_i r hr
     simp only [hr,putS,Bool.and_eq_true] at h1 h2
     refine ⟨r.v,⟨h1.2,?_⟩,h2⟩
     rw [hg]
     exact .inl ⟨r,hr,h1.1,rfl⟩
    ·cases h1
   ·rw [if_neg hq] at h1 h2
    have hq' : isQ tk o = false:=by simpa using hq
    simp only [D,hq',Bool.false_eq_true,if_false]
    by_cases hc : isCall o = true
    ·rw [if_pos hc] at h1;cases h1
    ·rw [if_neg hc] at h1 h2
     rw [if_neg hc]
     exact ⟨hg,_,by rw [← h1],h2⟩
  | some jw =>
   obtain ⟨j,want⟩:=jw
   simp only [hg] at h1 h2
   by_cases hq : isQ tk o = true
   ·rw [if_pos hq] at h1 h2
    simp only [D,hq,if_true]
    split at h1
    ·cases h1
    ·rename_i t ht
     simp only [ht] at h1 h2
     split at h1
     ·rename_i h0 x hx
      simp only [hx] at h1 h2
      split at h1
      ·rename_i r hr
       simp only [hr] at h1 h2
       rw [Bool.and_eq_true] at h1
       refine ⟨_,⟨h1.2,?_⟩,h2⟩
       rw [hg]
       refine ⟨t,h0,x,ht,hx,.inl ⟨r,hr,fun e=>?_,rfl⟩⟩
       rw [e] at h1
       simpa using h1.1
      ·cases h1
     ·cases h1
   ·rw [if_neg hq] at h1;cases h1
end
attribute [go_sem] runDP_cons runDP_nil runD1 isQ isCall
end Go.AW
namespace Go.AW
open Go
set_option linter.unusedSimpArgs false
set_option linter.unusedVariables false
mutual
/-- A value in which an object's slices are read as data. -/
def AV.unref (id sz : Nat) (rows : List (List AV)) : AV → AV
 | .ref j off len=>if j = id ∧ off + len ≤ rows.length then .sl sz ((rows.drop off).take len) else .ref j off len
 | .fn f cs=>.fn f (AV.unrefs id sz rows cs)
 | .agg cs=>.agg (AV.unrefs id sz rows cs)
 | .tup cs=>.tup (AV.unrefs id sz rows cs)
 | .ifc t v=>.ifc t (AV.unref id sz rows v)
 | .bm t v=>.bm t (AV.unref id sz rows v)
 | .gd g v=>.gd g (AV.unref id sz rows v)
 | a=>a
def AV.unrefs (id sz : Nat) (rows : List (List AV)) : List AV → List AV
 | []=>[]
 | a :: l=>AV.unref id sz rows a :: AV.unrefs id sz rows l
end
def Ob.unref (id sz : Nat) (rows : List (List AV)) : Ob → Ob
 | .cells k rs=>.cells k (rs.map fun r=>r.map (AV.unref id sz rows))
 | .mapo es=>.mapo (es.map fun e=>(e.1.unref id sz rows,e.2.unref id sz rows))
 | o=>o
section
variable {w : World} {Y : CS} {m : List MB} {id sz : Nat} {rows : List (List AV)}
mutual
theorem V.unref (h : ∀ off len v,off + len ≤ rows.length → V w Y m (.ref id off len) v → V w Y m (.sl sz ((rows.drop off).take len)) v) : ∀ (a : AV) (v : Value),V w Y m a v → V w Y m (a.unref id sz rows) v
 | .ref j off len,v,k=>by
  simp only [AV.unref]
  split
  ·rename_i e;rw [e.1] at k;exact h _ _ _ e.2 k
  ·exact k
 | .fn f cs,_,k=>by
  simp only [V,AV.unref] at k ⊢
  obtain ⟨us,h1,h2⟩:=k
  exact ⟨us,h1,Vs.unref h cs _ h2⟩
 | .agg cs,_,k=>by
  simp only [V,AV.unref] at k ⊢
  obtain ⟨us,h1,h2⟩:=k
  exact ⟨us,h1,Vs.unref h cs _ h2⟩
 | .tup cs,_,k=>by
  simp only [V,AV.unref] at k ⊢
  obtain ⟨us,h1,h2⟩:=k
  exact ⟨us,h1,Vs.unref h cs _ h2⟩
 | .ifc t x,_,k=>by
  simp only [V,AV.unref] at k ⊢
  obtain ⟨y,h1,h2⟩:=k
  exact ⟨y,h1,V.unref h x y h2⟩
 | .bm t x,_,k=>by
  simp only [V,AV.unref] at k ⊢
  obtain ⟨y,h1,h2⟩:=k
  exact ⟨y,h1,V.unref h x y h2⟩
 | .gd g x,v,k=>by
  simp only [V,AV.unref] at k ⊢
  exact ⟨fun hg=>V.unref h x v (k.1 hg),k.2⟩
 | .any,_,k | .b _,_,k | .i _ _,_,k | .s _,_,k | .sl _ _,_,k | .own _ _,_,k | .ptr _ _ _,_,k | .ep _ _,_,k | .nilp,_,k | .mp _,_,k | .nilm,_,k | .nsl,_,k | .esl,_,k | .nilf,_,k | .nili,_,k=>by
  simpa only [AV.unref] using k
theorem Vs.unref (h : ∀ off len v,off + len ≤ rows.length → V w Y m (.ref id off len) v → V w Y m (.sl sz ((rows.drop off).take len)) v) : ∀ (l : List AV) (vs : List Value),Vs w Y m l vs → Vs w Y m (AV.unrefs id sz rows l) vs
 | [],_,k=>by simpa only [Vs,AV.unrefs] using k
 | c :: r,_,k=>by
  simp only [Vs,AV.unrefs] at k ⊢
  obtain ⟨v,t,h1,h2,h3⟩:=k
  exact ⟨v,t,h1,V.unref h c v h2,Vs.unref h r t h3⟩
end
theorem unref_own {a : AV} {k : Nat} {rs : List (List AV)} (h : a.unref id sz rows = .own k rs) : a = .own k rs:=by
 cases a with
 | ref j off len=>simp only [AV.unref] at h;split at h<;>cases h
 | _=>first | exact h | (simp only [AV.unref] at h;cases h)
theorem ObR.unref (h : ∀ off len v,off + len ≤ rows.length → V w Y m (.ref id off len) v → V w Y m (.sl sz ((rows.drop off).take len)) v) {mb : MB} (x : Ob) (hx : ObR w Y m mb x) : ObR w Y m mb (x.unref id sz rows):=by
 cases x with
 | cells k rs =>
  obtain ⟨h1,h2,h3,h4⟩:=hx
  refine ⟨h1,by simpa using h2,fun r row hr=>?_,fun r row c av hr hc=>?_⟩
  ·simp only [List.getElem?_map] at hr
   cases hq : rs[r]? with
   | none=>simp [hq] at hr
   | some q=>simp only [hq,Option.map_some,Option.some.injEq] at hr;subst hr;simpa using h3 r q hq
  ·simp only [List.getElem?_map] at hr
   cases hq : rs[r]? with
   | none=>simp [hq] at hr
   | some q =>
    simp only [hq,Option.map_some,Option.some.injEq] at hr;subst hr
    simp only [List.getElem?_map] at hc
    cases hz : q[c]? with
    | none=>simp [hz] at hc
    | some z =>
     simp only [hz,Option.map_some,Option.some.injEq] at hc;subst hc
     obtain ⟨v,e1,e2⟩:=h4 r q c z hq hz
     exact ⟨v,e1,V.unref h z v e2⟩
 | frz sz rows=>exact hx
 | mapo es =>
  obtain ⟨c,e,h1,h2,h3⟩:=hx
  refine ⟨c,e,h1,?_,h3⟩
  have key : ∀ (es : List (AV × AV)) (l : List MapEntry),MapR w Y m es l → MapR w Y m (es.map fun e=>(e.1.unref id sz rows,e.2.unref id sz rows)) l:=by
   intro es
   induction es with
   | nil=>intro l hl;simpa only [List.map_nil,MapR] using hl
   | cons a es ih =>
    intro l hl
    obtain ⟨k,v⟩:=a
    simp only [List.map_cons,MapR] at hl ⊢
    obtain ⟨e,t,g1,g2,g3,g4⟩:=hl
    exact ⟨e,t,g1,V.unref h _ _ g2,V.unref h _ _ g3,ih t g4⟩
  exact key es _ h2
 | dead=>trivial
theorem Ob.unref_live (x : Ob) : (x.unref id sz rows).live ↔ x.live:=by cases x<;>exact Iff.rfl
end
section
variable {w : World} {Z : CS} {m : List MB} {reg : Pl → Option Reg} {t : Nat → AV} {u : Nat → Value} {o : List Ob}
theorem Rel.unown (h : Rel w Z m reg t u o) {id sz : Nat} {rows : List (List AV)} (ho : o[id]? = some (.cells sz rows)) :
  ∃ reg',Rel w Z m reg' t u (o.set id (.cells sz (rows.map fun r=>r.map AV.dat))) ∧ ∀ b x,XS m reg' (o.set id (.cells sz (rows.map fun r=>r.map AV.dat))) b x → XS m reg o b x:=by
 let reg' : Pl → Option Reg:=fun p=>match p with | .o j _ _=>if j = id then none else reg p | .t _=>reg p
 have hsub : ∀ p rg,reg' p = some rg → reg p = some rg:=by
  intro p rg hp
  cases p with
  | t k=>exact hp
  | o j r c =>
   simp only [reg'] at hp
   split at hp
   ·cases hp
   ·exact hp
 have hX : ∀ b x,XS m reg' (o.set id (.cells sz (rows.map fun r=>r.map AV.dat))) b x → XS m reg o b x:=by
  rintro b x (⟨j,ob,mb,h1,h2,h3,h4⟩ | ⟨p,rg,h1,h2⟩)
  ·rw [set_get ho] at h1
   split at h1
   ·rename_i e;subst e;exact .inl ⟨j,_,mb,ho,trivial,h3,h4⟩
   ·exact .inl ⟨j,ob,mb,h1,h2,h3,h4⟩
  ·exact .inr ⟨p,rg,hsub p rg h1,h2⟩
 have K : Keeps w (YS Z m reg o) m w (YS Z m reg' (o.set id (.cells sz (rows.map fun r=>r.map AV.dat)))) m:=Keeps.sub m fun b y k=>k.imp (hX b y) (fun h=>h)
 refine ⟨reg',?_,hX⟩
 refine ⟨by simp [h.len],fun k=>V.keep K _ _ (h.tv k),?_,?_,fun p rg hp=>h.rok p rg (hsub p rg hp),?_,fun p q r s hpq hp hq=>h.rdj p q r s hpq (hsub p r hp) (hsub q s hq),?_,fun b y hz hy=>h.zx b y hz (hX b y hy),h.zs⟩
 ·intro j ob mb hoj hmj
  rw [set_get ho] at hoj
  split at hoj
  ·rename_i e
   subst e
   obtain rfl:=Option.some.inj hoj
   obtain ⟨h1,h2,h3,h4⟩:=h.ob j _ mb ho hmj
   refine ⟨h1,by simpa using h2,fun r row hr=>?_,fun r row c av hr hc=>?_⟩
   ·simp only [List.getElem?_map] at hr
    cases hq : rows[r]? with
    | none=>simp [hq] at hr
    | some q=>simp only [hq,Option.map_some,Option.some.injEq] at hr;subst hr;simpa using h3 r q hq
   ·simp only [List.getElem?_map] at hr
    cases hq : rows[r]? with
    | none=>simp [hq] at hr
    | some q =>
     simp only [hq,Option.map_some,Option.some.injEq] at hr;subst hr
     simp only [List.getElem?_map] at hc
     cases hz : q[c]? with
     | none=>simp [hz] at hc
     | some z =>
      simp only [hz,Option.map_some,Option.some.injEq] at hc;subst hc
      obtain ⟨v,e1,e2⟩:=h4 r q c z hq hz
      exact ⟨v,e1,V.keep K _ _ (V.dat _ _ e2)⟩
  ·exact Ob.keep K ob (fun _=>rfl) (h.ob j ob mb hoj hmj)
 ·intro i j x y a b hi hj lx ly ha hb e
  have f : ∀ {i : Nat} {x : Ob},(o.set id (.cells sz (rows.map fun r=>r.map AV.dat)))[i]? = some x → x.live → ∃ x' : Ob,o[i]? = some x' ∧ x'.live:=by
   intro i x hi hl
   rw [set_get ho] at hi
   split at hi
   ·rename_i e;subst e;exact ⟨_,ho,trivial⟩
   ·exact ⟨x,hi,hl⟩
  obtain ⟨x',hx',lx'⟩:=f hi lx
  obtain ⟨y',hy',ly'⟩:=f hj ly
  exact h.inj i j x' y' a b hx' hy' lx' ly' ha hb e
 ·intro p rg j x mb hp hj hl hmj
  have : ∃ x' : Ob,o[j]? = some x' ∧ x'.live:=by
   rw [set_get ho] at hj
   split at hj
   ·rename_i e;subst e;exact ⟨_,ho,trivial⟩
   ·exact ⟨x,hj,hl⟩
  obtain ⟨x',hx',lx'⟩:=this
  exact h.rob p rg j x' mb (hsub p rg hp) hx' lx' hmj
 ·intro p sz' rows' v hl hv
  cases p with
  | t k=>exact h.own (.t k) sz' rows' v hl hv
  | o j r c =>
   simp only [leaf,set_get ho] at hl
   by_cases e : j = id
   ·subst e
    simp only [if_true,List.getElem?_map] at hl
    cases hq : rows[r]? with
    | none=>simp [hq] at hl
    | some q =>
     simp only [hq,Option.map_some,Option.bind_some,List.getElem?_map] at hl
     cases hz : q[c]? with
     | none=>simp [hz] at hl
     | some z =>
      simp only [hz,Option.map_some,Option.some.injEq] at hl
      have:=AV.dat_isOwn z
      rw [hl] at this;simp [AV.isOwn] at this
   ·simp only [if_neg e,reg'] at hl ⊢
    exact h.own (.o j r c) sz' rows' v (by simpa [leaf] using hl) hv
theorem Rel.unref (h : Rel w Z m reg t u o) {id sz : Nat} {rows : List (List AV)} (ho : o[id]? = some (.frz sz rows)) :
  ∃ reg',Rel w Z m reg' (fun k=>(t k).unref id sz rows) u (o.map (Ob.unref id sz rows)) ∧ ∀ b x,XS m reg' (o.map (Ob.unref id sz rows)) b x → XS m reg o b x:=by
 have og : ∀ {j : Nat} {x : Ob},(o.map (Ob.unref id sz rows))[j]? = some x → ∃ y,o[j]? = some y ∧ x = y.unref id sz rows:=by
  intro j x hj
  rw [List.getElem?_map] at hj
  cases hq : o[j]? with
  | none=>rw [hq] at hj;cases hj
  | some y=>rw [hq] at hj;exact ⟨y,rfl,(Option.some.inj hj).symm⟩
 have hX : ∀ b x,XS m reg (o.map (Ob.unref id sz rows)) b x → XS m reg o b x:=by
  rintro b x (⟨j,ob,mb,h1,h2,h3,h4⟩ | h1)
  ·obtain ⟨y,hy,rfl⟩:=og h1
   exact .inl ⟨j,y,mb,hy,(Ob.unref_live _).1 h2,h3,h4⟩
  ·exact .inr h1
 obtain ⟨mb,hmb⟩:=h.mget ho
 have hfr:=h.ob id _ mb ho hmb
 have hu : ∀ off len v,off + len ≤ rows.length → V w (YS Z m reg o) m (.ref id off len) v → V w (YS Z m reg o) m (.sl sz ((rows.drop off).take len)) v:=by
  intro off len v hle hv
  simp only [V] at hv ⊢
  obtain ⟨mb',a,cap,e1,rfl,e2,e3,e4⟩:=hv
  rw [hmb] at e1
  obtain rfl:=Option.some.inj e1
  have hlen : ((rows.drop off).take len).length = len:=by rw [List.length_take,List.length_drop];omega
  refine ⟨a,cap,by rw [hlen],by rw [hlen];exact e2,e3,?_⟩
  by_cases h0 : len = 0
  ·subst h0;exact .inl (by simp)
  ·refine .inr ⟨mb.blk,mb.base + off * mb.sz,(e4.resolve_left (fun q=>h0 q.1)).1,?_⟩
   obtain ⟨s1,s2⟩:=hfr
   rcases s2 with s2 | s2
   ·subst s2;simp at hle;omega
   ·rw [s1]
    exact Rs.take _ (Rs.drop _ s2)
 have K : Keeps w (YS Z m reg o) m w (YS Z m reg (o.map (Ob.unref id sz rows))) m:=Keeps.sub m fun b y k=>k.imp (hX b y) (fun h=>h)
 refine ⟨reg,?_,hX⟩
 refine ⟨by simp [h.len],fun k=>V.keep K _ _ (V.unref hu _ _ (h.tv k)),?_,?_,h.rok,?_,h.rdj,?_,fun b y hz hy=>h.zx b y hz (hX b y hy),h.zs⟩
 ·intro j ob mb' hoj hmj
  obtain ⟨y,hy,rfl⟩:=og hoj
  exact Ob.keep K _ (fun _=>rfl) (ObR.unref hu y (h.ob j y mb' hy hmj))
 ·intro i j x y a b hi hj lx ly ha hb e
  obtain ⟨x',hx,rfl⟩:=og hi
  obtain ⟨y',hy,rfl⟩:=og hj
  exact h.inj i j x' y' a b hx hy ((Ob.unref_live _).1 lx) ((Ob.unref_live _).1 ly) ha hb e
 ·intro p r j x mb' hp hj hl hm
  obtain ⟨y,hy,rfl⟩:=og hj
  exact h.rob p r j y mb' hp hy ((Ob.unref_live _).1 hl) hm
 ·intro p sz' rows' v hl hv
  refine h.own p sz' rows' v ?_ hv
  cases p with
  | t k =>
   simp only [leaf,Option.some.injEq] at hl ⊢
   exact unref_own hl
  | o j r c =>
   simp only [leaf,List.getElem?_map] at hl ⊢
   cases hq : o[j]? with
   | none=>rw [hq] at hl;simp at hl
   | some y =>
    rw [hq] at hl
    cases y with
    | cells k rs =>
     simp only [Option.map_some,Ob.unref,List.getElem?_map] at hl ⊢
     cases hr : rs[r]? with
     | none=>rw [hr] at hl;simp at hl
     | some row =>
      rw [hr] at hl
      simp only [Option.map_some,Option.bind_some,List.getElem?_map] at hl ⊢
      cases hc : row[c]? with
      | none=>rw [hc] at hl;simp at hl
      | some av=>rw [hc] at hl;simp only [Option.map_some,Option.some.injEq] at hl;rw [unref_own hl]
    | _=>simp [Ob.unref] at hl
end
def frS (id sz : Nat) (rows : List (List AV)) (s : St) : St :=
 let rs:=rows.map fun r=>r.map AV.dat
 ⟨fun k=>(s.t k).unref id sz rs,(s.o.set id (.frz sz rs)).map (Ob.unref id sz rs)⟩
theorem At.freeze {g : G} {s : St} {a : Act} {w : World} {id sz : Nat} {rows : List (List AV)} (h : At g s a w) (ho : s.o[id]? = some (.cells sz rows))
  (hr : (rows.all fun r=>r.all fun c=>c.dat.ltk 0 && c.dat.plain) = true) : At g (frS id sz rows s) a w:=by
 obtain ⟨⟨m,reg,h1,h2,h3⟩,h4,h5,h6⟩:=h
 obtain ⟨reg1,r1,x1⟩:=h1.unown ho
 have ho1 : (s.o.set id (.cells sz (rows.map fun r=>r.map AV.dat)))[id]? = some (.cells sz (rows.map fun r=>r.map AV.dat)):=by rw [set_get ho,if_pos rfl]
 obtain ⟨r2,_,x2⟩:=r1.freeze ho1 (by
  intro r row c av e1 e2
  simp only [List.getElem?_map] at e1
  cases hq : rows[r]? with
  | none=>rw [hq] at e1;cases e1
  | some q =>
   rw [hq] at e1
   simp only [Option.map_some,Option.some.injEq] at e1
   subst e1
   simp only [List.getElem?_map] at e2
   cases hz : q[c]? with
   | none=>rw [hz] at e2;cases e2
   | some z =>
    rw [hz] at e2
    simp only [Option.map_some,Option.some.injEq] at e2
    subst e2
    simp only [List.all_eq_true,Bool.and_eq_true] at hr
    have:=hr q (List.mem_of_getElem? hq) z (List.mem_of_getElem? hz)
    exact ⟨this.1,AV.dat_isOwn _,this.2⟩)
 rw [List.set_set] at r2 x2
 have ho2 : (s.o.set id (.frz sz (rows.map fun r=>r.map AV.dat)))[id]? = some (.frz sz (rows.map fun r=>r.map AV.dat)):=by rw [set_get ho,if_pos rfl]
 obtain ⟨reg3,r3,x3⟩:=r2.unref ho2
 exact ⟨⟨m,reg3,r3,fun b x hx=>h2 b x (x1 b x (x2 b x (x3 b x hx))),h3⟩,h4,h5,h6⟩
section
variable {P : Program} {n : Nat} {Q : Exit → St → Prop} {s : St} {c : Code}
theorem W.at {s' : St} (hs : ∀ (g : G) (a : Act) (w : World),At g s a w → At g s' a w) (h : W P n c Q s') : W P n c Q s:=fun g a w hn hat=>h g a w hn (hs g a w hat)
theorem W_freeze (id : Nat) {sz : Nat} {rows : List (List AV)} (ho : s.o[id]? = some (.cells sz rows)) (hr : (rows.all fun r=>r.all fun c=>c.dat.ltk 0 && c.dat.plain) = true)
  (h : W P n c Q (frS id sz rows s)) : W P n c Q s:=h.at fun _ _ _ hat=>hat.freeze ho hr
theorem W_weak {s' : St} (ht : ∀ k,Le (s.t k) (s'.t k)) (ho : s'.o = s.o) (h : W P n c Q s') : W P n c Q s:=h.at fun _ _ _ hat=>hat.weak ht ho
end
end Go.AW
