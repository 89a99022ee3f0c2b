/-
AW, part Zo: loops by what they change; regions up to their calls.
-/
import Derived.Test.YtfjdiofipbchcaaKad
import Derived.Test.YtfjdiofipbchcaaProg
import Derived.KernelRfl
import GoSem.ClaimChange
import Derived.Below
namespace Go.AW
open Go
set_option linter.unusedSimpArgs false
set_option linter.unusedVariables false
def inL (lo hi : Nat) (L : List Nat) (k : Nat) : Bool:=decide (lo ≤ k) && decide (k < hi) || L.contains k
def mix (lo hi : Nat) (L : List Nat) (t t0 : Nat → AV) : Nat → AV:=fun k=>if inL lo hi L k = true then t k else t0 k
theorem mix_self (lo hi : Nat) (L : List Nat) (t : Nat → AV) : mix lo hi L t t = t:=by
 funext k
 simp [mix]
theorem mix_upd {lo hi : Nat} {L : List Nat} {t t0 : Nat → AV} {k : Nat} {v : AV} (h : inL lo hi L k = true) : upd (mix lo hi L t t0) k v = mix lo hi L (upd t k v) t0:=by
 funext j
 simp only [upd,mix]
 by_cases hj : j = k
 ·subst hj;simp [h]
 ·simp [hj]
theorem mix_mix {lo hi lo' hi' : Nat} {L L' : List Nat} {t t1 t0 : Nat → AV} (h : (decide (lo' ≤ lo) && decide (hi ≤ hi') && L.all (inL lo' hi' L')) = true) : mix lo hi L t (mix lo' hi' L' t1 t0) = mix lo' hi' L' (mix lo hi L t t1) t0:=by
 simp only [Bool.and_eq_true,decide_eq_true_eq,List.all_eq_true] at h
 funext k
 simp only [mix]
 by_cases h1 : inL lo hi L k = true
 ·have h2 : inL lo' hi' L' k = true:=by
   simp only [inL,Bool.or_eq_true,Bool.and_eq_true,decide_eq_true_eq,List.contains_eq_mem] at h1 ⊢
   rcases h1 with h1 | h1
   ·exact .inl ⟨by omega,by omega⟩
   ·have:=h.2 k h1
    simpa only [inL,Bool.or_eq_true,Bool.and_eq_true,decide_eq_true_eq,List.contains_eq_mem] using this
  simp [h1,h2]
 ·simp [h1]
section
variable {P : Program} {n : Nat} {Q : Exit → St → Prop} {s : St}
def forQ (lo hi : Nat) (L : List Nat) (t0 : Nat → AV) (I : Nat → (Nat → AV) → List Ob → Prop) (m : Nat) (Q : Exit → St → Prop) : Exit → St → Prop
 | .normal,s=>∃ m' t',m' < m ∧ s.t = mix lo hi L t' t0 ∧ I m' t' s.o
 | e,s=>Q e s
theorem forQ_normal {lo hi : Nat} {L : List Nat} {t0 : Nat → AV} {I : Nat → (Nat → AV) → List Ob → Prop} {m : Nat} (m' : Nat) {t' : Nat → AV} {o : List Ob} (h : m' < m) (hI : I m' t' o) :
  forQ lo hi L t0 I m Q .normal ⟨mix lo hi L t' t0,o⟩:=⟨m',t',h,rfl,hI⟩
theorem forQ_ret {lo hi : Nat} {L : List Nat} {t0 : Nat → AV} {I : Nat → (Nat → AV) → List Ob → Prop} {m : Nat} (h : Q .ret s) : forQ lo hi L t0 I m Q .ret s:=h
theorem forQ_exit {lo hi : Nat} {L : List Nat} {t0 : Nat → AV} {I : Nat → (Nat → AV) → List Ob → Prop} {m id : Nat} (h : Q (.exit id) s) : forQ lo hi L t0 I m Q (.exit id) s:=h
theorem W_for {c : Code} (lo hi : Nat) (L : List Nat) (I : Nat → (Nat → AV) → List Ob → Prop) (m : Nat) {t0 : Nat → AV} {o0 : List Ob} (h0 : I m t0 o0)
  (round : ∀ m t o,I m t o → W P n c (forQ lo hi L t0 I m Q) ⟨mix lo hi L t t0,o⟩) : W P n (.loop c) Q ⟨t0,o0⟩:=by
 refine W_while (fun m s=>∃ t,s.t = mix lo hi L t t0 ∧ I m t s.o) m ⟨t0,(mix_self _ _ _ _).symm,h0⟩ ?_
 rintro m ⟨ts,o⟩ ⟨t,ht,hI⟩
 simp only at ht
 subst ht
 refine (round m t o hI).mono ?_
 intro e s h
 cases e with
 | normal =>
  obtain ⟨m',t',h1,h2,h3⟩:=h
  exact ⟨m',h1,t',h2,h3⟩
 | _=>exact h
def joinQ (lo hi : Nat) (L : List Nat) (t0 : Nat → AV) (I : (Nat → AV) → List Ob → Prop) (Q : Exit → St → Prop) : Exit → St → Prop
 | .normal,s=>∃ t',s.t = mix lo hi L t' t0 ∧ I t' s.o
 | e,s=>Q e s
theorem joinQ_normal {lo hi : Nat} {L : List Nat} {t0 : Nat → AV} {I : (Nat → AV) → List Ob → Prop} {t' : Nat → AV} {o : List Ob} (hI : I t' o) : joinQ lo hi L t0 I Q .normal ⟨mix lo hi L t' t0,o⟩:=⟨t',rfl,hI⟩
theorem joinQ_ret {lo hi : Nat} {L : List Nat} {t0 : Nat → AV} {I : (Nat → AV) → List Ob → Prop} (h : Q .ret s) : joinQ lo hi L t0 I Q .ret s:=h
theorem joinQ_exit {lo hi : Nat} {L : List Nat} {t0 : Nat → AV} {I : (Nat → AV) → List Ob → Prop} {id : Nat} (h : Q (.exit id) s) : joinQ lo hi L t0 I Q (.exit id) s:=h
theorem W_join {x y : Code} (lo hi : Nat) (L : List Nat) (I : (Nat → AV) → List Ob → Prop) {t0 : Nat → AV} {o0 : List Ob} (h : W P n x (joinQ lo hi L t0 I Q) ⟨mix lo hi L t0 t0,o0⟩)
  (h2 : ∀ t o,I t o → W P n y Q ⟨mix lo hi L t t0,o⟩) : W P n (.seq x y) Q ⟨t0,o0⟩:=by
 rw [mix_self] at h
 refine W_seq (h.mono ?_)
 intro e s k
 cases e with
 | normal =>
  obtain ⟨t',h1,h3⟩:=k
  have:=h2 t' s.o h3
  rw [← h1] at this
  exact this
 | _=>exact k
end
section
variable {P : Program} {n : Nat} {gd : List (Option Nat)} {tk : List Nat} {Q : Exit → St → Prop} {s : St} {K : St → Prop}
def runR (P : Program) (n : Nat) (gd : List (Option Nat)) (tk : List Nat) (R : List Oper → St → Prop) : List Oper → (St → Prop) → St → Prop
 | [],K,s=>K s
 | o :: r,K,s=>if isCall o = true then R (o :: r) s else andR (runO P n gd tk o s) (runR P n gd tk R r K)
theorem runR_nil {R : List Oper → St → Prop} : runR P n gd tk R [] K s = K s:=rfl
theorem runR_cons {R : List Oper → St → Prop} {o : Oper} {r : List Oper} : runR P n gd tk R (o :: r) K s = if isCall o = true then R (o :: r) s else andR (runO P n gd tk o s) (runR P n gd tk R r K):=rfl
theorem RL_runR : ∀ (l : List Oper) {s : St},runR P n gd tk (fun l s=>RL P n gd l Q s) l (fun s=>Q .normal s) s → RL P n gd l Q s
 | [],s,h=>RL_nil h
 | o :: r,s,h=>by
  simp only [runR] at h
  split at h
  ·exact h
  ·exact RL_one (tk:=tk) (s':=(runO P n gd tk o s).2) (by rw [← h.1]) (RL_runR r h.2)
theorem RL_reg (tk : List Nat) {l : List Oper} (h : ∀ (K : St → Prop) (R : List Oper → St → Prop),(∀ s,Q .normal s → K s) → (∀ l s,RL P n gd l Q s → R l s) → runR P n gd tk R l K s) : RL P n gd l Q s :=
 RL_runR (tk:=tk) l (h _ _ (fun _ h=>h) (fun _ _ h=>h))
theorem W_reg {id : Nat} {l : List Oper} (tk : List Nat) (h : ∀ (K : St → Prop) (R : List Oper → St → Prop),(∀ s,Q .normal s → K s) → (∀ l' s,RL P n (l.map (·.dst)) l' Q s → R l' s) → runR P n (l.map (·.dst)) tk R l K s) : W P n (.region id l.toArray false) Q s :=
 W_region (RL_reg tk h)
def runDR (P : Program) (n : Nat) (gd : List (Option Nat)) (tk : List Nat) (R : List Oper → St → Prop) : List Oper → (St → Prop) → St → Prop
 | [],K,s=>K s
 | o :: r,K,s=>if isCall o = true then R (o :: r) s else andR (runD1 P n gd tk o s) (runDR P n gd tk R r K)
theorem runDR_nil {R : List Oper → St → Prop} : runDR P n gd tk R [] K s = K s:=rfl
theorem runDR_cons {R : List Oper → St → Prop} {o : Oper} {r : List Oper} : runDR P n gd tk R (o :: r) K s = if isCall o = true then R (o :: r) s else andR (runD1 P n gd tk o s) (runDR P n gd tk R r K):=rfl
theorem D_runDR : ∀ (l : List Oper) {s : St},runDR P n gd tk (fun l s=>D P n gd tk l K s) l K s → D P n gd tk l K s
 | [],s,h=>h
 | o :: r,s,h=>by
  simp only [runDR] at h
  split at h
  ·exact h
  ·refine D_runDP 1 ?_
   simp only [List.take_succ_cons,List.take_zero,runDP,List.drop_succ_cons,List.drop_zero]
   exact ⟨h.1,D_runDR r h.2⟩
theorem D_reg {l : List Oper} (h : ∀ (K' : St → Prop) (R : List Oper → St → Prop),(∀ s,K s → K' s) → (∀ l s,D P n gd tk l K s → R l s) → runDR P n gd tk R l K' s) : D P n gd tk l K s :=
 D_runDR l (h _ _ (fun _ h=>h) (fun _ _ h=>h))
theorem W_dreg {id : Nat} {l : List Oper} (hm : P.follows .mixedOrders = true) (tk : List Nat) (ord : List Nat) (tp : List (List Nat)) (hok : drawOk l.toArray (l.map (·.dst)) tk ord tp = true) {l' : List Oper} (hl : ord.filterMap (l[·]?) = l')
  (h : ∀ (K' : St → Prop) (R : List Oper → St → Prop),(∀ s,Q .normal s → K' s) → (∀ r s,D P n (l.map (·.dst)) tk r (Q .normal) s → R r s) → runDR P n (l.map (·.dst)) tk R l' K' s) : W P n (.region id l.toArray true) Q s:=by
 refine W_draw hm tk ord tp hok ?_
 rw [hl]
 exact D_reg h
theorem D_call {o : Oper} {rest : List Oper} (ac : List AV) (r : AV) (hg : o.guard = none) (hq : isQ tk o = true) (h : CallD P n o s ac r) (ho : ac.all (fun c=>!c.isOwn) = true) (hK : D P n gd tk rest K (s.put o.dst r)) : D P n gd tk (o :: rest) K s:=by
 simp only [D,hq,if_true]
 refine ⟨r,⟨h.dst,?_⟩,hK⟩
 rw [hg]
 exact .inr ⟨ac,h,ho⟩
theorem D_callg {o : Oper} {rest : List Oper} (ac : List AV) (r : AV) {j t : Nat} {want h0 x : Bool} (hg : o.guard = some (j,want)) (hj : gd.getD j none = some t) (hx : gv (s.t t) = some (h0,x)) (hd : dstOk n o.dst = true) (hq : isQ tk o = true)
  (h : (h0 && x == want) = true → CallD P n o s ac r) (ho : ac.all (fun c=>!c.isOwn) = true) (hK : D P n gd tk rest K (s.put o.dst (.gd (h0 && x == want) r))) : D P n gd tk (o :: rest) K s:=by
 simp only [D,hq,if_true]
 refine ⟨_,⟨hd,?_⟩,hK⟩
 rw [hg]
 exact ⟨t,h0,x,hj,hx,.inr ⟨ac,r,h,ho,rfl⟩⟩
theorem D_callE {o : Oper} {rest : List Oper} (hg : o.guard = none) (hq : isQ tk o = false) (hc : isCall o = true) (h : OpW P n o s (D P n gd tk rest K)) : D P n gd tk (o :: rest) K s:=by
 simp only [D,hq,Bool.false_eq_true,if_false,hc,if_true]
 exact ⟨hg,h⟩
end
attribute [go_sem] runR_cons runR_nil runDR_cons runDR_nil
@[go_sem] theorem mix_at' (lo hi : Nat) (L : List Nat) (t t0 : Nat → AV) (k : Nat) : mix lo hi L t t0 k = if inL lo hi L k = true then t k else t0 k:=rfl
attribute [go_sem] mix_upd
@[go_sem] theorem inL_eq (lo hi : Nat) (L : List Nat) (k : Nat) : inL lo hi L k = (decide (lo ≤ k) && decide (k < hi) || L.contains k):=rfl
end Go.AW
namespace Go.AW.TyTry
open Go Go.Proofs
-- 149 types
@[go_sem] theorem uk3 : ukOf Try.prog 3 = .int .i64:=by kernel_rfl
@[go_sem] theorem sz3 : szOf Try.prog 3 = 1:=by kernel_rfl
@[go_sem] theorem ck3 : cellK Try.prog 8 3 = [none]:=by kernel_rfl
@[go_sem] theorem by3 : Try.prog.bytesOf 3 = 8:=by kernel_rfl
@[go_sem] theorem zr3 : zeroAV Try.prog 3 = some (.i .i64 0):=by kernel_rfl
@[go_sem] theorem uk4 : ukOf Try.prog 4 = .bool:=by kernel_rfl
@[go_sem] theorem sz4 : szOf Try.prog 4 = 1:=by kernel_rfl
@[go_sem] theorem uk5 : ukOf Try.prog 5 = .int .u8:=by kernel_rfl
@[go_sem] theorem sz5 : szOf Try.prog 5 = 1:=by kernel_rfl
@[go_sem] theorem uk9 : ukOf Try.prog 9 = .str:=by kernel_rfl
@[go_sem] theorem sz9 : szOf Try.prog 9 = 1:=by kernel_rfl
@[go_sem] theorem ck9 : cellK Try.prog 8 9 = [none]:=by kernel_rfl
@[go_sem] theorem uk22 : ukOf Try.prog 22 = .slice 34:=by kernel_rfl
@[go_sem] theorem sz22 : szOf Try.prog 22 = 1:=by kernel_rfl
@[go_sem] theorem uk23 : ukOf Try.prog 23 = .slice 51:=by kernel_rfl
@[go_sem] theorem sz23 : szOf Try.prog 23 = 1:=by kernel_rfl
@[go_sem] theorem uk25 : ukOf Try.prog 25 = .struct:=by kernel_rfl
@[go_sem] theorem sz25 : szOf Try.prog 25 = 2:=by kernel_rfl
@[go_sem] theorem fd25_0 : fldOf Try.prog 25 0 = some (0,3):=by kernel_rfl
@[go_sem] theorem fd25_1 : fldOf Try.prog 25 1 = some (1,23):=by kernel_rfl
@[go_sem] theorem ck25 : cellK Try.prog 8 25 = [none,some 3]:=by kernel_rfl
@[go_sem] theorem so25 : structOk Try.prog 25 = true:=by kernel_rfl
@[go_sem] theorem zr25 : zeroAV Try.prog 25 = some (.agg [.i .i64 0,.nsl]):=by kernel_rfl
@[go_sem] theorem uk27 : ukOf Try.prog 27 = .struct:=by kernel_rfl
@[go_sem] theorem sz27 : szOf Try.prog 27 = 4:=by kernel_rfl
@[go_sem] theorem fd27_0 : fldOf Try.prog 27 0 = some (0,5):=by kernel_rfl
@[go_sem] theorem fd27_1 : fldOf Try.prog 27 1 = some (1,5):=by kernel_rfl
@[go_sem] theorem fd27_2 : fldOf Try.prog 27 2 = some (2,5):=by kernel_rfl
@[go_sem] theorem fd27_3 : fldOf Try.prog 27 3 = some (3,5):=by kernel_rfl
@[go_sem] theorem ck27 : cellK Try.prog 8 27 = [none,none,none,none]:=by kernel_rfl
@[go_sem] theorem uk32 : ukOf Try.prog 32 = .slice 3:=by kernel_rfl
@[go_sem] theorem sz32 : szOf Try.prog 32 = 1:=by kernel_rfl
@[go_sem] theorem by32 : Try.prog.bytesOf 32 = 24:=by kernel_rfl
@[go_sem] theorem zr32 : zeroAV Try.prog 32 = some (.nsl):=by kernel_rfl
@[go_sem] theorem uk34 : ukOf Try.prog 34 = .struct:=by kernel_rfl
@[go_sem] theorem sz34 : szOf Try.prog 34 = 7:=by kernel_rfl
@[go_sem] theorem fd34_0 : fldOf Try.prog 34 0 = some (0,3):=by kernel_rfl
@[go_sem] theorem fd34_1 : fldOf Try.prog 34 1 = some (1,3):=by kernel_rfl
@[go_sem] theorem fd34_2 : fldOf Try.prog 34 2 = some (2,3):=by kernel_rfl
@[go_sem] theorem fd34_3 : fldOf Try.prog 34 3 = some (3,3):=by kernel_rfl
@[go_sem] theorem fd34_4 : fldOf Try.prog 34 4 = some (4,9):=by kernel_rfl
@[go_sem] theorem fd34_5 : fldOf Try.prog 34 5 = some (5,32):=by kernel_rfl
@[go_sem] theorem fd34_6 : fldOf Try.prog 34 6 = some (6,22):=by kernel_rfl
@[go_sem] theorem ck34 : cellK Try.prog 8 34 = [none,none,none,none,none,some 1,some 7]:=by kernel_rfl
@[go_sem] theorem so34 : structOk Try.prog 34 = true:=by kernel_rfl
@[go_sem] theorem zr34 : zeroAV Try.prog 34 = some (.agg [.i .i64 0,.i .i64 0,.i .i64 0,.i .i64 0,.s ByteArray.empty,.nsl,.nsl]):=by kernel_rfl
@[go_sem] theorem uk37 : ukOf Try.prog 37 = .int .i64:=by kernel_rfl
@[go_sem] theorem uk48 : ukOf Try.prog 48 = .slice 25:=by kernel_rfl
@[go_sem] theorem uk49 : ukOf Try.prog 49 = .slice 32:=by kernel_rfl
@[go_sem] theorem sz49 : szOf Try.prog 49 = 1:=by kernel_rfl
@[go_sem] theorem by49 : Try.prog.bytesOf 49 = 24:=by kernel_rfl
@[go_sem] theorem zr49 : zeroAV Try.prog 49 = some (.nsl):=by kernel_rfl
@[go_sem] theorem uk51 : ukOf Try.prog 51 = .struct:=by kernel_rfl
@[go_sem] theorem sz51 : szOf Try.prog 51 = 3:=by kernel_rfl
@[go_sem] theorem fd51_0 : fldOf Try.prog 51 0 = some (0,9):=by kernel_rfl
@[go_sem] theorem fd51_1 : fldOf Try.prog 51 1 = some (1,3):=by kernel_rfl
@[go_sem] theorem fd51_2 : fldOf Try.prog 51 2 = some (2,49):=by kernel_rfl
@[go_sem] theorem ck51 : cellK Try.prog 8 51 = [none,none,some 1]:=by kernel_rfl
@[go_sem] theorem so51 : structOk Try.prog 51 = true:=by kernel_rfl
@[go_sem] theorem zr51 : zeroAV Try.prog 51 = some (.agg [.s ByteArray.empty,.i .i64 0,.nsl]):=by kernel_rfl
@[go_sem] theorem uk60 : ukOf Try.prog 60 = .map 9 3:=by kernel_rfl
@[go_sem] theorem sz60 : szOf Try.prog 60 = 1:=by kernel_rfl
@[go_sem] theorem uk62 : ukOf Try.prog 62 = .struct:=by kernel_rfl
@[go_sem] theorem sz62 : szOf Try.prog 62 = 3:=by kernel_rfl
@[go_sem] theorem fd62_0 : fldOf Try.prog 62 0 = some (0,3):=by kernel_rfl
@[go_sem] theorem fd62_1 : fldOf Try.prog 62 1 = some (1,60):=by kernel_rfl
@[go_sem] theorem fd62_2 : fldOf Try.prog 62 2 = some (2,4):=by kernel_rfl
@[go_sem] theorem ck62 : cellK Try.prog 8 62 = [none,none,none]:=by kernel_rfl
@[go_sem] theorem so62 : structOk Try.prog 62 = true:=by kernel_rfl
@[go_sem] theorem zr62 : zeroAV Try.prog 62 = some (.agg [.i .i64 0,.nilm,.b false]):=by kernel_rfl
@[go_sem] theorem uk63 : ukOf Try.prog 63 = .slice 66:=by kernel_rfl
@[go_sem] theorem uk66 : ukOf Try.prog 66 = .struct:=by kernel_rfl
@[go_sem] theorem sz66 : szOf Try.prog 66 = 2:=by kernel_rfl
@[go_sem] theorem fd66_0 : fldOf Try.prog 66 0 = some (0,9):=by kernel_rfl
@[go_sem] theorem fd66_1 : fldOf Try.prog 66 1 = some (1,3):=by kernel_rfl
@[go_sem] theorem so66 : structOk Try.prog 66 = true:=by kernel_rfl
@[go_sem] theorem by66 : Try.prog.bytesOf 66 = 24:=by kernel_rfl
@[go_sem] theorem zr66 : zeroAV Try.prog 66 = some (.agg [.s ByteArray.empty,.i .i64 0]):=by kernel_rfl
@[go_sem] theorem uk88 : ukOf Try.prog 88 = .map 3 91:=by kernel_rfl
@[go_sem] theorem sz88 : szOf Try.prog 88 = 1:=by kernel_rfl
@[go_sem] theorem uk90 : ukOf Try.prog 90 = .struct:=by kernel_rfl
@[go_sem] theorem sz90 : szOf Try.prog 90 = 3:=by kernel_rfl
@[go_sem] theorem fd90_0 : fldOf Try.prog 90 0 = some (0,25):=by kernel_rfl
@[go_sem] theorem fd90_1 : fldOf Try.prog 90 1 = some (2,88):=by kernel_rfl
@[go_sem] theorem ck90 : cellK Try.prog 8 90 = [none,some 3,none]:=by kernel_rfl
@[go_sem] theorem so90 : structOk Try.prog 90 = true:=by kernel_rfl
@[go_sem] theorem zr90 : zeroAV Try.prog 90 = some (.agg [.i .i64 0,.nsl,.nilm]):=by kernel_rfl
@[go_sem] theorem uk92 : ukOf Try.prog 92 = .slice 49:=by kernel_rfl
@[go_sem] theorem uk110 : ukOf Try.prog 110 = .int .u64:=by kernel_rfl
end Go.AW.TyTry
namespace Go.AW
open Go
set_option linter.unusedSimpArgs false
set_option linter.unusedVariables false
mutual
theorem ltk_mono {k n : Nat} (h : k ≤ n) : ∀ (a : AV),a.ltk k = true → a.ltk n = true
 | .ref _ _ _,e | .ptr _ _ _,e | .mp _,e=>by simp only [AV.ltk,decide_eq_true_eq] at e ⊢;omega
 | .fn _ l,e=>by simp only [AV.ltk] at e ⊢;exact ltks_mono h l e
 | .agg l,e=>by simp only [AV.ltk] at e ⊢;exact ltks_mono h l e
 | .tup l,e=>by simp only [AV.ltk] at e ⊢;exact ltks_mono h l e
 | .ifc _ v,e=>by simp only [AV.ltk] at e ⊢;exact ltk_mono h v e
 | .bm _ v,e=>by simp only [AV.ltk] at e ⊢;exact ltk_mono h v e
 | .gd _ v,e=>by simp only [AV.ltk] at e ⊢;exact ltk_mono h v e
 | .any,_ | .b _,_ | .i _ _,_ | .s _,_ | .sl _ _,_ | .own _ _,_ | .ep _ _,_ | .nilp,_ | .nilm,_ | .nsl,_ | .esl,_ | .nilf,_ | .nili,_=>rfl
theorem ltks_mono {k n : Nat} (h : k ≤ n) : ∀ (l : List AV),AV.ltks k l = true → AV.ltks n l = true
 | [],_=>rfl
 | a :: l,e=>by
  simp only [AV.ltks,Bool.and_eq_true] at e ⊢
  exact ⟨ltk_mono h a e.1,ltks_mono h l e.2⟩
end
theorem Ob.ltk_mono {k n : Nat} (h : k ≤ n) (x : Ob) (e : x.ltk k = true) : x.ltk n = true:=by
 cases x with
 | cells sz rows =>
  simp only [Ob.ltk,List.all_eq_true] at e ⊢
  exact fun r hr a ha=>AW.ltk_mono h a (e r hr a ha)
 | mapo es =>
  simp only [Ob.ltk,List.all_eq_true,Bool.and_eq_true] at e ⊢
  exact fun x hx=>⟨AW.ltk_mono h _ (e x hx).1,AW.ltk_mono h _ (e x hx).2⟩
 | frz=>rfl
 | dead=>rfl
def okO (oc : List Ob) : Bool:=oc.all (Ob.ltk oc.length)
theorem okO_app {oc ex : List Ob} (h : okO oc = true) (hx : ex.all (Ob.ltk (oc.length + ex.length)) = true) : okO (oc ++ ex) = true:=by
 unfold okO at h ⊢
 rw [List.length_append,List.all_append,Bool.and_eq_true]
 refine ⟨?_,hx⟩
 rw [List.all_eq_true] at h ⊢
 exact fun x hx=>Ob.ltk_mono (by omega) x (h x hx)
@[go_sem] theorem app_len (oc : List Ob) (x : Ob) (l : List Ob) : (oc ++ x :: l)[oc.length]? = some x:=by simp
@[go_sem] theorem app_len1 (oc : List Ob) (x y : Ob) (l : List Ob) : (oc ++ x :: y :: l)[oc.length + 1]? = some y:=by simp [List.getElem?_append_right]
@[go_sem] theorem app_len2 (oc : List Ob) (x y z : Ob) (l : List Ob) : (oc ++ x :: y :: z :: l)[oc.length + 2]? = some z:=by simp [List.getElem?_append_right]
@[go_sem] theorem app_set (oc : List Ob) (x y : Ob) (l : List Ob) : (oc ++ x :: l).set oc.length y = oc ++ y :: l:=by simp
@[go_sem] theorem app_set1 (oc : List Ob) (x z y : Ob) (l : List Ob) : (oc ++ x :: z :: l).set (oc.length + 1) y = oc ++ x :: y :: l:=by simp [List.set_append]
@[go_sem] theorem app_set2 (oc : List Ob) (x z v y : Ob) (l : List Ob) : (oc ++ x :: z :: v :: l).set (oc.length + 2) y = oc ++ x :: z :: y :: l:=by simp [List.set_append]
attribute [go_sem] List.set_cons_zero List.set_cons_succ
theorem app_get {oc : List Ob} {i : Nat} {x : Ob} (l : List Ob) (h : oc[i]? = some x) : (oc ++ l)[i]? = some x:=getE_mono h
attribute [go_sem] List.append_assoc List.cons_append List.length_append
@[go_sem] theorem bif_or (a b : Bool) : (bif a then true else b) = (a || b):=by cases a<;>rfl
@[go_sem] theorem bif_and (a b : Bool) : (bif a then b else false) = (a && b):=by cases a<;>rfl
section
variable {P : Program} {n : Nat} {gd : List (Option Nat)} {tk : List Nat} {Q : Exit → St → Prop} {s : St} {K : St → Prop}
theorem map_ren_range {k : Nat} {ac : List AV} (h : ac.all (AV.ltk k) = true) : ac.map (AV.ren fun j=>(List.range k).getD j 0) = ac:=by
 conv=>rhs;rw [← List.map_id ac]
 rw [List.all_eq_true] at h
 exact List.map_congr_left fun a ha=>ren_range a (h a ha)
theorem CallD.all {o : Oper} {c : Call} {x : Operand} {f : FuncId} {caps ac : List AV} {r : AV} (ho : o.op = .call c) (hc : c.callee = .value x) (hx : ung true (opd s.t x) = .fn f caps) (h : ACallsQ P f ac s.o r)
  (hin : c.args.toList.all (opIn n) = true) (hd : dstOk n o.dst = true) (hl : c.args.size ≤ ac.length) (hle : LeA (argVals c.args.toList (ac.take c.args.size) s.t ++ caps.map AV.dat) ac)
  (hoc : okO s.o = true) (hac : ac.all (AV.ltk s.o.length) = true) (hr : r.ltk 0 = true) : CallD P n o s ac r :=
 ⟨⟨c,x,false,f,caps,List.range s.o.length,s.o,ho,hc,by rw [hx];rfl,hin,hl,Hand.all hoc,by rw [map_ren_range hac];exact hle,by rw [List.length_range];exact hac,h⟩,hd,hr⟩
theorem RL_callQ {d : Option Tmp} {x : Operand} {xs : List Operand} {ats : Array TypeId} {ty : TypeId} {pos : String} {aft : Array Edge} {rest : List Oper} {f : FuncId} {caps ac : List AV} {r : AV} (h : ACallsQ P f ac s.o r)
  (hx : ung true (opd s.t x) = .fn f caps) (hin : xs.all (opIn n) = true) (hd : dstOk n d = true) (hl : xs.length ≤ ac.length) (hle : LeA (argVals xs (ac.take xs.length) s.t ++ caps.map AV.dat) ac)
  (hoc : okO s.o = true) (hac : ac.all (AV.ltk s.o.length) = true) (hr : r.ltk 0 = true) (hK : RL P n gd rest Q ((⟨argDrop xs (ac.take xs.length) s.t,s.o⟩ : St).put d r)) :
  RL P n gd (⟨d,.call ⟨.value x,xs.toArray,ats⟩,ty,pos,aft,none⟩ :: rest) Q s:=by
 refine RL_call ac r rfl (CallD.all rfl rfl hx h hin hd (by simpa using hl) (by simpa using hle) hoc hac hr) ?_
 simpa only [dropA,List.size_toArray] using hK
theorem RL_callQg {d : Option Tmp} {x : Operand} {xs : List Operand} {ats : Array TypeId} {ty : TypeId} {pos : String} {aft : Array Edge} {rest : List Oper} {f : FuncId} {caps ac : List AV} {r : AV} {j t : Nat} {want h0 b : Bool}
  (hj : gd.getD j none = some t) (hg : gv (s.t t) = some (h0,b)) (h : (h0 && b == want) = true → ACallsQ P f ac s.o r)
  (hx : (h0 && b == want) = true → ung true (opd s.t x) = .fn f caps) (hin : xs.all (opIn n) = true) (hd : dstOk n d = true) (hl : xs.length ≤ ac.length) (hle : (h0 && b == want) = true → LeA (argVals xs (ac.take xs.length) s.t ++ caps.map AV.dat) ac)
  (hoc : okO s.o = true) (hac : ac.all (AV.ltk s.o.length) = true) (hr : r.ltk 0 = true) (hK : RL P n gd rest Q ((⟨argDrop xs (ac.take xs.length) s.t,s.o⟩ : St).put d (.gd (h0 && b == want) r))) :
  RL P n gd (⟨d,.call ⟨.value x,xs.toArray,ats⟩,ty,pos,aft,some (j,want)⟩ :: rest) Q s:=by
 refine RL_callg ac r rfl hj hg hd (fun e=>CallD.all rfl rfl (hx e) (h e) hin hd (by simpa using hl) (by simpa using hle e) hoc hac hr) ?_
 simpa only [dropA,List.size_toArray] using hK
theorem OpW_callE {o : Oper} {c : Call} {x : Operand} {f : FuncId} {caps ac : List AV} {R : AV → List Ob → Prop} (ho : o.op = .call c) (hc : c.callee = .value x) (hx : ung true (opd s.t x) = .fn f caps) (h : ACalls P f ac s.o R)
  (hlen : ∀ r o',R r o' → s.o.length ≤ o'.length ∧ r.ltk o'.length = true ∧ okO o' = true)
  (hin : c.args.toList.all (opIn n) = true) (hd : dstOk n o.dst = true) (hl : c.args.size ≤ ac.length) (hle : LeA (argVals c.args.toList (ac.take c.args.size) s.t ++ caps.map AV.dat) ac)
  (hoc : okO s.o = true) (hac : ac.all (AV.ltk s.o.length) = true) (hK : ∀ r o',R r o' → K ((⟨argDrop c.args.toList (ac.take c.args.size) s.t,o'⟩ : St).put o.dst r)) : OpW P n o s K:=by
 refine OpW_call (R:=R) ho hc hx hd hin (Hand.all hoc) hl (by rw [map_ren_range hac];exact hle) (by rw [List.length_range];exact hac) h ?_
 intro r o' hR
 obtain ⟨h1,h2,h3⟩:=hlen r o' hR
 rw [after_all h1]
 have : r.ren (phi (List.range s.o.length) s.o.length) = r:=by
  conv=>rhs;rw [← ren_self r]
  refine ren_congr (n:=o'.length) (fun k hk=>?_) r h2
  unfold phi
  simp only [List.length_range]
  split
  ·rename_i hlt;exact range_getD hlt
  ·omega
 rw [this]
 exact hK r o' hR
theorem RL_callE {d : Option Tmp} {x : Operand} {xs : List Operand} {ats : Array TypeId} {ty : TypeId} {pos : String} {aft : Array Edge} {rest : List Oper} {f : FuncId} {caps ac : List AV} {R : AV → List Ob → Prop} (h : ACalls P f ac s.o R)
  (hlen : ∀ r o',R r o' → s.o.length ≤ o'.length ∧ r.ltk o'.length = true ∧ okO o' = true)
  (hx : ung true (opd s.t x) = .fn f caps) (hin : xs.all (opIn n) = true) (hd : dstOk n d = true) (hl : xs.length ≤ ac.length) (hle : LeA (argVals xs (ac.take xs.length) s.t ++ caps.map AV.dat) ac)
  (hoc : okO s.o = true) (hac : ac.all (AV.ltk s.o.length) = true) (hK : ∀ r o',R r o' → RL P n gd rest Q ((⟨argDrop xs (ac.take xs.length) s.t,o'⟩ : St).put d r)) :
  RL P n gd (⟨d,.call ⟨.value x,xs.toArray,ats⟩,ty,pos,aft,none⟩ :: rest) Q s:=by
 refine RL_cons rfl (OpW_callE (R:=R) rfl rfl hx h hlen hin hd (by simpa using hl) (by simpa using hle) hoc hac ?_)
 simpa only [List.size_toArray] using hK
theorem D_callQ {d : Option Tmp} {x : Operand} {xs : List Operand} {ats : Array TypeId} {ty : TypeId} {pos : String} {aft : Array Edge} {rest : List Oper} {f : FuncId} {caps ac : List AV} {r : AV} (h : ACallsQ P f ac s.o r)
  (hx : ung true (opd s.t x) = .fn f caps) (hin : xs.all (opIn n) = true) (hd : dstOk n d = true) (hl : xs.length ≤ ac.length) (hle : LeA (argVals xs (ac.take xs.length) s.t ++ caps.map AV.dat) ac)
  (hoc : okO s.o = true) (hac : ac.all (AV.ltk s.o.length) = true) (hr : r.ltk 0 = true) (hq : isQ tk ⟨d,.call ⟨.value x,xs.toArray,ats⟩,ty,pos,aft,none⟩ = true) (ho : ac.all (fun c=>!c.isOwn) = true)
  (hK : D P n gd tk rest K (s.put d r)) : D P n gd tk (⟨d,.call ⟨.value x,xs.toArray,ats⟩,ty,pos,aft,none⟩ :: rest) K s :=
 D_call ac r rfl hq (CallD.all rfl rfl hx h hin hd (by simpa using hl) (by simpa using hle) hoc hac hr) ho hK
theorem D_callE' {d : Option Tmp} {x : Operand} {xs : List Operand} {ats : Array TypeId} {ty : TypeId} {pos : String} {aft : Array Edge} {rest : List Oper} {f : FuncId} {caps ac : List AV} {R : AV → List Ob → Prop} (h : ACalls P f ac s.o R)
  (hlen : ∀ r o',R r o' → s.o.length ≤ o'.length ∧ r.ltk o'.length = true ∧ okO o' = true)
  (hx : ung true (opd s.t x) = .fn f caps) (hin : xs.all (opIn n) = true) (hd : dstOk n d = true) (hl : xs.length ≤ ac.length) (hle : LeA (argVals xs (ac.take xs.length) s.t ++ caps.map AV.dat) ac)
  (hoc : okO s.o = true) (hac : ac.all (AV.ltk s.o.length) = true) (hq : isQ tk ⟨d,.call ⟨.value x,xs.toArray,ats⟩,ty,pos,aft,none⟩ = false)
  (hK : ∀ r o',R r o' → D P n gd tk rest K ((⟨argDrop xs (ac.take xs.length) s.t,o'⟩ : St).put d r)) :
  D P n gd tk (⟨d,.call ⟨.value x,xs.toArray,ats⟩,ty,pos,aft,none⟩ :: rest) K s:=by
 refine D_callE rfl hq rfl (OpW_callE (R:=R) rfl rfl hx h hlen hin hd (by simpa using hl) (by simpa using hle) hoc hac ?_)
 simpa only [List.size_toArray] using hK
theorem ACallsD.q {f : FuncId} {ac : List AV} {r : AV} (h : ACallsD P f ac r) (hr : r.ltk 0 = true) (hac : ac.all (AV.ltk 0) = true) : ∀ (o : Oper) (c : Call) (x : Operand) (caps : List AV),o.op = .call c → c.callee = .value x → ung true (opd s.t x) = .fn f caps →
  c.args.toList.all (opIn n) = true → dstOk n o.dst = true → c.args.size ≤ ac.length → LeA (argVals c.args.toList (ac.take c.args.size) s.t ++ caps.map AV.dat) ac → CallD P n o s ac r :=
 fun o c x caps ho hc hx hin hd hl hle=>⟨⟨c,x,false,f,caps,[],[],ho,hc,by rw [hx];rfl,hin,hl,Hand.nil _,by rw [map_ren_id _ hac];exact hle,hac,h⟩,hd,hr⟩
theorem RL_callDg {d : Option Tmp} {f : FuncId} {xs : List Operand} {ats : Array TypeId} {ty : TypeId} {pos : String} {aft : Array Edge} {rest : List Oper} {ac : List AV} {r : AV} {j t : Nat} {want h0 b : Bool}
  (hj : gd.getD j none = some t) (hg : gv (s.t t) = some (h0,b)) (h : (h0 && b == want) = true → ACallsD P f ac r)
  (hin : xs.all (opIn n) = true) (hd : dstOk n d = true) (hlen : xs.length = ac.length) (hle : (h0 && b == want) = true → LeA (argVals xs ac s.t) ac) (harg : ac.all (AV.ltk 0) = true) (hres : r.ltk 0 = true)
  (hK : RL P n gd rest Q ((⟨argDrop xs ac s.t,s.o⟩ : St).put d (.gd (h0 && b == want) r))) : RL P n gd (⟨d,.call ⟨.value (.func f),xs.toArray,ats⟩,ty,pos,aft,some (j,want)⟩ :: rest) Q s:=by
 have ht : ac.take xs.toArray.size = ac:=by rw [List.take_of_length_le];simp [hlen]
 refine RL_callg ac r rfl hj hg hd (fun e=>(h e).q hres harg _ _ _ [] rfl rfl rfl hin hd (by simp [hlen]) (by rw [ht];simpa using hle e)) ?_
 simpa only [dropA,ht] using hK
theorem D_callD {d : Option Tmp} {f : FuncId} {xs : List Operand} {ats : Array TypeId} {ty : TypeId} {pos : String} {aft : Array Edge} {rest : List Oper} {ac : List AV} {r : AV} (h : ACallsD P f ac r)
  (hin : xs.all (opIn n) = true) (hd : dstOk n d = true) (hlen : xs.length = ac.length) (hle : LeA (argVals xs ac s.t) ac) (harg : ac.all (AV.ltk 0) = true) (hres : r.ltk 0 = true)
  (hq : isQ tk ⟨d,.call ⟨.value (.func f),xs.toArray,ats⟩,ty,pos,aft,none⟩ = true) (ho : ac.all (fun c=>!c.isOwn) = true) (hK : D P n gd tk rest K (s.put d r)) :
  D P n gd tk (⟨d,.call ⟨.value (.func f),xs.toArray,ats⟩,ty,pos,aft,none⟩ :: rest) K s:=by
 have ht : ac.take xs.toArray.size = ac:=by rw [List.take_of_length_le];simp [hlen]
 exact D_call ac r rfl hq (h.q hres harg _ _ _ [] rfl rfl rfl hin hd (by simp [hlen]) (by rw [ht];simpa using hle)) ho hK
theorem D_callDg {d : Option Tmp} {f : FuncId} {xs : List Operand} {ats : Array TypeId} {ty : TypeId} {pos : String} {aft : Array Edge} {rest : List Oper} {ac : List AV} {r : AV} {j t : Nat} {want h0 b : Bool}
  (hj : gd.getD j none = some t) (hg : gv (s.t t) = some (h0,b)) (h : (h0 && b == want) = true → ACallsD P f ac r)
  (hin : xs.all (opIn n) = true) (hd : dstOk n d = true) (hlen : xs.length = ac.length) (hle : (h0 && b == want) = true → LeA (argVals xs ac s.t) ac) (harg : ac.all (AV.ltk 0) = true) (hres : r.ltk 0 = true)
  (hq : isQ tk ⟨d,.call ⟨.value (.func f),xs.toArray,ats⟩,ty,pos,aft,some (j,want)⟩ = true) (ho : ac.all (fun c=>!c.isOwn) = true) (hK : D P n gd tk rest K (s.put d (.gd (h0 && b == want) r))) :
  D P n gd tk (⟨d,.call ⟨.value (.func f),xs.toArray,ats⟩,ty,pos,aft,some (j,want)⟩ :: rest) K s:=by
 have ht : ac.take xs.toArray.size = ac:=by rw [List.take_of_length_le];simp [hlen]
 exact D_callg ac r rfl hj hg hd hq (fun e=>(h e).q hres harg _ _ _ [] rfl rfl rfl hin hd (by simp [hlen]) (by rw [ht];simpa using hle e)) ho hK
theorem endQ_quiet {rs : List ResultVar} {oc ex : List Ob} {t : Nat → AV} {r r' : AV} (h1 : resAV P rs ⟨t,oc ++ ex⟩ = some r) (h2 : Le r r') (hoc : okO oc = true) (h6 : r'.ltk 0 = true) : endQ P rs oc.length (fun x o'=>x = r' ∧ o' = oc) .ret ⟨t,oc ++ ex⟩ :=
 ⟨r,r',oc.length,h1,h2,Nat.le_refl _,by simp,by rw [List.take_left];exact hoc,ltk_mono (Nat.zero_le _) _ h6,rfl,by rw [List.take_left]⟩
theorem endQ_quiet0 {rs : List ResultVar} {oc : List Ob} {t : Nat → AV} {r r' : AV} (h1 : resAV P rs ⟨t,oc⟩ = some r) (h2 : Le r r') (hoc : okO oc = true) (h6 : r'.ltk 0 = true) : endQ P rs oc.length (fun x o'=>x = r' ∧ o' = oc) .ret ⟨t,oc⟩:=by
 have:=endQ_quiet (P:=P) (ex:=[]) (by rw [List.append_nil];exact h1) h2 hoc h6
 rwa [List.append_nil] at this
end
end Go.AW
namespace Go.AW
open Go
set_option linter.unusedSimpArgs false
set_option linter.unusedVariables false
section
variable {P : Program} {n : Nat} {gd : List (Option Nat)} {tk : List Nat} {Q : Exit → St → Prop} {s s' : St} {K : St → Prop}
theorem Does_slot {o : Oper} {r : R1} {g : G} {a : Act} {w : World} (hs : slotR P tk o s true = some r) (hok : r.ok = true) (hd : dstOk g.n o.dst = true) (hat : At g s a w) : Does P g a w o (s.put o.dst r.v):=by
 by_cases hna : ∀ x,o.op ≠ .assign x
 ·have h1:=slotR_step1 (n:=g.n) hs hna
  have:=step1_sound hat (tk:=tk) (o:=o) (P:=P) (by rw [h1];simp [putS,hok,hd])
  rw [h1] at this
  exact this
 ·obtain ⟨x,hx⟩ : ∃ x,o.op = .assign x:=by
   cases hop : o.op with
   | assign x=>exact ⟨x,rfl⟩
   | _=>exact absurd (fun x=>by rw [hop];exact fun e=>by cases e) hna
  have hr : r = ⟨true,upAV (elU (upT tk) P o.type) (ung true (opd s.t x)).dat⟩:=by
   unfold slotR at hs
   rw [hx] at hs
   simp only at hs
   split at hs
   ·split at hs
    ·cases hs
    ·exact (Option.some.inj hs).symm
   ·cases hs
  subst hr
  exact putS_sound rfl hat (by simp [putS,hd]) fun m reg h1 _=>⟨_,exec_move (.inr hx),upAV_V (V.dat _ _ (ung_V rfl (opdV h1 x))),upAV_light (V.dat _ _ (ung_V rfl (opdV h1 x))) (AV.dat_isOwn _)⟩
theorem Does.weak {o : Oper} {g : G} {a : Act} {w : World} {s1 s2 : St} (h : Does P g a w o s1) (ht : ∀ k,Le (s1.t k) (s2.t k)) (ho : s2.o = s1.o) : Does P g a w o s2:=by
 rcases h with ⟨v,w',h1,h2⟩ | ⟨w',h1,h2⟩
 ·exact .inl ⟨v,w',h1,h2.weak ht ho⟩
 ·exact .inr ⟨w',h1,h2.weak ht ho⟩
theorem D_does {ops : Array Oper} {o : Oper} {r : List Oper} (hgd : ops.toList.map (·.dst) = gd) (hc : isCall o = false) (h : D P n gd tk (o :: r) K s) {g : G} {a : Act} {w : World} (hn : g.n = n) (hat : At g s a w) :
  (Region.wanted o (yielded ops a.tmps) = true ∧ ∃ s',D P n gd tk r K s' ∧ Does P g a w o s') ∨ (Region.wanted o (yielded ops a.tmps) = false ∧ ∃ s',D P n gd tk r K s' ∧ At g s' (a.put o.dst undef) w):=by
 subst hn
 have nocall : ∀ {ac : List AV} {r : AV},CallD P g.n o s ac r → False:=by
  rintro ac r ⟨⟨c,x,b,f,caps,ids,oc,h1,h2,_⟩,_,_⟩
  unfold isCall at hc
  rw [h1] at hc
  simp only [h2] at hc
  cases hc
 by_cases hq : isQ tk o = true
 ·simp only [D,hq,if_true] at h
  obtain ⟨v,⟨hd,hv⟩,hr⟩:=h
  cases hg : o.guard with
  | none =>
   simp only [hg] at hv
   left
   refine ⟨by simp [Region.wanted,hg],_,hr,?_⟩
   rcases hv with ⟨r1,h1,h2,rfl⟩ | ⟨ac,h1,h2⟩
   ·exact Does_slot h1 h2 hd hat
   ·exact (nocall h1).elim
  | some jw =>
   obtain ⟨j,want⟩:=jw
   simp only [hg] at hv
   obtain ⟨t,h0,x,e1,e2,hv⟩:=hv
   have hy:=yield_b hgd hat e1 e2 want
   have hw : Region.wanted o (yielded ops a.tmps) = (h0 && x == want):=by simp only [Region.wanted,hg];exact hy
   cases hcnd : (h0 && x == want) with
   | true =>
    left
    refine ⟨by rw [hw,hcnd],_,hr,?_⟩
    rw [hcnd] at hv
    rcases hv with ⟨r1,h1,h2,rfl⟩ | ⟨ac,r1,h1,h2,rfl⟩
    ·refine (Does_slot h1 (h2 rfl) hd hat).weak (put_le s o.dst (Le.gdI rfl _)) ?_
     cases o.dst<;>rfl
    ·exact (nocall (h1 rfl)).elim
   | false =>
    right
    refine ⟨by rw [hw,hcnd],_,hr,hat.putAny hd (fun w Y m=>?_) ?_⟩
    ·rw [hcnd] at hv
     rcases hv with ⟨r1,h1,h2,rfl⟩ | ⟨ac,r1,h1,h2,rfl⟩<;>simp [V]
    ·rw [hcnd] at hv
     rcases hv with ⟨r1,h1,h2,rfl⟩ | ⟨ac,r1,h1,h2,rfl⟩<;>rfl
 ·have hq : isQ tk o = false:=by simpa using hq
  simp only [D,hq,hc,if_false,Bool.false_eq_true] at h
  obtain ⟨hg,s1,h1,h2⟩:=h
  left
  refine ⟨by simp [Region.wanted,hg],s1,h2,?_⟩
  have:=step1_sound hat (tk:=tk) (o:=o) (P:=P) (by rw [h1])
  rw [h1] at this
  exact this
end
def cover (ops : Array Oper) : Nat → List Nat → List (List Nat) → Bool
 | 0,A,T=>A == [] && T == [[]]
 | k + 1,A,T=>if A = [] then T == [[]] else !T.isEmpty && (A.any fun i=>!A.any fun j=>(dirs ops i).contains j) && A.all fun i=>(A.any fun j=>(dirs ops i).contains j) || cover ops k (A.erase i) (T.filterMap fun t=>match t with | j :: r=>if j = i then some r else none | []=>none)
def pairOk (ops : Array Oper) (gd : List (Option Nat)) (tk : List Nat) (tp : List (List Nat)) (a b : Nat) : Bool :=
 !(dirs ops a).contains b && ((tp.getD b []).contains a || (match ops[a]?,ops[b]? with | some x,some y=>indep gd tk x y || indep2 gd tk x y || indep3 gd tk x y || indep4 gd tk x y | _,_=>false))
structure Left (ops : Array Oper) (gd : List (Option Nat)) (tk : List Nat) (tp : List (List Nat)) (pre A post : List Nat) : Prop where
 nodup : (pre ++ A ++ post).Nodup
 p1 : pre.Pairwise fun a b=>pairOk ops gd tk tp a b = true
 p2 : post.Pairwise fun a b=>pairOk ops gd tk tp a b = true
 p3 : ∀ a ∈ pre,∀ b ∈ A,pairOk ops gd tk tp a b = true
 p4 : ∀ a ∈ pre,∀ b ∈ post,pairOk ops gd tk tp a b = true
 p5 : ∀ a ∈ A,∀ b ∈ post,pairOk ops gd tk tp a b = true
 calls : ∀ i o,(i ∈ pre ∨ i ∈ post) → ops[i]? = some o → isCall o = true → ∀ a ∈ A,a ∈ tp.getD i []
 noc : ∀ i o,i ∈ A → ops[i]? = some o → isCall o = false
def drawOkA (ops : Array Oper) (gd : List (Option Nat)) (tk : List Nat) (pre A post : List Nat) (tp : List (List Nat)) : Bool :=
 decide (pre ++ A ++ post).Nodup && (List.range ops.size).all ((pre ++ A ++ post).contains ·) && (pre ++ A ++ post).all (fun i=>decide (i < ops.size)) &&
 (List.range ops.size).all (fun i=>(tp.getD i []).all fun j=>(dirs ops i).contains j || (dirs ops i).any fun k=>(tp.getD k []).contains j) &&
 (List.range ops.size).all (fun i=>(dirs ops i).all fun k=>k != i && decide (k < ops.size)) &&
 decide (pre.Pairwise fun a b=>pairOk ops gd tk tp a b = true) && decide (post.Pairwise fun a b=>pairOk ops gd tk tp a b = true) &&
 pre.all (fun a=>A.all fun b=>pairOk ops gd tk tp a b) && pre.all (fun a=>post.all fun b=>pairOk ops gd tk tp a b) && A.all (fun a=>post.all fun b=>pairOk ops gd tk tp a b) &&
 (pre ++ post).all (fun i=>match ops[i]? with | some o=>!isCall o || A.all fun a=>(tp.getD i []).contains a | none=>true) &&
 A.all (fun i=>match ops[i]? with | some o=>!isCall o | none=>true) && (pre ++ A ++ post).length == ops.size
section
variable {P : Program} {n : Nat} {gd : List (Option Nat)} {tk : List Nat} {Q : Exit → St → Prop} {tp : List (List Nat)}
theorem cover_nil {ops : Array Oper} {k : Nat} {T : List (List Nat)} (h : cover ops k [] T = true) : T = [[]]:=by
 cases k with
 | zero=>simp only [cover,Bool.and_eq_true,beq_iff_eq] at h;exact h.2
 | succ k=>simpa [cover] using h
theorem Left.sub {ops : Array Oper} {pre A post pre' A' post' : List Nat} (h : Left ops gd tk tp pre A post) (h1 : pre'.Sublist pre) (h2 : A'.Sublist A) (h3 : post'.Sublist post) : Left ops gd tk tp pre' A' post' :=
 ⟨h.nodup.sublist ((h1.append h2).append h3),h.p1.sublist h1,h.p2.sublist h3,fun a ha b hb=>h.p3 a (h1.subset ha) b (h2.subset hb),fun a ha b hb=>h.p4 a (h1.subset ha) b (h3.subset hb),
  fun a ha b hb=>h.p5 a (h2.subset ha) b (h3.subset hb),
  fun i o hi ho hc a ha=>h.calls i o (hi.imp (fun x=>h1.subset x) (fun x=>h3.subset x)) ho hc a (h2.subset ha),fun i o hi=>h.noc i o (h2.subset hi)⟩
theorem wpAny_of_DA {ops : Array Oper} (hgd : ops.toList.map (·.dst) = gd) (c4 : ∀ i,i < ops.size → ∀ j ∈ tp.getD i [],j ∈ dirs ops i ∨ ∃ k ∈ dirs ops i,j ∈ tp.getD k [])
  (c5 : ∀ i,i < ops.size → ∀ k ∈ dirs ops i,k ≠ i ∧ k < ops.size) {g : G} (hn : g.n = n) :
  ∀ (fuel : Nat) (pre A post : List Nat) (listed : Array Bool) (a : Act) (w : World) (T : List (List Nat × (St → Prop))),(pre ++ A ++ post).length = fuel → Left ops gd tk tp pre A post → (∀ i ∈ pre ++ A ++ post,i < ops.size) → listed.size = ops.size →
   (∀ i,i < ops.size → (listed.getD i true = false ↔ i ∈ pre ++ A ++ post)) → (∀ k,k < ops.size → k ∉ pre ++ A ++ post → ∀ j ∈ tp.getD k [],j ∉ pre ++ A ++ post) →
   cover ops A.length A (T.map (·.1)) = true → (∀ t ∈ T,t.1.Perm A) → (∀ t ∈ T,∀ s,t.2 s → ∀ a w,At g s a w → QL g Q .normal a w) →
   (∀ t ∈ T,∃ s,D P n gd tk ((pre ++ t.1 ++ post).filterMap (ops[·]?)) t.2 s ∧ At g s a w) → wpAny P .any ops (QL g Q) fuel listed a w:=by
 intro fuel
 induction fuel with
 | zero =>
  intro pre A post listed a w T hl hL hm hsz hli hcl hcov hperm hK hD
  have he : pre ++ A ++ post = []:=List.eq_nil_of_length_eq_zero hl
  simp only [List.append_eq_nil_iff] at he
  obtain ⟨⟨rfl,rfl⟩,rfl⟩:=he
  have hT:=cover_nil hcov
  refine ⟨?_,?_⟩
  ·unfold Region.ready
   rw [List.filter_eq_nil_iff]
   intro i hi
   have:=(hli i (List.mem_range.1 hi))
   simp only [List.append_nil,List.not_mem_nil,iff_false,Bool.not_eq_false] at this
   simp [this]
  ·cases T with
   | nil=>simp at hT
   | cons t T =>
    simp only [List.map_cons,List.cons.injEq] at hT
    obtain ⟨s,h1,h2⟩:=hD t (by simp)
    rw [hT.1] at h1
    simp only [List.nil_append,List.filterMap_nil,D] at h1
    exact hK t (by simp) s h1 a w h2
 | succ fuel ih =>
  intro pre A post listed a w T hl hL hm hsz hli hcl hcov hperm hK hD
  have hTne : T ≠ []:=by
   rintro rfl
   cases hA : A.length with
   | zero=>rw [hA] at hcov;simp [cover] at hcov
   | succ k =>
    rw [hA] at hcov
    simp only [cover,List.map_nil] at hcov
    split at hcov
    ·simp at hcov
    ·simp at hcov
  have hdir : ∀ (i : Nat),i ∈ Region.ready .any ops listed → i < ops.size ∧ i ∈ pre ++ A ++ post ∧ ∀ k ∈ dirs ops i,k ∉ pre ++ A ++ post:=by
   intro i hi
   rw [mem_ready] at hi
   obtain ⟨h1,o,ho,h2⟩:=hi
   have hlt:=(Array.getElem?_eq_some_iff.1 ho).1
   refine ⟨hlt,(hli i hlt).1 h1,fun k hk hkr=>?_⟩
   unfold dirs at hk
   rw [ho] at hk
   simp only [List.mem_map,List.mem_filter,Array.mem_toList_iff] at hk
   obtain ⟨e,⟨he,hb⟩,rfl⟩:=hk
   have h3:=h2 e he hb
   have h4:=(hli e.on (hm _ hkr)).2 hkr
   rw [Array.getD_eq_getD_getElem?] at h3 h4
   cases hq : listed[e.on]? with
   | none=>rw [hq] at h4;simp at h4
   | some b=>rw [hq] at h3 h4;simp at h3 h4;rw [h3] at h4;cases h4
  have isReady : ∀ (i : Nat),i ∈ pre ++ A ++ post → (∀ k ∈ dirs ops i,k ∉ pre ++ A ++ post) → i ∈ Region.ready .any ops listed:=by
   intro i hi hno
   have hlt:=hm i hi
   rw [mem_ready]
   refine ⟨(hli i hlt).2 hi,ops[i],by simp [hlt],fun e he hb=>?_⟩
   have hk : e.on ∈ dirs ops i:=by
    unfold dirs
    rw [show ops[i]? = some ops[i] by simp [hlt]]
    simp only [List.mem_map,List.mem_filter,Array.mem_toList_iff]
    exact ⟨e,⟨he,hb⟩,rfl⟩
   have hne:=c5 i hlt _ hk
   cases hq : listed.getD e.on true with
   | false=>exact absurd ((hli e.on hne.2).1 hq) (hno _ hk)
   | true =>
    rw [Array.getD_eq_getD_getElem?] at hq ⊢
    have h4 : e.on < listed.size:=by rw [hsz];exact hne.2
    rw [Array.getElem?_eq_getElem h4] at hq ⊢
    simpa using hq
  have pk : ∀ {x y : Nat},pairOk ops gd tk tp x y = true → y ∉ dirs ops x:=by
   intro x y h hy
   simp only [pairOk,Bool.and_eq_true,Bool.not_eq_true',List.contains_eq_mem,decide_eq_false_iff_not] at h
   exact h.1 hy
  have hself : ∀ {x : Nat},x ∈ pre ++ A ++ post → x ∉ dirs ops x:=fun hx hd=>(c5 _ (hm _ hx) _ hd).1 rfl
  refine ⟨fun hno=>?_,fun i hi=>?_⟩
  ·-- the first one is ready
   exfalso
   have key : ∀ i,i ∈ pre ++ A ++ post → (∀ k ∈ dirs ops i,k ∉ pre ++ A ++ post) → False:=fun i h1 h2=>by
    have:=isReady i h1 h2
    rw [hno] at this;cases this
   cases pre with
   | cons i pre =>
    refine key i (by simp) fun k hk hkr=>?_
    simp only [List.cons_append,List.mem_cons,List.mem_append] at hkr
    rcases hkr with rfl | (h | h) | h
    ·exact hself (by simp) hk
    ·exact pk ((List.pairwise_cons.1 hL.p1).1 k h) hk
    ·exact pk (hL.p3 i (by simp) k h) hk
    ·exact pk (hL.p4 i (by simp) k h) hk
   | nil =>
    cases A with
    | cons i0 A0 =>
     have hcov0:=hcov
     rw [List.length_cons] at hcov0
     simp only [cover] at hcov0
     split at hcov0
     ·rename_i e;cases e
     ·rw [Bool.and_eq_true,Bool.and_eq_true] at hcov0
      obtain ⟨i,hiA,hin⟩:=List.any_eq_true.1 hcov0.1.2
      rw [Bool.not_eq_true',List.any_eq_false] at hin
      refine key i (by simp only [List.nil_append,List.mem_append];exact .inl hiA) fun k hk hkr=>?_
      simp only [List.nil_append,List.mem_append] at hkr
      rcases hkr with h | h
      ·have:=hin k h
       rw [List.contains_eq_mem] at this
       simp [hk] at this
      ·exact pk (hL.p5 i hiA k h) hk
    | nil =>
     cases post with
     | cons i post =>
      refine key i (by simp) fun k hk hkr=>?_
      simp only [List.nil_append,List.mem_cons] at hkr
      rcases hkr with rfl | h
      ·exact hself (by simp) hk
      ·exact pk ((List.pairwise_cons.1 hL.p2).1 k h) hk
     | nil=>simp at hl
  ·obtain ⟨hlt,hir,hdn⟩:=hdir i hi
   have ho : ops[i]? = some ops[i]:=by simp [hlt]
   -- what stands before it does not mind
   have hmove : ∀ (X Y : List Nat) (K : St → Prop) (s : St),(∀ p ∈ X,pairOk ops gd tk tp p i = true ∧ p ∈ pre ++ A ++ post) → D P n gd tk ((X ++ i :: Y).filterMap (ops[·]?)) K s →
     D P n gd tk (ops[i] :: (X ++ Y).filterMap (ops[·]?)) K s:=by
    intro X Y K s hX h
    rw [List.filterMap_append,List.filterMap_cons,ho] at h
    rw [List.filterMap_append]
    refine D_front _ ?_ h
    intro p hpm
    obtain ⟨j,hj,hjo⟩:=List.mem_filterMap.1 hpm
    obtain ⟨h1,h2⟩:=hX j hj
    simp only [pairOk,Bool.and_eq_true,Bool.or_eq_true,List.contains_eq_mem,decide_eq_true_eq] at h1
    rcases h1.2 with h3 | h3
    ·exfalso
     rcases c4 i hlt j h3 with h4 | ⟨k,h4,h5⟩
     ·exact hdn j h4 h2
     ·exact hcl k (c5 i hlt k h4).2 (hdn k h4) j h5 h2
    ·rw [hjo,ho] at h3;exact h3
   -- the next round
   have next : ∀ (pre' A' post' : List Nat) (T' : List (List Nat × (St → Prop))) (a' : Act) (w' : World),(pre' ++ A' ++ post').length = fuel → Left ops gd tk tp pre' A' post' → (∀ j,j ∈ pre' ++ A' ++ post' ↔ j ∈ pre ++ A ++ post ∧ j ≠ i) →
     cover ops A'.length A' (T'.map (·.1)) = true → (∀ t ∈ T',t.1.Perm A') → (∀ t ∈ T',∀ s,t.2 s → ∀ a w,At g s a w → QL g Q .normal a w) →
     (∀ t ∈ T',∃ s,D P n gd tk ((pre' ++ t.1 ++ post').filterMap (ops[·]?)) t.2 s ∧ At g s a' w') → wpAny P .any ops (QL g Q) fuel (listed.setIfInBounds i true) a' w':=by
    intro pre' A' post' T' a' w' e1 e2 e3 e4 e5 e6 e7
    refine ih pre' A' post' _ a' w' T' e1 e2 (fun j hj=>hm j ((e3 j).1 hj).1) (by simp [hsz]) ?_ ?_ e4 e5 e6 e7
    ·intro j hj
     by_cases hji : j = i
     ·subst hji
      have : ¬ (j ∈ pre' ++ A' ++ post'):=fun h=>((e3 j).1 h).2 rfl
      simp only [this,iff_false]
      simp [hsz,hj]
     ·rw [getD_set_ne true (fun e=>hji e.symm),hli j hj,e3 j]
      simp [hji]
    ·intro k hk hkr j hj hjr
     obtain ⟨h1,h2⟩:=(e3 j).1 hjr
     by_cases hki : k = i
     ·subst hki
      rcases c4 k hk j hj with h3 | ⟨q,h3,h4⟩
      ·exact hdn j h3 h1
      ·exact hcl q (c5 k hk q h3).2 (hdn q h3) j h4 h1
     ·exact hcl k hk (fun h=>hkr ((e3 k).2 ⟨h,hki⟩)) j hj h1
   -- one round: an operation that is no call
   have round : ∀ (pre' A' post' : List Nat) (T' : List (List Nat × (St → Prop))),isCall ops[i] = false → T' ≠ [] → (pre' ++ A' ++ post').length = fuel → Left ops gd tk tp pre' A' post' → (∀ j,j ∈ pre' ++ A' ++ post' ↔ j ∈ pre ++ A ++ post ∧ j ≠ i) →
     cover ops A'.length A' (T'.map (·.1)) = true → (∀ t ∈ T',t.1.Perm A') → (∀ t ∈ T',∀ s,t.2 s → ∀ a w,At g s a w → QL g Q .normal a w) →
     (∀ t ∈ T',∃ s,D P n gd tk (ops[i] :: (pre' ++ t.1 ++ post').filterMap (ops[·]?)) t.2 s ∧ At g s a w) → wpOp P ops (QL g Q) i (wpAny P .any ops (QL g Q) fuel (listed.setIfInBounds i true)) a w:=by
    intro pre' A' post' T' hc hne e1 e2 e3 e4 e5 e6 e7
    have hall : ∀ t ∈ T',(Region.wanted ops[i] (yielded ops a.tmps) = true ∧ ∃ s',D P n gd tk ((pre' ++ t.1 ++ post').filterMap (ops[·]?)) t.2 s' ∧ Does P g a w ops[i] s') ∨ (Region.wanted ops[i] (yielded ops a.tmps) = false ∧ ∃ s',D P n gd tk ((pre' ++ t.1 ++ post').filterMap (ops[·]?)) t.2 s' ∧ At g s' (a.put ops[i].dst undef) w):=by
     intro t ht
     obtain ⟨s,h1,h2⟩:=e7 t ht
     exact D_does hgd hc h1 hn h2
    unfold wpOp
    simp only [ho]
    cases hw : Region.wanted ops[i] (yielded ops a.tmps) with
    | false =>
     simp only [Bool.false_eq_true,if_false]
     refine next pre' A' post' T' _ _ e1 e2 e3 e4 e5 e6 fun t ht=>?_
     rcases hall t ht with ⟨h,_⟩ | ⟨_,h⟩
     ·rw [hw] at h;cases h
     ·exact h
    | true =>
     simp only [if_true]
     left
     have hdo : ∀ t ∈ T',∃ s',D P n gd tk ((pre' ++ t.1 ++ post').filterMap (ops[·]?)) t.2 s' ∧ Does P g a w ops[i] s':=by
      intro t ht
      rcases hall t ht with ⟨_,h⟩ | ⟨h,_⟩
      ·exact h
      ·rw [hw] at h;cases h
     obtain ⟨t0,ht0⟩:=List.exists_mem_of_ne_nil T' hne
     obtain ⟨s0,_,hd0⟩:=hdo t0 ht0
     unfold Oper.wp
     rcases hd0 with ⟨v,w',hr,_⟩ | ⟨w',hr,_⟩
     ·rw [hr,Oper.upon_value]
      refine next pre' A' post' T' _ _ e1 e2 e3 e4 e5 e6 fun t ht=>?_
      obtain ⟨s',h1,h2⟩:=hdo t ht
      rcases h2 with ⟨v',w'',hr',h2⟩ | ⟨w'',hr',h2⟩
      ·rw [hr] at hr'
       simp only [Result.ok.injEq,Next.value.injEq] at hr'
       obtain ⟨rfl,rfl⟩:=hr'
       exact ⟨s',h1,h2⟩
      ·rw [hr] at hr';simp at hr'
     ·rw [hr,Oper.upon_skip]
      refine next pre' A' post' T' _ _ e1 e2 e3 e4 e5 e6 fun t ht=>?_
      obtain ⟨s',h1,h2⟩:=hdo t ht
      rcases h2 with ⟨v',w'',hr',h2⟩ | ⟨w'',hr',h2⟩
      ·rw [hr] at hr';simp at hr'
      ·rw [hr] at hr'
       simp only [Result.ok.injEq,true_and] at hr'
       subst hr'
       exact ⟨s',h1,h2⟩
   -- before and behind what is made
   have side : ∀ (pre' post' : List Nat),(i ∈ pre ∨ i ∈ post) → pre'.Sublist pre → post'.Sublist post → (pre' ++ A ++ post').length = fuel → (∀ j,j ∈ pre' ++ A ++ post' ↔ j ∈ pre ++ A ++ post ∧ j ≠ i) →
     (∀ t ∈ T,∃ s,D P n gd tk (ops[i] :: (pre' ++ t.1 ++ post').filterMap (ops[·]?)) t.2 s ∧ At g s a w) → wpOp P ops (QL g Q) i (wpAny P .any ops (QL g Q) fuel (listed.setIfInBounds i true)) a w:=by
    intro pre' post' hip h1 h2 h3 h4 h5
    have hL':=hL.sub h1 (List.Sublist.refl A) h2
    cases hc : isCall ops[i] with
    | false=>exact round pre' A post' T hc hTne h3 hL' h4 hcov hperm hK h5
    | true =>
     have hA : A = []:=by
      cases hAA : A with
      | nil=>rfl
      | cons x A' =>
       exfalso
       have hx : x ∈ A:=by rw [hAA];simp
       have hxt:=hL.calls i _ hip ho hc x hx
       have hxr : x ∈ pre ++ A ++ post:=by simp [hx]
       rcases c4 i hlt x hxt with h6 | ⟨k,h6,h7⟩
       ·exact hdn x h6 hxr
       ·exact hcl k (c5 i hlt k h6).2 (hdn k h6) x h7 hxr
     subst hA
     have hT:=cover_nil hcov
     cases T with
     | nil=>simp at hT
     | cons t T =>
      simp only [List.map_cons,List.cons.injEq,List.map_eq_nil_iff] at hT
      obtain ⟨hT1,rfl⟩:=hT
      obtain ⟨s,g1,g2⟩:=h5 t (by simp)
      refine D_exec hgd ho g1 hn g2 ?_
      intro s' a' w' hD' hat'
      refine next pre' [] post' [t] a' w' h3 hL' h4 ?_ (fun u hu=>hperm u hu) (fun u hu=>hK u hu) (fun u hu=>?_)
      ·simp [cover,hT1]
      ·simp only [List.mem_singleton] at hu
       subst hu
       exact ⟨s',hD',hat'⟩
   have hnd:=hL.nodup
   simp only [List.mem_append] at hir
   rcases hir with (h | h) | h
   ·obtain ⟨X,Y,rfl⟩:=List.append_of_mem h
    refine side (X ++ Y) post (.inl h) (List.Sublist.append (List.Sublist.refl _) (List.sublist_cons_self _ _)) (List.Sublist.refl _) (by simp at hl ⊢;omega) ?_ ?_
    ·intro j
     have hni : i ∉ X ++ Y ++ A ++ post:=by
      have : (i :: (X ++ (Y ++ (A ++ post)))).Nodup:=by
       have:=hnd
       simp only [List.append_assoc,List.cons_append] at this
       exact this.perm List.perm_middle
      have:=(List.nodup_cons.1 this).1
      simpa [List.append_assoc] using this
     constructor
     ·intro hj
      refine ⟨?_,fun e=>hni (e ▸ hj)⟩
      simp only [List.mem_append,List.mem_cons] at hj ⊢
      rcases hj with ((h | h) | h) | h<;>simp [h]
     ·rintro ⟨hj,hne⟩
      simp only [List.mem_append,List.mem_cons] at hj ⊢
      rcases hj with ((h | h | h) | h) | h
      ·simp [h]
      ·exact absurd h hne
      ·simp [h]
      ·simp [h]
      ·simp [h]
    ·intro t ht
     obtain ⟨s,h1,h2⟩:=hD t ht
     refine ⟨s,?_,h2⟩
     have:=hmove X (Y ++ t.1 ++ post) t.2 s (fun p hp=>⟨?_,by simp [hp]⟩) (by simpa [List.append_assoc] using h1)
     ·simpa [List.append_assoc] using this
     ·exact (List.pairwise_append.1 hL.p1).2.2 p hp i (by simp)
   ·-- one of those that make
    have hcA:=hL.noc i _ h ho
    let T' : List (List Nat × (St → Prop)):=T.filterMap fun t=>match t.1 with | j :: r=>if j = i then some (r,t.2) else none | []=>none
    have hT' : ∀ u ∈ T',∃ t ∈ T,t.1 = i :: u.1 ∧ t.2 = u.2:=by
     intro u hu
     obtain ⟨t,ht,h1⟩:=List.mem_filterMap.1 hu
     refine ⟨t,ht,?_⟩
     split at h1
     ·rename_i j r hj
      split at h1
      ·rename_i hji
       obtain rfl:=Option.some.inj h1
       exact ⟨by rw [hj,hji],rfl⟩
      ·cases h1
     ·cases h1
    have hmapT : T'.map (·.1) = (T.map (·.1)).filterMap fun t=>match t with | j :: r=>if j = i then some r else none | []=>none:=by
     rw [List.map_filterMap,List.filterMap_map]
     congr 1
     funext t
     simp only [Function.comp]
     cases t.1 with
     | nil=>rfl
     | cons j r =>
      simp only
      split<;>rfl
    have hAl : A.length = (A.erase i).length + 1:=by
     rw [List.length_erase_of_mem h]
     have:=List.length_pos_of_mem h
     omega
    have hcov' : cover ops (A.erase i).length (A.erase i) (T'.map (·.1)) = true:=by
     rw [hAl] at hcov
     simp only [cover] at hcov
     split at hcov
     ·rename_i e;rw [e] at h;cases h
     ·rw [Bool.and_eq_true,Bool.and_eq_true,List.all_eq_true] at hcov
      rw [hmapT]
      have:=hcov.2 i h
      rw [Bool.or_eq_true] at this
      rcases this with h7 | h7
      ·obtain ⟨j,hj,hjd⟩:=List.any_eq_true.1 h7
       rw [List.contains_eq_mem,decide_eq_true_eq] at hjd
       exact absurd (by simp [hj]) (hdn j hjd)
      ·exact h7
    have hAn : A.Nodup:=by
     have:=hnd
     rw [List.append_assoc] at this
     exact ((List.nodup_append.1 (List.nodup_append.1 this).2.1)).1
    have hmemE : ∀ j,j ∈ A.erase i ↔ j ≠ i ∧ j ∈ A:=fun j=>hAn.mem_erase_iff
    refine round pre (A.erase i) post T' hcA ?_ ?_ (hL.sub (List.Sublist.refl _) List.erase_sublist (List.Sublist.refl _)) ?_ hcov' ?_ ?_ ?_
    ·intro e
     have : T'.map (·.1) = []:=by rw [e];rfl
     rw [this] at hcov'
     cases hq : (A.erase i).length with
     | zero=>rw [hq] at hcov';simp [cover] at hcov'
     | succ k =>
      rw [hq] at hcov'
      simp only [cover] at hcov'
      split at hcov'<;>simp at hcov'
    ·simp only [List.length_append] at hl ⊢
     omega
    ·intro j
     have hdis : i ∉ pre ∧ i ∉ post:=by
      refine ⟨fun hp=>?_,fun hp=>?_⟩
      ·exact (List.nodup_append.1 (List.nodup_append.1 hnd).1).2.2 i hp i h rfl
      ·exact (List.nodup_append.1 hnd).2.2 i (by simp [h]) i hp rfl
     simp only [List.mem_append,hmemE]
     constructor
     ·rintro ((h1 | h1) | h1)
      ·exact ⟨by simp [h1],fun e=>hdis.1 (e ▸ h1)⟩
      ·exact ⟨by simp [h1.2],h1.1⟩
      ·exact ⟨by simp [h1],fun e=>hdis.2 (e ▸ h1)⟩
     ·rintro ⟨(h1 | h1) | h1,h2⟩
      ·simp [h1]
      ·simp [h1,h2]
      ·simp [h1]
    ·intro u hu
     obtain ⟨t,ht,e1,e2⟩:=hT' u hu
     have:=hperm t ht
     rw [e1] at this
     have h3:=this.erase i
     simpa using h3
    ·intro u hu s hs
     obtain ⟨t,ht,e1,e2⟩:=hT' u hu
     exact hK t ht s (by rw [e2];exact hs)
    ·intro u hu
     obtain ⟨t,ht,e1,e2⟩:=hT' u hu
     obtain ⟨s,h1,h2⟩:=hD t ht
     refine ⟨s,?_,h2⟩
     rw [e1,e2] at h1
     have:=hmove pre (u.1 ++ post) u.2 s (fun p hp=>⟨hL.p3 p hp i h,by simp [hp]⟩) (by simpa [List.append_assoc] using h1)
     simpa [List.append_assoc] using this
   ·obtain ⟨X,Y,rfl⟩:=List.append_of_mem h
    refine side pre (X ++ Y) (.inr h) (List.Sublist.refl _) (List.Sublist.append (List.Sublist.refl _) (List.sublist_cons_self _ _)) (by simp at hl ⊢;omega) ?_ ?_
    ·intro j
     have hni : i ∉ pre ++ A ++ (X ++ Y):=by
      have : (i :: ((pre ++ A ++ X) ++ Y)).Nodup:=by
       have:=hnd
       rw [show pre ++ A ++ (X ++ i :: Y) = (pre ++ A ++ X) ++ i :: Y by simp [List.append_assoc]] at this
       exact this.perm List.perm_middle
      have:=(List.nodup_cons.1 this).1
      simpa [List.append_assoc] using this
     constructor
     ·intro hj
      refine ⟨?_,fun e=>hni (e ▸ hj)⟩
      simp only [List.mem_append,List.mem_cons] at hj ⊢
      rcases hj with (h | h) | h | h<;>simp [h]
     ·rintro ⟨hj,hne⟩
      simp only [List.mem_append,List.mem_cons] at hj ⊢
      rcases hj with (h | h) | h | h | h
      ·simp [h]
      ·simp [h]
      ·simp [h]
      ·exact absurd h hne
      ·simp [h]
    ·intro t ht
     obtain ⟨s,h1,h2⟩:=hD t ht
     refine ⟨s,?_,h2⟩
     have:=hmove (pre ++ t.1 ++ X) Y t.2 s (fun p hp=>?_) (by simpa [List.append_assoc] using h1)
     ·simpa [List.append_assoc] using this
     ·simp only [List.mem_append] at hp
      rcases hp with (hp | hp) | hp
      ·exact ⟨hL.p4 p hp i (by simp),by simp [hp]⟩
      ·have:=(hperm t ht).mem_iff.1 hp
       exact ⟨hL.p5 p this i (by simp),by simp [this]⟩
      ·exact ⟨(List.pairwise_append.1 hL.p2).2.2 p hp i (by simp),by simp [hp]⟩
end
def Fin (Q : Exit → St → Prop) (n0 : Nat) (s : St) : Prop:=∃ s',Q .normal s' ∧ ∀ (g : G) (a : Act) (w : World),g.m.length ≤ n0 → At g s a w → At g s' a w
theorem Fin.id {Q : Exit → St → Prop} {n0 : Nat} {s : St} (h : Q .normal s) : Fin Q n0 s:=⟨s,h,fun _ _ _ _ h=>h⟩
section
variable {P : Program} {n : Nat} {Q : Exit → St → Prop} {s : St}
theorem W_drawA {id : Nat} {l : List Oper} (hm : P.follows .mixedOrders = true) (tk : List Nat) (pre A post : List Nat) (tp : List (List Nat)) (T : List (List Nat)) (hok : drawOkA l.toArray (l.map (·.dst)) tk pre A post tp = true)
  (hcov : cover l.toArray A.length A T = true) (hperm : ∀ t ∈ T,t.Perm A) (h : ∀ t ∈ T,D P n (l.map (·.dst)) tk ((pre ++ t ++ post).filterMap (l[·]?)) (Fin Q s.o.length) s) : W P n (.region id l.toArray true) Q s:=by
 intro g a w hn hat
 have hat' : At g s a { w with drawn:=w.drawn + 1 }:=by
  obtain ⟨⟨m,reg,h1,h2,h3⟩,h4,h5,h6⟩:=hat
  have hg:=Grow.draw w (w.drawn + 1) (Nat.le_succ _)
  exact ⟨⟨m,reg,h1.grow hg,h2,h3⟩,h4.trans (hg.evol (fun _ _=>False)) (fun _ _ k=>k.elim),h5,h6⟩
 have hgl:=hat.glen
 simp only [drawOkA,Bool.and_eq_true,decide_eq_true_eq,List.all_eq_true,List.mem_range,Bool.or_eq_true,List.contains_iff_mem,List.any_eq_true,bne_iff_ne,beq_iff_eq,Bool.not_eq_true'] at hok
 obtain ⟨⟨⟨⟨⟨⟨⟨⟨⟨⟨⟨⟨c1,c2⟩,c3⟩,c4⟩,c5⟩,q1⟩,q2⟩,q3⟩,q4⟩,q5⟩,q7⟩,q8⟩,q9⟩:=hok
 refine wp_region_any hm ?_
 have hL : Left l.toArray (l.map (·.dst)) tk tp pre A post:=by
  refine ⟨c1,q1,q2,q3,q4,q5,fun i o hi ho hc x hx=>?_,fun i o hi ho=>?_⟩
  ·have:=q7 i (by simpa using hi)
   rw [ho] at this
   simp only [Bool.or_eq_true,Bool.not_eq_true',List.all_eq_true,List.contains_iff_mem] at this
   rcases this with h | h
   ·rw [hc] at h;cases h
   ·exact h x hx
  ·have:=q8 i hi
   rw [ho] at this
   simpa using this
 refine wpAny_of_DA (P:=P) (n:=n) (Q:=Q) (by simp) c4 c5 hn _ pre A post _ a _ (T.map fun t=>(t,Fin Q s.o.length)) q9 hL c3 (by simp) ?_ ?_ ?_ ?_ ?_ ?_
 ·intro i hi
  constructor
  ·intro _;exact c2 i hi
  ·intro _;simp only [List.size_toArray] at hi;simp [hi]
 ·intro k hk hkr;exact absurd (c2 k hk) hkr
 ·rw [List.map_map];simpa [Function.comp_def] using hcov
 ·intro t ht
  obtain ⟨t',ht',rfl⟩:=List.mem_map.1 ht
  exact hperm t' ht'
 ·intro t ht s1 hs1 a1 w1 hat1
  obtain ⟨t',ht',rfl⟩:=List.mem_map.1 ht
  obtain ⟨s',k1,k2⟩:=hs1
  exact ⟨s',k1,k2 g a1 w1 hgl hat1⟩
 ·intro t ht
  obtain ⟨t',ht',rfl⟩:=List.mem_map.1 ht
  exact ⟨s,by simpa using h t' ht',hat'⟩
end
end Go.AW
namespace Go.AW
open Go
set_option linter.unusedSimpArgs false
set_option linter.unusedVariables false
theorem Hand.none (o : List Ob) : Hand o [] []:=⟨rfl,List.nodup_nil,fun j i h=>by simp at h⟩
theorem ACallsD.frame {P : Program} {f : FuncId} {ac : List AV} {r : AV} (h : ACallsD P f ac r) (hac : ac.all (AV.ltk 0) = true) (hr : r.ltk 0 = true) (oc : List Ob) : ACallsQ P f ac oc r:=by
 refine ⟨h.1,fun w Z m reg vs hlen hrel=>?_⟩
 have H:=Hand.none oc
 have hd:=hrel.down H (S:=0) (n:=ac.length) (ac:=fun k=>ac.getD k .any) (fun k hk=>by
  simp only [Nat.zero_add]
  have hl : (ac.getD k .any).ltk 0 = true:=by
   rw [List.getD_eq_getElem?_getD,List.getElem?_eq_getElem hk]
   exact List.all_eq_true.1 hac _ (List.getElem_mem hk)
  refine ⟨?_,hl⟩
  conv=>lhs;rw [← ren_self (ac.getD k .any)]
  exact ren_congr (n:=0) (fun j hj=>by omega) _ hl)
 have e1 : (fun k=>if k < ac.length then ac.getD k .any else AV.any) = fun k=>ac.getD k .any:=by
  funext k
  by_cases hk : k < ac.length
  ·rw [if_pos hk]
  ·rw [if_neg hk,List.getD_eq_getElem?_getD,List.getElem?_eq_none (by omega)];rfl
 have e2 : (fun k=>if k < ac.length then vs.getD (0 + k) undef else undef) = fun k=>vs.getD k undef:=by
  funext k
  by_cases hk : k < ac.length
  ·rw [if_pos hk,Nat.zero_add]
  ·rw [if_neg hk,List.getD_eq_getElem?_getD,List.getElem?_eq_none (by omega)];rfl
 rw [e1,e2] at hd
 refine Calls.mono (h.2 w _ _ _ vs hlen hd) ?_
 rintro e w' ⟨v,r',o',m',reg',he,⟨rfl,rfl⟩,k1,k2,k3,k4⟩
 obtain ⟨g1,g2,g3⟩:=Rel.up (t1:=fun _=>.any) (u1:=fun _=>undef) (d:=0) hrel H k1 k2 k3 k4 (fun k=>by simp only [V]) (fun k sz rows h=>by cases h) (fun k sz rows h=>by cases h)
 have ea : after oc [] [] = oc:=by simp [after,back]
 have er : r'.ren (phi [] oc.length) = r':=by
  conv=>rhs;rw [← ren_self r']
  exact ren_congr (n:=0) (fun j hj=>by omega) _ hr
 rw [ea,er] at g1
 rw [ea] at g3
 refine ⟨v,r',oc,_,_,he,⟨rfl,rfl⟩,?_,g2,g3,fun id mb hm=>?_⟩
 ·exact g1
 ·rw [List.getElem?_append_left (List.getElem?_eq_some_iff.1 hm).1];exact hm
end Go.AW
namespace Go.AW
open Go
set_option linter.unusedSimpArgs false
set_option linter.unusedVariables false
def stL (l : List AV) (ob : List Ob) : St:=⟨fun k=>l.getD k .any,ob⟩
def setD (l : List AV) (d : Option Nat) (v : AV) : List AV:=match d with | some d=>l.set d v | none=>l
inductive XE where
 | normal | exit (id : Nat) | ret
def XE.toExit : XE → Exit
 | .normal=>.normal
 | .exit id=>.exit id
 | .ret=>.ret
def wantX (gd : List (Option Nat)) (l : List AV) (o : Oper) : Option Bool :=
 match o.guard with
 | none=>some true
 | some (j,want) =>
  match gd.getD j none with
  | some t=>match gv (l.getD t .any) with | some (h,x)=>some (h && x == want) | none=>none
  | none=>none
def calleeX (n : Nat) (l : List AV) (ob : List Ob) (o : Oper) : Option (FuncId × List AV) :=
 match o.op with
 | .call c =>
  match c.callee with
  | .value x =>
   match calleeV (ung true (opd (fun k=>l.getD k .any) x)) with
   | some (b,f,caps) =>
    let ac:=(c.args.toList.map fun x=>(ung true (opd (fun k=>l.getD k .any) x)).dat) ++ caps.map AV.dat
    if c.args.toList.all (opIn n) && ob.all (Ob.ltk ob.length) && ac.all (AV.ltk ob.length) && dstOk n o.dst then some (f,rotL .any b ac) else none
   | none=>none
  | _=>none
 | _=>none
def stepX (P : Program) (n : Nat) (tk : List Nat) (o : Oper) (l : List AV) (ob : List Ob) : Option (List AV × List Ob) :=
 if o.op.operands.toList.all (opIn n) && dstOk n o.dst && !isCall o then
  match step1 P n tk o (stL l ob) with
  | (true,s)=>some ((List.range n).map s.t,s.o)
  | _=>none
 else none
def fastOk (l : List AV) (o : Oper) : Bool :=
 match o.op with
 | .assign x=>!(opd (fun k=>l.getD k .any) x).isOwn
 | .call c=>(match c.callee with | .value _=>false | _=>true)
 | _=>true
def fastX (P : Program) (n : Nat) (tk : List Nat) (o : Oper) (l : List AV) (ob : List Ob) : Option AV :=
 if fastOk l o then
  match slotR P tk o (stL l ob) true with
  | some x=>if x.ok && dstOk n o.dst then some x.v else none
  | none=>none
 else none
theorem fastX_spec {P : Program} {n : Nat} {tk : List Nat} {o : Oper} {l : List AV} {ob : List Ob} {v : AV} (h : fastX P n tk o l ob = some v) : ∃ x,slotR P tk o (stL l ob) true = some x ∧ x.ok = true ∧ dstOk n o.dst = true ∧ v = x.v:=by
 unfold fastX at h
 by_cases hf : fastOk l o = true
 ·rw [if_pos hf] at h
  cases hs : slotR P tk o (stL l ob) true with
  | none=>rw [hs] at h;cases h
  | some x =>
   rw [hs] at h
   simp only at h
   by_cases hok : (x.ok && dstOk n o.dst) = true
   ·rw [if_pos hok] at h
    rw [Bool.and_eq_true] at hok
    exact ⟨x,rfl,hok.1,hok.2,(Option.some.inj h).symm⟩
   ·rw [if_neg hok] at h;cases h
 ·rw [if_neg hf] at h;cases h
structure Plan0 where
 ord : List Nat
 tp : List (List Nat)
def insN (l : List Nat) (x : Nat) : List Nat:=if l.contains x then l else x :: l
def ordGo (n : Nat) (q : List Bool) (ds : List (List Nat)) : Nat → List Nat → List Nat
 | 0,acc=>acc.reverse
 | k + 1,acc =>
  let ready:=(List.range n).filter fun i=>!acc.contains i && (ds.getD i []).all acc.contains
  match ready.find? (fun i=>q.getD i false) with
  | some i=>ordGo n q ds k (i :: acc)
  | none=>match ready with | i :: _=>ordGo n q ds k (i :: acc) | []=>acc.reverse
def planOf (tk : List Nat) (ops : Array Oper) : Plan0 :=
 let ds:=(List.range ops.size).map (dirs ops)
 let ord:=ordGo ops.size (ops.toList.map (isQ tk)) ds ops.size []
 { ord,tp:=(ord.foldl (fun (acc : List (List Nat)) i=>acc.set i ((ds.getD i []).foldl (fun s d=>(acc.getD d []).foldl insN (insN s d)) [])) (List.replicate ops.size [])) }
def permsN (ops : Array Oper) : Nat → List Nat → List (List Nat)
 | 0,A=>if A = [] then [[]] else []
 | k + 1,A=>if A = [] then [[]] else (A.filter fun i=>!A.any fun j=>(dirs ops i).contains j).flatMap fun i=>(permsN ops k (A.erase i)).map (i :: ·)
def planA (ops : Array Oper) (gd : List (Option Nat)) (tk : List Nat) (p : Plan0) : List Nat × List Nat × List Nat :=
 let prs:=p.ord.zipIdx.flatMap fun (a,i)=>(p.ord.drop (i + 1)).filterMap fun b=>if pairOk ops gd tk p.tp a b then none else some (a,b)
 let lo:=p.ord.filter fun i=>prs.any fun (a,b)=>a == i || b == i
 let A:=p.ord.filter fun i=>lo.contains i || (lo.any (fun a=>(p.tp.getD i []).contains a) && lo.any fun a=>(p.tp.getD a []).contains i) || (match ops[i]? with | some o=>!isQ tk o && lo.any (fun a=>(p.tp.getD a []).contains i) | none=>false)
 let post:=p.ord.filter fun i=>!A.contains i && A.any fun a=>(p.tp.getD i []).contains a
 (p.ord.filter fun i=>!A.contains i && !post.contains i,A,post)
def eqbS (a b : List AV × List Ob) : Bool:=eqAL a.1 b.1 && eqbO a.2 b.2
theorem eqbS_eq {a b : List AV × List Ob} (h : eqbS a b = true) : a = b:=by
 simp only [eqbS,Bool.and_eq_true] at h
 exact Prod.ext (eqAL_eq _ _ h.1) (eqbO_eq _ _ h.2)
def allSame : List (Option (List AV × List Ob)) → Option (List AV × List Ob)
 | []=>none
 | [x]=>x
 | x :: y :: r=>x.bind fun a=>(allSame (y :: r)).bind fun b=>if eqbS a b then some b else none
theorem allSame_spec : ∀ {l : List (Option (List AV × List Ob))} {r : List AV × List Ob},allSame l = some r → ∀ x ∈ l,x = some r
 | [],_,h=>by cases h
 | [x],r,h=>by
  intro y hy
  simp only [List.mem_singleton] at hy
  subst hy
  exact h
 | x :: y :: l,r,h=>by
  rw [allSame] at h
  obtain ⟨a,ha,h1⟩:=Option.bind_eq_some_iff.1 h
  obtain ⟨b,hb,h2⟩:=Option.bind_eq_some_iff.1 h1
  by_cases he : eqbS a b = true
  ·rw [if_pos he] at h2
   obtain rfl:=Option.some.inj h2
   have:=eqbS_eq he
   subst this
   intro z hz
   rcases List.mem_cons.1 hz with rfl | hz
   ·exact ha
   ·exact allSame_spec hb z hz
  ·rw [if_neg he] at h2;cases h2
def tkD (ops : List Oper) : List Nat :=
 tkOf ops ++ ops.filterMap fun o=>match o.op with
  | .assign (.tmp k)=>if ops.any fun p=>p.dst == some k && (match p.op with | .call c=>(match c.callee with | .builtin .append=>true | _=>false) | _=>false) then o.dst else none
  | _=>none
def tkX (b draw : Bool) (ops : List Oper) : List Nat:=if b then [1000000] else if draw then tkD ops else tkOf ops
mutual
def xCode (P : Program) (env : FuncId → List AV → List Ob → Option (AV × List Ob)) (fl : FuncId → Bool) : Nat → Bool → Nat → Code → List AV → List Ob → Option (XE × List AV × List Ob)
 | 0,_,_,_,_,_=>none
 | k + 1,b,n,c,l,ob =>
  match c with
  | .skip=>some (.normal,l,ob)
  | .label _=>some (.normal,l,ob)
  | .ret=>some (.ret,l,ob)
  | .exit id=>some (.exit id,l,ob)
  | .seq a b₂=>match xCode P env fl k b n a l ob with | some (.normal,l',ob')=>xCode P env fl k b n b₂ l' ob' | r=>r
  | .block id a=>match xCode P env fl k b n a l ob with | some (.exit id',l',ob')=>some (if id' = id then .normal else .exit id',l',ob') | r=>r
  | .cond c a b₂=>match ung true (opd (fun k=>l.getD k .any) c) with | .b true=>xCode P env fl k b n a l ob | .b false=>xCode P env fl k b n b₂ l ob | _=>none
  | .loop a=>match xCode P env fl k b n a l ob with | some (.normal,l',ob')=>xCode P env fl k b n (.loop a) l' ob' | r=>r
  | .region _ ops draw =>
   let gd:=ops.toList.map (·.dst)
   let tk:=tkX b draw ops.toList
   if draw then
    let p:=planOf tk ops
    if drawOk ops gd tk p.ord p.tp then (xDraw P env fl k n gd tk (p.ord.filterMap (ops.toList[·]?)) l ob).map fun r=>(.normal,r.1,r.2)
    else
     let q:=planA ops gd tk p
     let T:=permsN ops q.2.1.length q.2.1
     if drawOkA ops gd tk q.1 q.2.1 q.2.2 p.tp && cover ops q.2.1.length q.2.1 T && T.all (fun t=>t.isPerm q.2.1) && !T.isEmpty then
      (allSame (T.map fun t=>xDraw P env fl k n gd tk ((q.1 ++ t ++ q.2.2).filterMap (ops.toList[·]?)) l ob)).map fun r=>(.normal,r.1,r.2)
     else none
   else (xOps P env fl k n gd tk ops.toList l ob).map fun r=>(.normal,r.1,r.2)
  | _=>none
def xOps (P : Program) (env : FuncId → List AV → List Ob → Option (AV × List Ob)) (fl : FuncId → Bool) : Nat → Nat → List (Option Nat) → List Nat → List Oper → List AV → List Ob → Option (List AV × List Ob)
 | 0,_,_,_,_,_,_=>none
 | _ + 1,_,_,_,[],l,ob=>some (l,ob)
 | k + 1,n,gd,tk,o :: r,l,ob =>
  match wantX gd l o with
  | none=>none
  | some false=>if dstOk n o.dst then xOps P env fl k n gd tk r (setD l o.dst (.gd false .any)) ob else none
  | some true =>
   if isCall o then
    match calleeX n l ob o with
    | some (f,ac)=>match xCall P env fl k f ac ob with | some (v,ob')=>fz v fun v=>xOps P env fl k n gd tk r (setD l o.dst v) ob' | none=>none
    | none=>none
   else match fastX P n tk o l ob with
    | some v=>fz v fun v=>xOps P env fl k n gd tk r (setD l o.dst v) ob
    | none=>match stepX P n tk o l ob with | some (l',ob')=>fzL l' fun l'=>xOps P env fl k n gd tk r l' ob' | none=>none
def xDraw (P : Program) (env : FuncId → List AV → List Ob → Option (AV × List Ob)) (fl : FuncId → Bool) : Nat → Nat → List (Option Nat) → List Nat → List Oper → List AV → List Ob → Option (List AV × List Ob)
 | 0,_,_,_,_,_,_=>none
 | _ + 1,_,_,_,[],l,ob=>some (l,ob)
 | k + 1,n,gd,tk,o :: r,l,ob =>
  if isQ tk o then
   match wantX gd l o with
   | none=>none
   | some false=>if dstOk n o.dst && o.guard.isSome then xDraw P env fl k n gd tk r (setD l o.dst (.gd false .any)) ob else none
   | some true =>
    if isCall o then
     match calleeX n l ob o with
     | some (f,ac)=>match xCall P env fl k f ac ob with
      | some (v,ob')=>if eqbO ob' ob && v.ltk 0 then fz v fun v=>xDraw P env fl k n gd tk r (setD l o.dst (if o.guard.isSome then .gd true v else v)) ob else none
      | none=>none
     | none=>none
    else match slotR P tk o (stL l ob) true with
     | some x=>if x.ok && dstOk n o.dst then fz x.v fun v=>xDraw P env fl k n gd tk r (setD l o.dst (if o.guard.isSome then .gd true v else v)) ob else none
     | none=>none
  else if o.guard.isSome then none
  else if isCall o then
   match calleeX n l ob o with
   | some (f,ac)=>match xCall P env fl k f ac ob with | some (v,ob')=>fz v fun v=>xDraw P env fl k n gd tk r (setD l o.dst v) ob' | none=>none
   | none=>none
  else match stepX P n tk o l ob with | some (l',ob')=>fzL l' fun l'=>xDraw P env fl k n gd tk r l' ob' | none=>none
def xCall (P : Program) (env : FuncId → List AV → List Ob → Option (AV × List Ob)) (fl : FuncId → Bool) : Nat → FuncId → List AV → List Ob → Option (AV × List Ob)
 | 0,_,_,_=>none
 | k + 1,f,ac,oc =>
  match env f ac oc with
  | some r=>some r
  | none =>
   match P.funcs[f]? with
   | none=>none
   | some fn =>
    match fn.body with
    | none=>none
    | some c =>
     if decide (ac.length ≤ fn.ntmps) && callOk P f then
      match xCode P env fl k (fl f) fn.ntmps c (ac ++ List.replicate (fn.ntmps - ac.length) .any) oc with
      | some (e,l,o') =>
       match e with
       | .exit _=>none
       | _ =>
        match resAV P fn.results.toList (stL l o') with
        | none=>none
        | some r =>
         if decide (oc.length ≤ o'.length) then
          if r.ltk oc.length && (o'.take oc.length).all (Ob.ltk oc.length) then some (r,o'.take oc.length)
          else if r.ltk o'.length && o'.all (Ob.ltk o'.length) then some (r,o') else none
         else none
      | none=>none
     else none
end
end Go.AW
namespace Go.AW
open Go
set_option linter.unusedSimpArgs false
set_option linter.unusedVariables false
theorem stL_put {l : List AV} {ob : List Ob} {d : Option Nat} {v : AV} (h : dstOk l.length d = true) : (stL l ob).put d v = stL (setD l d v) ob:=by
 cases d with
 | none=>rfl
 | some d =>
  simp only [dstOk,decide_eq_true_eq] at h
  simp only [St.put,stL,setD,St.mk.injEq,and_true]
  funext k
  simp only [upd,List.getD_eq_getElem?_getD,List.getElem?_set]
  by_cases hk : k = d
  ·subst hk;simp [h]
  ·rw [if_neg hk,if_neg (fun e=>hk e.symm)]
theorem setD_length (l : List AV) (d : Option Nat) (v : AV) : (setD l d v).length = l.length:=by cases d<;>simp [setD]
theorem stepX_spec {P : Program} {n : Nat} {tk : List Nat} {o : Oper} {l l' : List AV} {ob ob' : List Ob} (h : stepX P n tk o l ob = some (l',ob')) (hl : l.length = n) :
  step1 P n tk o (stL l ob) = (true,stL l' ob') ∧ l'.length = n ∧ isCall o = false:=by
 unfold stepX at h
 split at h
 ·rename_i hc
  simp only [Bool.and_eq_true,Bool.not_eq_true',List.all_eq_true] at hc
  obtain ⟨⟨h1,h2⟩,h3⟩:=hc
  split at h
  ·rename_i s hs
   simp only [Option.some.injEq,Prod.mk.injEq] at h
   obtain ⟨rfl,rfl⟩:=h
   refine ⟨?_,by simp,h3⟩
   rw [hs]
   congr 1
   obtain ⟨t,so⟩:=s
   simp only [stL,St.mk.injEq,and_true]
   funext k
   by_cases hk : k < n
   ·simp [List.getD_eq_getElem?_getD,hk]
   ·rw [List.getD_eq_getElem?_getD,List.getElem?_eq_none (by simp;omega)]
    have hself : (stL l ob).put (some k) .any = stL l ob:=by
     simp only [St.put,stL,St.mk.injEq,and_true]
     funext j
     simp only [upd]
     split
     ·rename_i e;subst e;rw [List.getD_eq_getElem?_getD,List.getElem?_eq_none (by omega)];rfl
     ·rfl
    have:=step1_frame (P:=P) (n:=n) (tk:=tk) (s:=stL l ob) (o:=o) (d:=k) (v:=.any) (fun x hx e=>?_) (fun e=>?_) h3
    ·rw [hself,hs] at this
     simp only [Prod.mk.injEq,true_and] at this
     have h4:=congrArg (fun st : St=>st.t k) this
     simpa [St.put,upd] using h4
    ·have:=h1 x (by simpa using hx)
     rw [e] at this
     simp only [opIn,decide_eq_true_eq] at this
     exact hk this
    ·rw [e] at h2
     simp only [dstOk,decide_eq_true_eq] at h2
     exact hk h2
  ·cases h
 ·cases h
theorem argVals_plain (t : Nat → AV) : ∀ (xs : List Operand),argVals xs (xs.map fun x=>(ung true (opd t x)).dat) t = (xs.map fun x=>(ung true (opd t x)).dat) ∧ argDrop xs (xs.map fun x=>(ung true (opd t x)).dat) t = t
 | []=>⟨rfl,rfl⟩
 | x :: xs=>by
  have h:=AV.dat_isOwn (ung true (opd t x))
  obtain ⟨h1,h2⟩:=argVals_plain t xs
  simp only [List.map_cons,argVals,argDrop,argA,argT,h,if_false,Bool.false_eq_true,h1,h2,and_self]
theorem LeA.refl : ∀ l : List AV,LeA l l
 | []=>trivial
 | a :: l=>⟨.refl a,LeA.refl l⟩
theorem calleeV_ne {a : AV} {b : Bool} {f : FuncId} {caps : List AV} (h : calleeV a = some (b,f,caps)) (hb : b = true) (l : List AV) : l ++ caps.map AV.dat ≠ []:=by
 subst hb
 unfold calleeV at h
 split at h
 ·simp at h
 ·simp only [Option.some.injEq,Prod.mk.injEq] at h
  obtain ⟨_,_,rfl⟩:=h
  simp
 ·cases h
theorem calleeX_spec {n : Nat} {l : List AV} {ob : List Ob} {o : Oper} {f : FuncId} {ac : List AV} (h : calleeX n l ob o = some (f,ac)) :
  ∃ (c : Call) (x : Operand) (b : Bool) (caps ac' : List AV),o.op = .call c ∧ c.callee = .value x ∧ calleeV (ung true (opd (stL l ob).t x)) = some (b,f,caps) ∧ c.args.toList.all (opIn n) = true ∧ ob.all (Ob.ltk ob.length) = true ∧
   ac'.all (AV.ltk ob.length) = true ∧ dstOk n o.dst = true ∧ ac = rotL .any b ac' ∧ ac' = (c.args.toList.map fun x=>(ung true (opd (stL l ob).t x)).dat) ++ caps.map AV.dat:=by
 unfold calleeX at h
 cases hop : o.op with
 | call c =>
  rw [hop] at h
  simp only at h
  cases hcal : c.callee with
  | value x =>
   rw [hcal] at h
   simp only at h
   split at h
   ·rename_i b f' caps hf
    split at h
    ·rename_i hc
     simp only [Option.some.injEq,Prod.mk.injEq] at h
     obtain ⟨rfl,rfl⟩:=h
     simp only [Bool.and_eq_true] at hc
     exact ⟨c,x,b,caps,_,rfl,hcal,hf,hc.1.1.1,hc.1.1.2,hc.1.2,hc.2,rfl,rfl⟩
    ·cases h
   ·cases h
  | _=>rw [hcal] at h;simp at h
 | _=>rw [hop] at h;simp at h
section
variable {P : Program}
theorem calleeX_op {n : Nat} {l : List AV} {ob : List Ob} {o : Oper} {f : FuncId} {ac : List AV} {v : AV} {ob' : List Ob} {K : St → Prop} (h : calleeX n l ob o = some (f,ac)) (hl : l.length = n)
  (hcall : ACalls P f ac ob fun r' o''=>r' = v ∧ o'' = ob') (hlen : ob.length ≤ ob'.length) (hK : K (stL (setD l o.dst v) ob')) : OpW P n o (stL l ob) K:=by
 obtain ⟨c,x,b,caps,ac',h1,h2,h3,h4,h5,h6,h7,rfl,rfl⟩:=calleeX_spec h
 replace hcall:=ACalls.rot (fun e=>calleeV_ne h3 e _) hcall
 have ht : ((c.args.toList.map fun x=>(ung true (opd (stL l ob).t x)).dat) ++ caps.map AV.dat).take c.args.size = c.args.toList.map fun x=>(ung true (opd (stL l ob).t x)).dat:=by
  rw [List.take_append_of_le_length (by simp),List.take_of_length_le (by simp)]
 obtain ⟨e1,e2⟩:=argVals_plain (stL l ob).t c.args.toList
 refine OpW_callR h1 h2 h3 h7 h4 (Hand.all h5) (by simp) ?_ (by rw [List.length_range];exact h6) hcall ?_
 ·rw [ht,e1]
  have : (((c.args.toList.map fun x=>(ung true (opd (stL l ob).t x)).dat) ++ caps.map AV.dat).map (AV.ren fun j=>(List.range ob.length).getD j 0)) = (c.args.toList.map fun x=>(ung true (opd (stL l ob).t x)).dat) ++ caps.map AV.dat:=by
   conv=>rhs;rw [← List.map_id ((c.args.toList.map fun x=>(ung true (opd (stL l ob).t x)).dat) ++ caps.map AV.dat)]
   rw [List.all_eq_true] at h6
   exact List.map_congr_left fun a ha=>ren_range a (h6 a ha)
  show LeA _ (List.map (AV.ren fun j=>(List.range ob.length).getD j 0) _)
  rw [this]
  exact LeA.refl _
 ·rintro r' o'' ⟨rfl,rfl⟩
  rw [ht,e2]
  show K ((⟨(stL l ob).t,after ob (List.range ob.length) o''⟩ : St).put o.dst (r'.ren (phi (List.range ob.length) ob.length)))
  rw [after_all hlen]
  have hφ : phi (List.range ob.length) ob.length = fun k=>k:=by
   funext k
   unfold phi
   simp only [List.length_range]
   split
   ·rename_i hk;exact range_getD hk
   ·omega
  rw [hφ,ren_self]
  have:=stL_put (l:=l) (ob:=o'') (d:=o.dst) (v:=r') (by rw [hl];exact h7)
  show K ((stL l o'').put o.dst r')
  rw [this]
  exact hK
theorem wantX_spec {gd : List (Option Nat)} {l : List AV} {ob : List Ob} {o : Oper} {c : Bool} (h : wantX gd l o = some c) :
  (o.guard = none ∧ c = true) ∨ ∃ j want t h0 x,o.guard = some (j,want) ∧ gd.getD j none = some t ∧ gv ((stL l ob).t t) = some (h0,x) ∧ (h0 && x == want) = c:=by
 unfold wantX at h
 split at h
 ·rename_i hg;exact .inl ⟨hg,(Option.some.inj h).symm⟩
 ·rename_i j want hg
  split at h
  ·rename_i t ht
   split at h
   ·rename_i h0 x hx;exact .inr ⟨j,want,t,h0,x,hg,ht,hx,Option.some.inj h⟩
   ·cases h
  ·cases h
theorem RL_want {gd : List (Option Nat)} {n : Nat} {l : List AV} {ob : List Ob} {o : Oper} {r : List Oper} {Q : Exit → St → Prop} (hw : wantX gd l o = some true) (hd : dstOk n o.dst = true) (h : OpW P n o (stL l ob) (RL P n gd r Q)) :
  RL P n gd (o :: r) Q (stL l ob):=by
 rcases wantX_spec (ob:=ob) hw with ⟨hg,_⟩ | ⟨j,want,t,h0,x,hg,hj,hx,hc⟩
 ·exact RL_cons hg h
 ·exact RL_gd hg hj hx hd (fun _=>h) (fun e=>by rw [hc] at e;cases e)
theorem RL_pass {gd : List (Option Nat)} {n : Nat} {l : List AV} {ob : List Ob} {o : Oper} {r : List Oper} {Q : Exit → St → Prop} (hw : wantX gd l o = some false) (hl : l.length = n) (hd : dstOk n o.dst = true)
  (h : RL P n gd r Q (stL (setD l o.dst (.gd false .any)) ob)) : RL P n gd (o :: r) Q (stL l ob):=by
 rcases wantX_spec (ob:=ob) hw with ⟨hg,h0⟩ | ⟨j,want,t,h0,x,hg,hj,hx,hc⟩
 ·cases h0
 ·refine RL_gd hg hj hx hd (fun e=>by rw [hc] at e;cases e) (fun _=>⟨.gd false .any,(gdF_undef _).1,(gdF_undef _).2,?_⟩)
  rw [stL_put (by rw [hl];exact hd)]
  exact h
def WIn (P : Program) (n : Nat) (c : Code) (Q : Exit → St → Prop) (s : St) : Prop :=
 ∀ (g : G) (a : Act) (w : World),g.n = n → At g s a w → ∀ (b : Frame) (k : List Item) (cs : List Frame),∃ e a' w',(∃ s',Q e s' ∧ At g s' a' w') ∧ Arrives P (lone (b.at a (.code c :: .inLoop c :: k)) cs w) b k cs e a' w'
theorem WIn.loop {n : Nat} {c : Code} {Q : Exit → St → Prop} {s : St} (h : WIn P n c Q s) : W P n (.loop c) Q s:=by
 intro g a w hn hat b k cs
 obtain ⟨e,a',w',hq,harr⟩:=h g a w hn hat b k cs
 exact ⟨e,a',w',hq,.of_steps (.one step_loop) harr⟩
def inQ (P : Program) (n : Nat) (c : Code) (Q : Exit → St → Prop) : Exit → St → Prop
 | .normal,s=>WIn P n c Q s
 | e,s=>Q e s
theorem WIn.step {n : Nat} {c : Code} {Q : Exit → St → Prop} {s : St} (h : W P n c (inQ P n c Q) s) : WIn P n c Q s:=by
 intro g a w hn hat b k cs
 obtain ⟨e,a₁,w₁,⟨s',hq,hat'⟩,harr⟩:=h g a w hn hat b (.inLoop c :: k) cs
 cases e with
 | normal =>
  obtain ⟨e₂,a₂,w₂,hq₂,harr₂⟩:=hq g a₁ w₁ hn hat' b k cs
  exact ⟨e₂,a₂,w₂,hq₂,.of_steps (Steps.trans harr (.one step_inLoop)) harr₂⟩
 | exit id=>exact ⟨_,a₁,w₁,⟨s',hq,hat'⟩,.pass (x:=.inLoop c) rfl (fun _ _=>.inl (by simp)) harr⟩
 | goto l=>exact ⟨_,a₁,w₁,⟨s',hq,hat'⟩,.pass (x:=.inLoop c) rfl (fun _ _=>.inl (by simp)) harr⟩
 | ret=>exact ⟨_,a₁,w₁,⟨s',hq,hat'⟩,.pass (x:=.inLoop c) rfl (fun _ _=>.inl (by simp)) harr⟩
 | panic ch=>exact ⟨_,a₁,w₁,⟨s',hq,hat'⟩,.pass (x:=.inLoop c) rfl (fun _ _=>.inl (by simp)) harr⟩
 | outgrown=>exact ⟨_,a₁,w₁,⟨s',hq,hat'⟩,.pass (x:=.inLoop c) rfl (fun _ _=>.inl (by simp)) harr⟩
theorem x_sound (env : FuncId → List AV → List Ob → Option (AV × List Ob)) (fl : FuncId → Bool) (hm : P.follows .mixedOrders = true)
  (henv : ∀ f ac oc r o',env f ac oc = some (r,o') → ACalls P f ac oc (fun r' o''=>r' = r ∧ o'' = o') ∧ oc.length ≤ o'.length) : ∀ fuel : Nat,
  (∀ b n c l ob e l' ob',xCode P env fl fuel b n c l ob = some (e,l',ob') → l.length = n → l'.length = n ∧ ∀ Q : Exit → St → Prop,Q e.toExit (stL l' ob') → W P n c Q (stL l ob)) ∧
  (∀ n gd tk ops l ob l' ob',xOps P env fl fuel n gd tk ops l ob = some (l',ob') → l.length = n → l'.length = n ∧ ∀ Q : Exit → St → Prop,Q .normal (stL l' ob') → RL P n gd ops Q (stL l ob)) ∧
  (∀ n gd tk ops l ob l' ob',xDraw P env fl fuel n gd tk ops l ob = some (l',ob') → l.length = n → l'.length = n ∧ ∀ K : St → Prop,K (stL l' ob') → D P n gd tk ops K (stL l ob)) ∧
  (∀ f ac oc r o',xCall P env fl fuel f ac oc = some (r,o') → ACalls P f ac oc (fun r' o''=>r' = r ∧ o'' = o') ∧ oc.length ≤ o'.length) ∧
  (∀ b n c l ob e l' ob',xCode P env fl fuel b n (.loop c) l ob = some (e,l',ob') → l.length = n → l'.length = n ∧ ∀ Q : Exit → St → Prop,Q e.toExit (stL l' ob') → WIn P n c Q (stL l ob)):=by
 intro fuel
 induction fuel with
 | zero =>
  refine ⟨fun b n c l ob e l' ob' h=>?_,fun n gd tk ops l ob l' ob' h=>?_,fun n gd tk ops l ob l' ob' h=>?_,fun f ac oc r o' h=>?_,fun b n c l ob e l' ob' h=>?_⟩<;>simp [xCode,xOps,xDraw,xCall] at h
 | succ k ih =>
  obtain ⟨ihC,ihO,ihD,ihK,ihL⟩:=ih
  have hloop : ∀ b n c l ob e l' ob',xCode P env fl (k + 1) b n (.loop c) l ob = some (e,l',ob') → l.length = n → l'.length = n ∧ ∀ Q : Exit → St → Prop,Q e.toExit (stL l' ob') → WIn P n c Q (stL l ob):=by
   intro b n c l ob e l' ob' h hl
   simp only [xCode] at h
   split at h
   ·rename_i l1 ob1 h1
    obtain ⟨g1,g2⟩:=ihC _ _ _ _ _ _ _ _ h1 hl
    obtain ⟨g3,g4⟩:=ihL _ _ _ _ _ _ _ _ h g1
    exact ⟨g3,fun Q hQ=>WIn.step (g2 _ (g4 Q hQ))⟩
   ·rename_i r hne
    obtain ⟨g1,g2⟩:=ihC _ _ _ _ _ _ _ _ h hl
    refine ⟨g1,fun Q hQ=>WIn.step (g2 _ ?_)⟩
    cases e with
    | normal=>exact absurd h (hne _ _)
    | _=>exact hQ
  refine ⟨?_,?_,?_,?_,hloop⟩
  ·intro b n c l ob e l' ob' h hl
   cases c with
   | skip=>simp only [xCode,Option.some.injEq,Prod.mk.injEq] at h;obtain ⟨rfl,rfl,rfl⟩:=h;exact ⟨hl,fun Q hQ=>W_skip hQ⟩
   | label=>simp only [xCode,Option.some.injEq,Prod.mk.injEq] at h;obtain ⟨rfl,rfl,rfl⟩:=h;exact ⟨hl,fun Q hQ=>W_label hQ⟩
   | ret=>simp only [xCode,Option.some.injEq,Prod.mk.injEq] at h;obtain ⟨rfl,rfl,rfl⟩:=h;exact ⟨hl,fun Q hQ=>W_ret hQ⟩
   | exit id=>simp only [xCode,Option.some.injEq,Prod.mk.injEq] at h;obtain ⟨rfl,rfl,rfl⟩:=h;exact ⟨hl,fun Q hQ=>W_exit hQ⟩
   | seq a b₂ =>
    simp only [xCode] at h
    split at h
    ·rename_i l1 ob1 h1
     obtain ⟨g1,g2⟩:=ihC _ _ _ _ _ _ _ _ h1 hl
     obtain ⟨g3,g4⟩:=ihC _ _ _ _ _ _ _ _ h g1
     exact ⟨g3,fun Q hQ=>W_seq (g2 _ (g4 Q hQ))⟩
    ·rename_i r hne
     obtain ⟨g1,g2⟩:=ihC _ _ _ _ _ _ _ _ h hl
     refine ⟨g1,fun Q hQ=>W_seq (g2 _ ?_)⟩
     cases e with
     | normal=>exact absurd h (hne _ _)
     | _=>exact hQ
   | block id a =>
    simp only [xCode] at h
    split at h
    ·rename_i id' l1 ob1 h1
     simp only [Option.some.injEq,Prod.mk.injEq] at h
     obtain ⟨rfl,rfl,rfl⟩:=h
     obtain ⟨g1,g2⟩:=ihC _ _ _ _ _ _ _ _ h1 hl
     refine ⟨g1,fun Q hQ=>W_block (g2 _ ?_)⟩
     by_cases hid : id' = id
     ·rw [if_pos hid] at hQ;subst hid;exact blockQ_same hQ
     ·rw [if_neg hid] at hQ;exact blockQ_other hid hQ
    ·rename_i r hne
     obtain ⟨g1,g2⟩:=ihC _ _ _ _ _ _ _ _ h hl
     refine ⟨g1,fun Q hQ=>W_block (g2 _ ?_)⟩
     cases e with
     | exit id'=>exact absurd h (hne _ _ _)
     | _=>exact hQ
   | cond c a b₂ =>
    simp only [xCode] at h
    split at h
    ·rename_i hc
     obtain ⟨g1,g2⟩:=ihC _ _ _ _ _ _ _ _ h hl
     exact ⟨g1,fun Q hQ=>W_cond (b:=true) hc (fun _=>g2 Q hQ) (fun e=>by cases e)⟩
    ·rename_i hc
     obtain ⟨g1,g2⟩:=ihC _ _ _ _ _ _ _ _ h hl
     exact ⟨g1,fun Q hQ=>W_cond (b:=false) hc (fun e=>by cases e) (fun _=>g2 Q hQ)⟩
    ·cases h
   | loop a =>
    obtain ⟨g1,g2⟩:=hloop _ _ _ _ _ _ _ _ h hl
    exact ⟨g1,fun Q hQ=>(g2 Q hQ).loop⟩
   | region id ops draw =>
    simp only [xCode] at h
    split at h
    ·rename_i hdr
     split at h
     ·rename_i hok
      cases hx : xDraw P env fl k n (ops.toList.map (·.dst)) (tkX b draw ops.toList) ((planOf (tkX b draw ops.toList) ops).ord.filterMap (ops.toList[·]?)) l ob with
      | none=>rw [hx] at h;cases h
      | some r =>
       rw [hx] at h
       simp only [Option.map_some,Option.some.injEq,Prod.mk.injEq] at h
       obtain ⟨rfl,rfl,rfl⟩:=h
       obtain ⟨g1,g2⟩:=ihD _ _ _ _ _ _ _ _ hx hl
       refine ⟨g1,fun Q hQ=>?_⟩
       subst hdr
       have:=W_draw (P:=P) (n:=n) (id:=id) (l:=ops.toList) (Q:=Q) (s:=stL l ob) hm _ _ _ (by simpa using hok) (g2 (Q .normal) hQ)
       simpa using this
     ·split at h
      ·rename_i hok
       simp only [Bool.and_eq_true,List.all_eq_true,Bool.not_eq_true'] at hok
       obtain ⟨⟨⟨a1,a2⟩,a3⟩,a4⟩:=hok
       obtain ⟨r,hx,hr⟩:=Option.map_eq_some_iff.1 h
       simp only [Prod.mk.injEq] at hr
       obtain ⟨rfl,rfl,rfl⟩:=hr
       have hall : ∀ t ∈ permsN ops (planA ops (ops.toList.map (·.dst)) (tkX b draw ops.toList) (planOf (tkX b draw ops.toList) ops)).2.1.length (planA ops (ops.toList.map (·.dst)) (tkX b draw ops.toList) (planOf (tkX b draw ops.toList) ops)).2.1,_ = _ :=
        fun t ht=>allSame_spec hx _ (List.mem_map_of_mem ht)
       have hne : ∃ t,t ∈ permsN ops (planA ops (ops.toList.map (·.dst)) (tkX b draw ops.toList) (planOf (tkX b draw ops.toList) ops)).2.1.length (planA ops (ops.toList.map (·.dst)) (tkX b draw ops.toList) (planOf (tkX b draw ops.toList) ops)).2.1:=by
        cases hT : permsN ops (planA ops (ops.toList.map (·.dst)) (tkX b draw ops.toList) (planOf (tkX b draw ops.toList) ops)).2.1.length (planA ops (ops.toList.map (·.dst)) (tkX b draw ops.toList) (planOf (tkX b draw ops.toList) ops)).2.1 with
        | nil=>rw [hT] at a4;simp at a4
        | cons t T=>exact ⟨t,by simp⟩
       obtain ⟨t0,ht0⟩:=hne
       obtain ⟨g1,_⟩:=ihD _ _ _ _ _ _ _ _ (hall t0 ht0) hl
       refine ⟨g1,fun Q hQ=>?_⟩
       subst hdr
       have:=W_drawA (P:=P) (n:=n) (id:=id) (l:=ops.toList) (Q:=Q) (s:=stL l ob) hm _ _ _ _ _ _ (by simpa using a1) (by simpa using a2) (fun t ht=>List.isPerm_iff.1 (a3 t ht)) fun t ht=>(ihD _ _ _ _ _ _ _ _ (hall t ht) hl).2 _ (Fin.id hQ)
       simpa using this
      ·cases h
    ·rename_i hdr
     have hdr : draw = false:=by simpa using hdr
     subst hdr
     cases hx : xOps P env fl k n (ops.toList.map (·.dst)) (tkX b false ops.toList) ops.toList l ob with
     | none=>rw [hx] at h;cases h
     | some r =>
      rw [hx] at h
      simp only [Option.map_some,Option.some.injEq,Prod.mk.injEq] at h
      obtain ⟨rfl,rfl,rfl⟩:=h
      obtain ⟨g1,g2⟩:=ihO _ _ _ _ _ _ _ _ hx hl
      refine ⟨g1,fun Q hQ=>?_⟩
      have:=W_region (P:=P) (n:=n) (id:=id) (l:=ops.toList) (g2 Q hQ)
      simpa using this
   | _=>simp [xCode] at h
  ·intro n gd tk ops l ob l' ob' h hl
   cases ops with
   | nil=>simp only [xOps,Option.some.injEq,Prod.mk.injEq] at h;obtain ⟨rfl,rfl⟩:=h;exact ⟨hl,fun Q hQ=>RL_nil hQ⟩
   | cons o r =>
    simp only [xOps] at h
    split at h
    ·cases h
    ·rename_i hw
     split at h
     ·rename_i hd
      obtain ⟨g1,g2⟩:=ihO _ _ _ _ _ _ _ _ h (by rw [setD_length];exact hl)
      exact ⟨g1,fun Q hQ=>RL_pass hw hl hd (g2 Q hQ)⟩
     ·cases h
    ·rename_i hw
     split at h
     ·split at h
      ·rename_i f ac hcal
       split at h
       ·rename_i v ob1 hk
        first | rw [fzL_eq] at h | rw [fz_eq] at h
        obtain ⟨q1,q2⟩:=ihK _ _ _ _ _ hk
        obtain ⟨g1,g2⟩:=ihO _ _ _ _ _ _ _ _ h (by rw [setD_length];exact hl)
        obtain ⟨_,_,_,_,_,_,_,_,_,_,_,hd,_⟩:=calleeX_spec hcal
        exact ⟨g1,fun Q hQ=>RL_want hw hd (calleeX_op hcal hl q1 q2 (g2 Q hQ))⟩
       ·cases h
      ·cases h
     ·split at h
      ·rename_i v hs
       rw [fz_eq] at h
       obtain ⟨x,hx,hok1,hok2,rfl⟩:=fastX_spec hs
       obtain ⟨g1,g2⟩:=ihO _ _ _ _ _ _ _ _ h (by rw [setD_length];exact hl)
       exact ⟨g1,fun Q hQ=>RL_want hw hok2 (OpW_slot hx hok1 hok2 (by rw [stL_put (by rw [hl];exact hok2)];exact g2 Q hQ))⟩
      ·split at h
       ·rename_i l1 ob1 hs
        first | rw [fzL_eq] at h | rw [fz_eq] at h
        have hd : dstOk n o.dst = true:=by
         unfold stepX at hs
         split at hs
         ·rename_i hc;simp only [Bool.and_eq_true] at hc;exact hc.1.2
         ·cases hs
        obtain ⟨e1,e2,_⟩:=stepX_spec hs hl
        obtain ⟨g1,g2⟩:=ihO _ _ _ _ _ _ _ _ h e2
        exact ⟨g1,fun Q hQ=>RL_want hw hd (OpW_step tk e1 (g2 Q hQ))⟩
       ·cases h
  ·intro n gd tk ops l ob l' ob' h hl
   cases ops with
   | nil=>simp only [xDraw,Option.some.injEq,Prod.mk.injEq] at h;obtain ⟨rfl,rfl⟩:=h;exact ⟨hl,fun K hK=>hK⟩
   | cons o r =>
    simp only [xDraw] at h
    split at h
    ·rename_i hq
     split at h
     ·cases h
     ·rename_i hw
      split at h
      ·rename_i hd
       simp only [Bool.and_eq_true] at hd
       obtain ⟨g1,g2⟩:=ihD _ _ _ _ _ _ _ _ h (by rw [setD_length];exact hl)
       refine ⟨g1,fun K hK=>?_⟩
       simp only [D,hq,if_true]
       refine ⟨.gd false .any,⟨hd.1,?_⟩,by rw [stL_put (by rw [hl];exact hd.1)];exact g2 K hK⟩
       rcases wantX_spec (ob:=ob) hw with ⟨hg,h0⟩ | ⟨j,want,t,h0,x,hg,hj,hx,hc⟩
       ·cases h0
       ·rw [hg]
        exact ⟨t,h0,x,hj,hx,.inr ⟨[],.any,(fun e=>by rw [hc] at e;cases e),rfl,by rw [hc]⟩⟩
      ·cases h
     ·rename_i hw
      split at h
      ·split at h
       ·rename_i f ac hcal
        split at h
        ·rename_i v ob1 hk
         split at h
         ·rename_i hq2
          simp only [Bool.and_eq_true] at hq2
          first | rw [fzL_eq] at h | rw [fz_eq] at h
          obtain ⟨q1,q2⟩:=ihK _ _ _ _ _ hk
          have hob:=eqbO_eq _ _ hq2.1
          subst hob
          obtain ⟨g1,g2⟩:=ihD _ _ _ _ _ _ _ _ h (by rw [setD_length];exact hl)
          obtain ⟨c,x,b,caps,ac',e1,e2,e3,e4,e5,e6,hd,rfl,rfl⟩:=calleeX_spec hcal
          have q1r:=ACalls.rot (fun e=>calleeV_ne e3 e _) q1
          have ht : ((c.args.toList.map fun x=>(ung true (opd (stL l ob1).t x)).dat) ++ caps.map AV.dat).take c.args.size = c.args.toList.map fun x=>(ung true (opd (stL l ob1).t x)).dat:=by
           rw [List.take_append_of_le_length (by simp),List.take_of_length_le (by simp)]
          obtain ⟨a1,a2⟩:=argVals_plain (stL l ob1).t c.args.toList
          have hcd : CallD P n o (stL l ob1) ((c.args.toList.map fun x=>(ung true (opd (stL l ob1).t x)).dat) ++ caps.map AV.dat) v:=by
           refine ⟨⟨c,x,b,f,caps,List.range ob1.length,ob1,e1,e2,e3,e4,by simp,Hand.all e5,?_,by rw [List.length_range];exact e6,q1r⟩,hd,hq2.2⟩
           rw [ht,a1]
           have : (((c.args.toList.map fun x=>(ung true (opd (stL l ob1).t x)).dat) ++ caps.map AV.dat).map (AV.ren fun j=>(List.range ob1.length).getD j 0)) = (c.args.toList.map fun x=>(ung true (opd (stL l ob1).t x)).dat) ++ caps.map AV.dat:=by
            conv=>rhs;rw [← List.map_id ((c.args.toList.map fun x=>(ung true (opd (stL l ob1).t x)).dat) ++ caps.map AV.dat)]
            rw [List.all_eq_true] at e6
            exact List.map_congr_left fun a ha=>ren_range a (e6 a ha)
           rw [this]
           exact LeA.refl _
          have hown : ((c.args.toList.map fun x=>(ung true (opd (stL l ob1).t x)).dat) ++ caps.map AV.dat).all (fun c=>!c.isOwn) = true:=by
           simp only [List.all_append,List.all_map,Bool.and_eq_true,List.all_eq_true,Function.comp,AV.dat_isOwn,Bool.not_false,implies_true,and_self]
          refine ⟨g1,fun K hK=>?_⟩
          simp only [D,hq,if_true]
          refine ⟨if o.guard.isSome then .gd true v else v,⟨hd,?_⟩,by rw [stL_put (by rw [hl];exact hd)];exact g2 K hK⟩
          rcases wantX_spec (ob:=ob1) hw with ⟨hg,h0⟩ | ⟨j,want,t,h0,x,hg,hj,hx,hc⟩
          ·rw [hg];exact .inr ⟨_,hcd,hown⟩
          ·rw [hg]
           exact ⟨t,h0,x,hj,hx,.inr ⟨_,v,fun _=>hcd,hown,by rw [hc];rfl⟩⟩
         ·cases h
        ·cases h
       ·cases h
      ·split at h
       ·rename_i x hx
        split at h
        ·rename_i hok
         simp only [Bool.and_eq_true] at hok
         first | rw [fzL_eq] at h | rw [fz_eq] at h
         obtain ⟨g1,g2⟩:=ihD _ _ _ _ _ _ _ _ h (by rw [setD_length];exact hl)
         refine ⟨g1,fun K hK=>?_⟩
         simp only [D,hq,if_true]
         refine ⟨if o.guard.isSome then .gd true x.v else x.v,⟨hok.2,?_⟩,by rw [stL_put (by rw [hl];exact hok.2)];exact g2 K hK⟩
         rcases wantX_spec (ob:=ob) hw with ⟨hg,h0⟩ | ⟨j,want,t,h0,y,hg,hj,hy,hc⟩
         ·rw [hg];exact .inl ⟨x,hx,hok.1,rfl⟩
         ·rw [hg]
          exact ⟨t,h0,y,hj,hy,.inl ⟨x,by rw [hc];exact hx,fun _=>hok.1,by rw [hc];rfl⟩⟩
        ·cases h
       ·cases h
    ·rename_i hq
     split at h
     ·cases h
     ·rename_i hgd
      have hg : o.guard = none:=by cases hh : o.guard with | none=>rfl | some _=>rw [hh] at hgd;simp at hgd
      split at h
      ·rename_i hic
       split at h
       ·rename_i f ac hcal
        split at h
        ·rename_i v ob1 hk
         first | rw [fzL_eq] at h | rw [fz_eq] at h
         obtain ⟨q1,q2⟩:=ihK _ _ _ _ _ hk
         obtain ⟨g1,g2⟩:=ihD _ _ _ _ _ _ _ _ h (by rw [setD_length];exact hl)
         refine ⟨g1,fun K hK=>?_⟩
         simp only [D,hq,hic,if_true,if_false,Bool.false_eq_true]
         exact ⟨hg,calleeX_op hcal hl q1 q2 (g2 K hK)⟩
        ·cases h
       ·cases h
      ·rename_i hic
       split at h
       ·rename_i l1 ob1 hs
        first | rw [fzL_eq] at h | rw [fz_eq] at h
        obtain ⟨e1,e2,_⟩:=stepX_spec hs hl
        obtain ⟨g1,g2⟩:=ihD _ _ _ _ _ _ _ _ h e2
        refine ⟨g1,fun K hK=>?_⟩
        simp only [D,hq,hic,if_true,if_false,Bool.false_eq_true]
        exact ⟨hg,_,e1,g2 K hK⟩
       ·cases h
  ·intro f ac oc r o' h
   simp only [xCall] at h
   split at h
   ·rename_i x hx
    obtain rfl:=Option.some.inj h
    exact henv _ _ _ _ _ hx
   ·split at h
    ·cases h
    ·rename_i fn hf
     split at h
     ·cases h
     ·rename_i c hb
      split at h
      ·rename_i hcond
       simp only [Bool.and_eq_true,decide_eq_true_eq] at hcond
       split at h
       ·rename_i e l o1 hx
        obtain ⟨g1,g2⟩:=ihC _ _ _ _ _ _ _ _ hx (by simp;omega)
        have hs0 : (⟨fun k=>ac.getD k .any,oc⟩ : St) = stL (ac ++ List.replicate (fn.ntmps - ac.length) .any) oc:=by
         simp only [stL,St.mk.injEq,and_true]
         funext k
         simp only [List.getD_eq_getElem?_getD,List.getElem?_append]
         split
         ·rfl
         ·rename_i hk
          rw [List.getElem?_eq_none (by omega),List.getElem?_replicate]
          split<;>rfl
        have fin : ∀ (r1 : AV) (k1 : Nat),e ≠ .exit 0 → (∀ id,e ≠ .exit id) → resAV P fn.results.toList (stL l o1) = some r1 → oc.length ≤ k1 → k1 ≤ o1.length → ((o1.take k1).all (Ob.ltk k1) = true) → r1.ltk k1 = true →
          ACalls P f ac oc (fun r' o''=>r' = r1 ∧ o'' = o1.take k1):=by
         intro r1 k1 _ hne h1 h2 h3 h4 h5
         refine ACalls_of hf hb hcond.1 hcond.2 ?_
         rw [hs0]
         refine g2 _ ?_
         cases e with
         | exit id=>exact absurd rfl (hne id)
         | normal=>exact ⟨r1,r1,k1,h1,.refl _,h2,h3,h4,h5,rfl,rfl⟩
         | ret=>exact ⟨r1,r1,k1,h1,.refl _,h2,h3,h4,h5,rfl,rfl⟩
        split at h
        ·cases h
        ·rename_i hne
         have hne' : ∀ id,e ≠ .exit id:=fun id he=>hne id he
         split at h
         ·cases h
         ·rename_i r1 hr1
          split at h
          ·rename_i hlen
           simp only [decide_eq_true_eq] at hlen
           split at h
           ·rename_i hk
            simp only [Bool.and_eq_true] at hk
            simp only [Option.some.injEq,Prod.mk.injEq] at h
            obtain ⟨rfl,rfl⟩:=h
            exact ⟨fin _ _ (hne' 0) hne' hr1 (Nat.le_refl _) hlen hk.2 hk.1,by rw [List.length_take];omega⟩
           ·split at h
            ·rename_i hk
             simp only [Bool.and_eq_true] at hk
             simp only [Option.some.injEq,Prod.mk.injEq] at h
             obtain ⟨rfl,rfl⟩:=h
             have:=fin _ o1.length (hne' 0) hne' hr1 hlen (Nat.le_refl _) (by rw [List.take_length];exact hk.2) hk.1
             rw [List.take_length] at this
             exact ⟨this,hlen⟩
            ·cases h
          ·cases h
       ·cases h
      ·cases h
end
end Go.AW
namespace Go.AW
open Go
set_option linter.unusedSimpArgs false
set_option linter.unusedVariables false
def cellsAV {H : Type} (P : Program) : Nat → TypeId → DataW H → List AV
 | 0,_,_=>[]
 | k + 1,t,d =>
  match P.underlying t,d with
  | some .bool,.lit (.bool b)=>[.b b]
  | some (.int kd),.lit (.int _ n)=>[.i kd n]
  | some .string,.lit (.string l)=>[.s ⟨l.toArray⟩]
  | some (.slice e),.nil=>[.sl (szOf P e) []]
  | some (.slice e),.slice elems _=>[.sl (szOf P e) (elems.map fun x=>cellsAV P k e x)]
  | some (.struct fs),.agg parts=>(fs.toList.zip parts).flatMap fun x=>cellsAV P k x.1.type x.2
  | _,_=>[]
def laidF (P : Program) : Nat → List Field → Option Nat
 | off,[]=>some off
 | off,f :: r=>if f.offset = off then laidF P (off + P.cellsOf f.type) r else none
def plainT (P : Program) : Nat → TypeId → Bool
 | 0,_=>true
 | k + 1,t =>
  match P.underlying t with
  | some .bool | some (.int _) | some .string=>decide (P.cellsOf t = 1)
  | some (.slice e)=>decide (P.cellsOf t = 1) && decide (0 < P.cellsOf e) && plainT P k e
  | some (.struct fs)=>fs.toList.all (fun f=>plainT P k f.type) && decide (laidF P 0 fs.toList = some (P.cellsOf t))
  | _=>false
section
variable {H : Type} {P : Program} {w : World}
theorem mapM_some {α β : Type} {f : α → Option β} : ∀ {l : List α} {r : List β},l.mapM f = some r → l.length = r.length ∧ ∀ (i : Nat) a,l[i]? = some a → ∃ b,r[i]? = some b ∧ f a = some b
 | [],r,h=>by simp at h;subst h;exact ⟨rfl,fun i a h=>by simp at h⟩
 | x :: l,r,h=>by
  rw [List.mapM_cons] at h
  cases hx : f x with
  | none=>rw [hx] at h;simp at h
  | some y =>
   cases hl : l.mapM f with
   | none=>rw [hx,hl] at h;simp at h
   | some r' =>
    rw [hx,hl] at h
    simp at h
    subst h
    obtain ⟨h1,h2⟩:=mapM_some hl
    refine ⟨by simp [h1],fun i a ha=>?_⟩
    cases i with
    | zero=>simp only [List.getElem?_cons_zero,Option.some.injEq] at ha;subst ha;exact ⟨y,rfl,hx⟩
    | succ i=>simp only [List.getElem?_cons_succ] at ha ⊢;exact h2 i a ha
theorem Vs.append {Y : CS} {m : List MB} : ∀ {a b : List AV} {x y : List Value},Vs w Y m a x → Vs w Y m b y → Vs w Y m (a ++ b) (x ++ y)
 | [],_,_,_,h,k=>by simp only [Vs] at h;subst h;simpa using k
 | _ :: a,b,x,y,h,k=>by
  simp only [Vs,List.cons_append] at h ⊢
  obtain ⟨v,t,rfl,h1,h2⟩:=h
  exact ⟨v,t ++ y,rfl,h1,Vs.append h2 k⟩
def YN : CS:=fun _ _=>False
theorem Cs_of {blk : Nat} : ∀ {row : List AV} {vs : List Value} {off : Nat},Vs w YN [] row vs → (∀ v ∈ vs,Value.flat v = true) → (∀ (i : Nat) v,vs[i]? = some v → w.cell? ⟨blk,off + i,none⟩ = some v) → Cs w YN blk off row
 | [],vs,off,_,_,_=>by simp only [Cs]
 | c :: row,vs,off,h,hf,hc=>by
  simp only [Vs] at h
  obtain ⟨v,t,rfl,h1,h2⟩:=h
  simp only [Cs]
  refine ⟨⟨v,by simpa using hc 0 v rfl,fun h=>h,hf v (by simp),h1⟩,Cs_of h2 (fun x hx=>hf x (by simp [hx])) fun i x hx=>?_⟩
  have:=hc (i + 1) x (by simpa using hx)
  rwa [show off + (i + 1) = off + 1 + i by omega] at this
theorem Rs_of {sz blk : Nat} : ∀ {rows : List (List AV)} {off : Nat},(∀ (i : Nat) row,rows[i]? = some row → row.length = sz ∧ Cs w YN blk (off + i * sz) row) → Rs w YN sz blk off rows
 | [],_,_=>by simp only [Rs]
 | r :: rows,off,h=>by
  simp only [Rs]
  obtain ⟨h1,h2⟩:=h 0 r rfl
  refine ⟨h1,by simpa using h2,Rs_of fun i row hr=>?_⟩
  have:=h (i + 1) row (by simpa using hr)
  rwa [show off + (i + 1) * sz = off + sz + i * sz by rw [Nat.add_mul];omega] at this
theorem cells_get {base n : Nat} {a : Addr} {cs : List Value} (h : w.cells? base a n = some cs) : cs.length = n ∧ ∀ (i : Nat) v,cs[i]? = some v → w.cell? (a.add i) = some v:=by
 unfold World.cells? at h
 split at h
 ·obtain ⟨h1,h2⟩:=mapM_some h
  simp only [List.length_range] at h1
  refine ⟨h1.symm,fun i v hv=>?_⟩
  have hi : i < n:=by rw [h1];exact (List.getElem?_eq_some_iff.1 hv).1
  obtain ⟨b,e1,e2⟩:=h2 i i (List.getElem?_range hi)
  rw [hv] at e1
  obtain rfl:=Option.some.inj e1
  exact e2
 ·cases h
theorem cell_spot {a : Addr} {v : Value} (h : w.cell? a = some v) : a.spot = none:=by
 unfold World.cell? at h
 split at h
 ·cases hs : a.spot with
  | none=>rfl
  | some x=>rw [hs] at h;simp at h
 ·cases h
theorem addr_add' (a : Addr) (n : Nat) (h : a.spot = none) : a.add n = ⟨a.block,a.off + n,none⟩:=by
 obtain ⟨b,o,s⟩:=a
 simp only at h
 subst h
 exact addr_add b o n
theorem add_zero' (a : Addr) : a.add 0 = a:=by
 unfold Addr.add
 split<;>first | rfl | simp_all
theorem trod_Vs (enc : TypeId × Value → H) {base : Nat} {spare : Nat → Bool} {held : Bool} : ∀ (k : Nat) (t : TypeId) (cs : List Value) (d : DataW H) (ps : List MemPlace),plainT P k t = true →
  DataW.trod enc P w base spare held k t cs = some (d,ps) → Vs w YN [] (cellsAV P k t d) cs ∧ ∀ v ∈ cs,Value.flat v = true
 | 0,t,cs,d,ps,_,h=>by simp [DataW.trod] at h
 | k + 1,t,cs,d,ps,hp,h=>by
  unfold plainT at hp
  unfold DataW.trod at h
  unfold cellsAV
  cases hu : P.underlying t with
  | none=>rw [hu] at hp;simp at hp
  | some u =>
   rw [hu] at hp h
   cases u with
   | bool =>
    rcases cs with _ | ⟨v,_ | ⟨v2,r⟩⟩
    ·simp at h
    ·cases v<;>simp at h
     obtain ⟨rfl,_⟩:=h
     exact ⟨by simp [Vs,V],by simp [Value.flat]⟩
    ·simp at h
   | int kd =>
    rcases cs with _ | ⟨v,_ | ⟨v2,r⟩⟩
    ·simp at h
    ·cases v<;>simp at h
     obtain ⟨⟨rfl,_⟩,rfl,_⟩:=h
     exact ⟨by simp [Vs,V],by simp [Value.flat]⟩
    ·simp at h
   | string =>
    rcases cs with _ | ⟨v,_ | ⟨v2,r⟩⟩
    ·simp at h
    ·cases v<;>simp at h
     obtain ⟨_,rfl,_⟩:=h
     exact ⟨by simp [Vs,V],by simp [Value.flat]⟩
    ·simp at h
   | slice e =>
    simp only [Bool.and_eq_true,decide_eq_true_eq] at hp
    obtain ⟨⟨hp1,hp2⟩,hp3⟩:=hp
    rcases cs with _ | ⟨v,_ | ⟨v2,r⟩⟩
    ·simp at h
    ·cases v with
     | slice a len cap =>
      cases a with
      | none =>
       cases len<;>cases cap<;>simp at h
       obtain ⟨rfl,_⟩:=h
       refine ⟨?_,by simp [Value.flat]⟩
       simp only [Vs,V]
       exact ⟨_,[],rfl,⟨none,0,rfl,Nat.le_refl _,Nat.zero_le _,.inl trivial⟩,rfl⟩
      | some a =>
       simp only at h
       split at h
       ·rename_i hc
        obtain ⟨hc1,hc2,hc3⟩:=hc
        cases he : (List.range len).mapM (fun i=>(w.cells? base (a.add (i * P.cellsOf e)) (P.cellsOf e)).bind (DataW.trod enc P w base spare held k e)) with
        | none=>rw [he] at h;simp at h
        | some elems =>
         rw [he] at h
         simp only [Option.bind_some] at h
         obtain ⟨hl,hel⟩:=mapM_some he
         simp only [List.length_range] at hl
         have hd : ∃ sp,d = .slice (elems.map (·.1)) sp:=by
          revert h
          split
          ·cases (List.range (cap - len)).mapM (fun j=>(w.cells? base (a.add ((len + j) * P.cellsOf e)) (P.cellsOf e)).bind (DataW.trod enc P w base spare held k e)) with
           | none=>intro h;simp at h
           | some rest=>intro h;simp at h;exact ⟨_,h.1.symm⟩
          ·intro h;simp at h;exact ⟨_,h.1.symm⟩
         obtain ⟨sp,rfl⟩:=hd
         refine ⟨?_,by simp [Value.flat]⟩
         simp only [Vs,V]
         refine ⟨_,[],rfl,⟨some a,cap,?_,?_,hc3,?_⟩,rfl⟩
         ·simp [← hl]
         ·simpa [← hl] using hc2
         ·by_cases hz : len = 0
          ·left
           have : elems = []:=List.eq_nil_of_length_eq_zero (by omega)
           simp [this]
          ·right
           have hrow : ∀ (i : Nat) x,elems[i]? = some x → ∃ cells,w.cells? base (a.add (i * P.cellsOf e)) (P.cellsOf e) = some cells ∧ DataW.trod enc P w base spare held k e cells = some x:=by
            intro i x hx
            have hi : i < len:=by rw [hl];exact (List.getElem?_eq_some_iff.1 hx).1
            obtain ⟨b,e1,e2⟩:=hel i i (List.getElem?_range hi)
            rw [hx] at e1
            obtain rfl:=Option.some.inj e1
            cases hcl : w.cells? base (a.add (i * P.cellsOf e)) (P.cellsOf e) with
            | none=>rw [hcl] at e2;simp at e2
            | some cells=>rw [hcl] at e2;exact ⟨cells,rfl,by simpa using e2⟩
           have hsp : a.spot = none:=by
            have h0 : 0 < elems.length:=by omega
            obtain ⟨cells,c1,c2⟩:=hrow 0 elems[0] (List.getElem?_eq_getElem h0)
            obtain ⟨d1,d2⟩:=cells_get c1
            have h1 : 0 < cells.length:=by omega
            have:=cell_spot (d2 0 _ (List.getElem?_eq_getElem h1))
            rwa [Nat.zero_mul,add_zero',add_zero'] at this
           refine ⟨a.block,a.off,by obtain ⟨b,o,sp'⟩:=a;simp only at hsp;subst hsp;rfl,Rs_of fun i row hr=>?_⟩
           simp only [List.getElem?_map] at hr
           cases hx : elems[i]? with
           | none=>rw [hx] at hr;simp at hr
           | some x =>
            rw [hx] at hr
            simp only [Option.map_some,Option.some.injEq] at hr
            subst hr
            obtain ⟨cells,c1,c2⟩:=hrow i x hx
            obtain ⟨d1,d2⟩:=cells_get c1
            obtain ⟨v1,v2⟩:=trod_Vs enc k e cells x.1 x.2 hp3 c2
            refine ⟨by rw [Vs.length v1,d1],Cs_of v1 v2 fun j y hy=>?_⟩
            have:=d2 j y hy
            have hb : (a.add (i * P.cellsOf e)) = ⟨a.block,a.off + i * P.cellsOf e,none⟩:=addr_add' a _ hsp
            rw [hb,addr_add] at this
            exact this
       ·cases h
     | _=>simp at h
    ·simp at h
   | struct fs =>
    simp only [Bool.and_eq_true,decide_eq_true_eq,List.all_eq_true] at hp
    obtain ⟨hp1,hp2⟩:=hp
    simp only at h
    split at h
    ·rename_i hlen
     cases hm : fs.toList.mapM (fun f=>DataW.trod enc P w base spare held k f.type ((cs.drop f.offset).take (P.cellsOf f.type))) with
     | none=>rw [hm] at h;simp at h
     | some xs =>
      rw [hm] at h
      simp only [Option.map_some,Option.some.injEq,Prod.mk.injEq] at h
      obtain ⟨rfl,_⟩:=h
      simp only
      have key : ∀ (l : List Field) (off : Nat) (xs : List (DataW H × List MemPlace)),(∀ f ∈ l,plainT P k f.type = true) → laidF P off l = some cs.length →
        l.mapM (fun f=>DataW.trod enc P w base spare held k f.type ((cs.drop f.offset).take (P.cellsOf f.type))) = some xs →
        Vs w YN [] ((l.zip (xs.map (·.1))).flatMap fun x=>cellsAV P k x.1.type x.2) (cs.drop off) ∧ ∀ v ∈ cs.drop off,Value.flat v = true:=by
       intro l
       induction l with
       | nil =>
        intro off xs _ h2 h3
        simp only [laidF,Option.some.injEq] at h2
        rw [List.drop_of_length_le (by omega)]
        exact ⟨by simp [Vs],by simp⟩
       | cons f l ih =>
        intro off xs h1 h2 h3
        simp only [laidF] at h2
        split at h2
        ·rename_i ho
         rw [List.mapM_cons] at h3
         cases hx : DataW.trod enc P w base spare held k f.type ((cs.drop f.offset).take (P.cellsOf f.type)) with
         | none=>rw [hx] at h3;simp at h3
         | some x =>
          cases hr : l.mapM (fun f=>DataW.trod enc P w base spare held k f.type ((cs.drop f.offset).take (P.cellsOf f.type))) with
          | none=>rw [hx,hr] at h3;simp at h3
          | some xs' =>
           rw [hx,hr] at h3
           simp at h3
           subst h3
           obtain ⟨v1,v2⟩:=ih _ xs' (fun g hg=>h1 g (by simp [hg])) h2 hr
           obtain ⟨u1,u2⟩:=trod_Vs enc k f.type _ x.1 x.2 (h1 f (by simp)) hx
           have hsplit : cs.drop off = (cs.drop f.offset).take (P.cellsOf f.type) ++ cs.drop (off + P.cellsOf f.type):=by
            rw [ho,← List.drop_drop];exact (List.take_append_drop _ _).symm
           rw [hsplit]
           refine ⟨?_,fun v hv=>?_⟩
           ·simp only [List.map_cons,List.zip_cons_cons,List.flatMap_cons]
            exact Vs.append u1 v1
           ·rcases List.mem_append.1 hv with hv | hv
            ·exact u2 v hv
            ·exact v2 v hv
        ·cases h2
      have:=key fs.toList 0 xs hp1 (by rw [hlen];exact hp2) hm
      simpa using this
    ·cases h
   | _=>simp at hp
end
end Go.AW
namespace Go.AW
open Go Go.RowKit
set_option linter.unusedSimpArgs false
set_option linter.unusedVariables false
theorem Rel.begin {w : World} {t : Nat → AV} {u : Nat → Value} (h : ∀ k,V w YN [] (t k) (u k)) (ho : ∀ k,(t k).isOwn = false) : Rel w YN [] (fun _=>none) t u []:=by
 have hX : ∀ b x,¬ XS ([] : List MB) (fun _=>none) [] b x:=by
  rintro b x (⟨id,ob,mb,h1,_⟩ | ⟨p,r,h1,_⟩)
  ·simp at h1
  ·cases h1
 have hY : ∀ b x,YS YN [] (fun _=>none) [] b x → YN b x:=fun b x k=>k.elim (fun k=>(hX b x k).elim) (fun k=>k)
 refine ⟨rfl,fun k=>V.keep (Keeps.sub [] hY) _ _ (h k),fun id x mb h1=>by simp at h1,fun i j x y a b h1=>by simp at h1,fun p r h=>(by cases h),fun p r id x mb h=>(by cases h),fun p q r s _ h=>(by cases h),?_,fun b x h=>h.elim,fun b x h=>h.elim⟩
 intro p sz rows v hl hv
 cases p with
 | t k =>
  simp only [leaf,Option.some.injEq] at hl
  have:=ho k
  rw [hl] at this;cases this
 | o id r c=>simp [leaf] at hl
theorem calls_of_data {P : Program} {f : FuncId} {ac : List AV} {r : AV} (h : ACallsD P f ac r) (ho : ac.all (fun c=>!c.isOwn) = true) {w : World} {vs : List Value} (hv : Vs w YN [] ac vs) :
  Calls P f vs.toArray w fun e w'=>∃ v,e = .returned v ∧ V w' YN [] r v ∧ Below w.heap.size w w':=by
 have hX : ∀ b x,¬ XS ([] : List MB) (fun _=>none) [] b x:=by
  rintro b x (⟨id,ob,mb,h1,_⟩ | ⟨p,r,h1,_⟩)
  ·simp at h1
  ·cases h1
 have hlen:=Vs.length hv
 have hget : ∀ {l : List AV} {us : List Value},Vs w YN [] l us → ∀ k,V w YN [] (l.getD k .any) (us.getD k undef):=by
  intro l
  induction l with
  | nil=>intro us _ k;simp [V]
  | cons a l ih =>
   intro us hu k
   simp only [Vs] at hu
   obtain ⟨v,t,rfl,h1,h2⟩:=hu
   cases k with
   | zero=>simpa using h1
   | succ k=>simpa using ih h2 k
 have hrel:=Rel.begin (w:=w) (t:=fun k=>ac.getD k .any) (u:=fun k=>vs.getD k undef) (hget hv) (fun k=>by
  rw [List.all_eq_true] at ho
  cases hk : ac[k]? with
  | none=>simp [List.getD_eq_getElem?_getD,hk,AV.isOwn]
  | some a=>simpa [List.getD_eq_getElem?_getD,hk] using ho a (List.mem_of_getElem? hk))
 refine Calls.mono (h.2 w YN [] (fun _=>none) vs hlen.symm hrel) ?_
 rintro e w' ⟨v,r',o',m',reg',rfl,⟨rfl,rfl⟩,h1,h2,h3,h4⟩
 refine ⟨v,rfl,?_,⟨h2.os,h2.tape,h2.output,h2.size,fun k hk=>h2.block k hk fun x hx=>hX k x hx⟩⟩
 have:=h1.tv 0
 simp only [if_true] at this
 have hm : m' = []:=List.eq_nil_of_length_eq_zero (by rw [h1.len];rfl)
 subst hm
 exact V.keep (Keeps.sub [] fun b x k=>(k : False).elim) _ _ this
end Go.AW
namespace Go.AW
open Go
set_option linter.unusedSimpArgs false
set_option linter.unusedVariables false
section
variable {H : Type} {P : Program} {w : World}
theorem read_slice {enc : TypeId × Value → H} {base : Nat} {spare : Nat → Bool} {held : Bool} {k : Nat} {t e : TypeId} {cs : List Value} {d : DataW H} {ps : List MemPlace} (hu : P.underlying t = some (.slice e))
  (h : DataW.trod enc P w base spare held (k + 1) t cs = some (d,ps)) :
  ∃ elems : List (DataW H),cellsAV P (k + 1) t d = [.sl (szOf P e) (elems.map fun x=>cellsAV P k e x)] ∧ (d = .nil ∧ elems = [] ∨ ∃ sp,d = .slice elems sp) ∧
   ∀ x ∈ elems,∃ cells q,DataW.trod enc P w base spare held k e cells = some (x,q):=by
 unfold DataW.trod at h
 rw [hu] at h
 rcases cs with _ | ⟨v,_ | ⟨v2,r⟩⟩
 ·simp at h
 ·cases v with
  | slice a len cap =>
   cases a with
   | none =>
    cases len<;>cases cap<;>simp at h
    obtain ⟨rfl,_⟩:=h
    exact ⟨[],by simp only [cellsAV,hu,List.map_nil],.inl ⟨rfl,rfl⟩,by simp⟩
   | some a =>
    simp only at h
    split at h
    ·cases he : (List.range len).mapM (fun i=>(w.cells? base (a.add (i * P.cellsOf e)) (P.cellsOf e)).bind (DataW.trod enc P w base spare held k e)) with
     | none=>rw [he] at h;simp at h
     | some elems =>
      rw [he] at h
      simp only [Option.bind_some] at h
      obtain ⟨hl,hel⟩:=mapM_some he
      simp only [List.length_range] at hl
      have hd : ∃ sp,d = .slice (elems.map (·.1)) sp:=by
       revert h
       split
       ·cases (List.range (cap - len)).mapM (fun j=>(w.cells? base (a.add ((len + j) * P.cellsOf e)) (P.cellsOf e)).bind (DataW.trod enc P w base spare held k e)) with
        | none=>intro h;simp at h
        | some rest=>intro h;simp at h;exact ⟨_,h.1.symm⟩
       ·intro h;simp at h;exact ⟨_,h.1.symm⟩
      obtain ⟨sp,rfl⟩:=hd
      refine ⟨elems.map (·.1),by simp only [cellsAV,hu],.inr ⟨sp,rfl⟩,fun x hx=>?_⟩
      obtain ⟨y,hy,rfl⟩:=List.mem_map.1 hx
      obtain ⟨i,hi⟩:=List.mem_iff_getElem?.1 hy
      have hi' : i < len:=by rw [hl];exact (List.getElem?_eq_some_iff.1 hi).1
      obtain ⟨b,e1,e2⟩:=hel i i (List.getElem?_range hi')
      rw [hi] at e1
      obtain rfl:=Option.some.inj e1
      cases hcl : w.cells? base (a.add (i * P.cellsOf e)) (P.cellsOf e) with
      | none=>rw [hcl] at e2;simp at e2
      | some cells=>rw [hcl] at e2;exact ⟨cells,y.2,by simpa using e2⟩
    ·cases h
  | _=>simp at h
 ·simp at h
theorem read_struct {enc : TypeId × Value → H} {base : Nat} {spare : Nat → Bool} {held : Bool} {k : Nat} {t : TypeId} {fs : Array Field} {cs : List Value} {d : DataW H} {ps : List MemPlace} (hu : P.underlying t = some (.struct fs))
  (h : DataW.trod enc P w base spare held (k + 1) t cs = some (d,ps)) :
  ∃ parts : List (DataW H),d = .agg parts ∧ cellsAV P (k + 1) t d = (fs.toList.zip parts).flatMap (fun x=>cellsAV P k x.1.type x.2) ∧ parts.length = fs.toList.length ∧
   ∀ (i : Nat) f x,fs.toList[i]? = some f → parts[i]? = some x → ∃ cells q,DataW.trod enc P w base spare held k f.type cells = some (x,q):=by
 unfold DataW.trod at h
 rw [hu] at h
 simp only at h
 split at h
 ·cases hm : fs.toList.mapM (fun f=>DataW.trod enc P w base spare held k f.type ((cs.drop f.offset).take (P.cellsOf f.type))) with
  | none=>rw [hm] at h;simp at h
  | some xs =>
   rw [hm] at h
   simp only [Option.map_some,Option.some.injEq,Prod.mk.injEq] at h
   obtain ⟨rfl,_⟩:=h
   obtain ⟨h1,h2⟩:=mapM_some hm
   refine ⟨_,rfl,by simp only [cellsAV,hu],by simp [h1],fun i f x hf hx=>?_⟩
   obtain ⟨b,e1,e2⟩:=h2 i f hf
   simp only [List.getElem?_map,e1,Option.map_some,Option.some.injEq] at hx
   subst hx
   exact ⟨_,b.2,e2⟩
 ·cases h
end
end Go.AW
namespace Go.AW
open Go
attribute [go_sem] Nat.reduceLT Nat.reduceLeDiff Nat.reduceEqDiff Nat.reduceAdd Nat.reduceMul Nat.reduceBEq Nat.reduceBNe Int.reduceLT Int.reduceLE Int.reduceToNat Int.reduceBNe Int.reduceNeg reduceIte Int.toNat_natCast decide_eq_true_eq Int.natCast_nonneg Nat.zero_add Nat.add_zero true_or or_true or_false false_or
attribute [go_sem] List.isEmpty_toArray List.isEmpty_nil List.isEmpty_cons Bool.false_eq_true if_true if_false
class Nav (p : Prop) (q : outParam Prop) : Prop where
 of : q → p
theorem nav {p q : Prop} [h : Nav p q] (x : q) : p:=h.of x
section
variable {P : Program} {n : Nat} {Q : Exit → St → Prop} {s : St} {x y c : Code} {id m lo hi : Nat} {M : St → Prop} {I : Nat → St → Prop} {L : List Nat} {t0 : Nat → AV} {J : Nat → (Nat → AV) → List Ob → Prop} {J1 : (Nat → AV) → List Ob → Prop}
instance : Nav (W P n (.seq x y) Q s) (W P n x (seqQ P n y Q) s):=⟨W_seq⟩
instance : Nav (W P n (.block id c) Q s) (W P n c (blockQ id Q) s):=⟨W_block⟩
instance : Nav (W P n .skip Q s) (Q .normal s):=⟨W_skip⟩
instance : Nav (W P n (.label m) Q s) (Q .normal s):=⟨W_label⟩
instance : Nav (W P n .ret Q s) (Q .ret s):=⟨W_ret⟩
instance : Nav (W P n (.exit id) Q s) (Q (.exit id) s):=⟨W_exit⟩
instance : Nav (seqQ P n c Q .normal s) (W P n c Q s):=⟨seqQ_normal⟩
instance : Nav (seqQ P n c Q .ret s) (Q .ret s):=⟨seqQ_ret⟩
instance : Nav (seqQ P n c Q (.exit id) s) (Q (.exit id) s):=⟨seqQ_exit⟩
instance : Nav (blockQ id Q .normal s) (Q .normal s):=⟨blockQ_normal⟩
instance : Nav (blockQ id Q .ret s) (Q .ret s):=⟨blockQ_ret⟩
instance : Nav (blockQ id Q (.exit id) s) (Q .normal s):=⟨blockQ_same⟩
instance : Nav (thenQ M Q .normal s) (M s):=⟨thenQ_normal⟩
instance : Nav (thenQ M Q .ret s) (Q .ret s):=⟨thenQ_ret⟩
instance : Nav (thenQ M Q (.exit id) s) (Q (.exit id) s):=⟨thenQ_exit⟩
instance : Nav (whileQ I m Q .ret s) (Q .ret s):=⟨whileQ_ret⟩
instance : Nav (whileQ I m Q (.exit id) s) (Q (.exit id) s):=⟨whileQ_exit⟩
instance : Nav (forQ lo hi L t0 J m Q .ret s) (Q .ret s):=⟨forQ_ret⟩
instance : Nav (forQ lo hi L t0 J m Q (.exit id) s) (Q (.exit id) s):=⟨forQ_exit⟩
instance : Nav (joinQ lo hi L t0 J1 Q .ret s) (Q .ret s):=⟨joinQ_ret⟩
instance : Nav (joinQ lo hi L t0 J1 Q (.exit id) s) (Q (.exit id) s):=⟨joinQ_exit⟩
end
theorem side {p : Prop} (h : p:=by first | omega | assumption | (simp;done) | (simp only [Bool.or_eq_true,Bool.and_eq_true,Bool.not_eq_true',Bool.not_eq_false',Bool.and_eq_false_iff,Bool.or_eq_false_iff,decide_eq_true_eq,decide_eq_false_iff_not,Bool.not_eq_eq_eq_not,Bool.not_true,Bool.not_false]<;>omega) | (simp<;>omega)) : p:=h
theorem wr {P : Program} {n : Nat} {Q : Exit → St → Prop} {s : St} {id : Nat} {l : List Oper} (h : ∀ (K : St → Prop) (R : List Oper → St → Prop),
   (∀ (s : St),Q Exit.normal s → K s) → (∀ (l' : List Oper) (s : St),RL P n (List.map (fun x=>x.dst) l) l' Q s → R l' s) → runR P n (List.map (fun x=>x.dst) l) [] R l K s) :
  W P n (Code.region id l.toArray false) Q s:=W_reg [] h
theorem rr {P : Program} {n : Nat} {gd : List (Option Nat)} {Q : Exit → St → Prop} {s : St} {l : List Oper} (h : ∀ (K : St → Prop) (R : List Oper → St → Prop),
   (∀ (s : St),Q Exit.normal s → K s) → (∀ (l : List Oper) (s : St),RL P n gd l Q s → R l s) → runR P n gd [] R l K s) : RL P n gd l Q s:=RL_reg [] h
end Go.AW
