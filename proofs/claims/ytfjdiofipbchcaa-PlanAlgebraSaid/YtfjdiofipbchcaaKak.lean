/-
Plain law of the algebra of relations.
-/
import Derived.Test.YtfjdiofipbchcaaKaj
import Derived.Test.YtfjdiofipbchcaaKaf
import Derived.Test.YtfjdiofipbchcaaKah
namespace Go.AW
open Go
set_option linter.unusedSimpArgs false
set_option linter.unusedVariables false
set_option maxHeartbeats 1000000
def twoP (k : Int) (a b : PlanD) : PlanD:=.mk k 0 0 0 ByteArray.empty [] [a,b]
def selP (k i j : Int) (a : PlanD) : PlanD:=.mk k 0 i j ByteArray.empty [] [a]
def colP (a : PlanD) (cols : List Int) : PlanD:=.mk 5 0 0 0 ByteArray.empty cols [a]
theorem names_sub {l r : Names} (h : ∀ x ∈ r,x ∈ l) (hl : oneW l = true) : oneW r = true:=by
 rw [oneW_iff] at hl ⊢
 have key : ∀ x ∈ l,∀ y ∈ l,x.1 = y.1 → x.2 = y.2:=by
  intro x hx y hy e
  obtain ⟨i,hi⟩:=List.getElem?_of_mem hx
  obtain ⟨j,hj⟩:=List.getElem?_of_mem hy
  obtain ⟨hi1,rfl⟩:=List.getElem?_eq_some_iff.1 hi
  obtain ⟨hj1,rfl⟩:=List.getElem?_eq_some_iff.1 hj
  have hp:=List.pairwise_iff_getElem.1 hl
  rcases Nat.lt_trichotomy i j with h | rfl | h
  ·exact hp i j hi1 hj1 h e
  ·rfl
  ·exact (hp j i hj1 hi1 h e.symm).symm
 rw [List.pairwise_iff_getElem]
 intro i j hi hj _ e
 exact key _ (h _ (List.getElem_mem hi)) _ (h _ (List.getElem_mem hj)) e
theorem wid2 {a b : PlanD} (ha : 0 ≤ widthR a) (hb : 0 ≤ widthR b) : widthsR [a,b] = some [widthR a,widthR b]:=by
 simp only [widthsR];rw [if_neg (by omega),if_neg (by omega)]
theorem wid1 {a : PlanD} (ha : 0 ≤ widthR a) : widthsR [a] = some [widthR a]:=by
 simp only [widthsR];rw [if_neg (by omega)]
theorem w_join {a b : PlanD} (ha : 0 ≤ widthR a) (hb : 0 ≤ widthR b) (h : widthR a + widthR b ≤ 12) : widthR (twoP 4 a b) = widthR a + widthR b:=by
 rw [widthR_eq]
 simp only [twoP,PlanD.kids,wid2 ha hb]
 have ho : outF (.mk 4 0 0 0 ByteArray.empty [] [a,b]) [widthR a,widthR b] = widthR a + widthR b:=by
  unfold outF
  simp [PlanD.kind,PlanD.cols,PlanD.i,PlanD.j,PlanD.name,PlanD.width]
 rw [ho]
 unfold capW
 rw [if_neg (by omega)]
theorem w_join_inv {a b : PlanD} (h : 0 ≤ widthR (twoP 4 a b)) : 0 ≤ widthR a ∧ 0 ≤ widthR b ∧ widthR a + widthR b ≤ 12:=by
 have ha:=width_kid h a (by simp [twoP,PlanD.kids])
 have hb:=width_kid h b (by simp [twoP,PlanD.kids])
 refine ⟨ha,hb,?_⟩
 have hl:=(widthR_le (twoP 4 a b)).2
 cases node_of h with
 | join x y e hk h1 h2 hw =>
  simp only [twoP,PlanD.kids,List.cons.injEq,and_true] at hk
  obtain ⟨rfl,rfl⟩:=hk
  omega
 | rel e=>cases e
 | all e=>cases e
 | pick x e=>rcases e with e | e<;>cases e
 | project x e=>cases e
 | two x y e=>rcases e with e | e<;>cases e
theorem w_two {k : Int} (hk : k = 6 ∨ k = 7) {a b : PlanD} (ha : 0 ≤ widthR a) (hab : widthR a = widthR b) : widthR (twoP k a b) = widthR a:=by
 have hl:=(widthR_le a).2
 rw [widthR_eq]
 simp only [twoP,PlanD.kids,wid2 ha (hab ▸ ha)]
 have ho : outF (.mk k 0 0 0 ByteArray.empty [] [a,b]) [widthR a,widthR b] = widthR a:=by
  unfold outF
  rcases hk with rfl | rfl<;>simp [PlanD.kind,PlanD.cols,PlanD.i,PlanD.j,PlanD.name,PlanD.width,hab]
 rw [ho]
 unfold capW
 rw [if_neg (by omega)]
theorem w_sel {k i j : Int} (hk : k = 2 ∨ k = 3) {a : PlanD} (ha : 0 ≤ widthR a) (hi : 0 ≤ i ∧ i < widthR a) (hj : 0 ≤ j ∧ j < widthR a) : widthR (selP k i j a) = widthR a:=by
 have hl:=(widthR_le a).2
 have hin : insideF (widthR a) [i,j] = true:=(insideF_iff _ _).2 fun c hc=>by
  simp only [List.mem_cons,List.not_mem_nil,or_false] at hc
  rcases hc with rfl | rfl
  ·exact hi
  ·exact hj
 rw [widthR_eq]
 simp only [selP,PlanD.kids,wid1 ha]
 have ho : outF (.mk k 0 i j ByteArray.empty [] [a]) [widthR a] = widthR a:=by
  unfold outF
  rcases hk with rfl | rfl<;>simp [PlanD.kind,PlanD.cols,PlanD.i,PlanD.j,PlanD.name,PlanD.width,hin]
 rw [ho]
 unfold capW
 rw [if_neg (by omega)]
theorem w_col {g : PlanD} {cols : List Int} (hg : 0 ≤ widthR g) (hc : ∀ c ∈ cols,0 ≤ c ∧ c < widthR g) (hl : cols.length ≤ 12) : widthR (colP g cols) = cols.length:=by
 have hin : insideF (widthR g) cols = true:=(insideF_iff _ _).2 hc
 rw [widthR_eq]
 simp only [colP,PlanD.kids,wid1 hg]
 have ho : outF (.mk 5 0 0 0 ByteArray.empty cols [g]) [widthR g] = cols.length:=by
  unfold outF
  simp only [PlanD.kind,PlanD.cols,PlanD.i,PlanD.j,PlanD.name,PlanD.width,List.length_singleton,List.getD_cons_zero,hin]
  simp
 rw [ho]
 unfold capW
 rw [if_neg (by omega)]
theorem s_two {k : Int} (hk : k ≠ 0) (a b : PlanD) : symsF (twoP k a b) = symsF a ++ symsF b:=by
 rw [symsF_eq,if_neg (by simpa [twoP,PlanD.kind] using hk)]
 simp [twoP,PlanD.kids,symsL]
theorem s_sel {k i j : Int} (hk : k ≠ 0) (a : PlanD) : symsF (selP k i j a) = symsF a:=by
 rw [symsF_eq,if_neg (by simpa [selP,PlanD.kind] using hk)]
 simp [selP,PlanD.kids,symsL]
theorem s_col (a : PlanD) (cs : List Int) : symsF (colP a cs) = symsF a:=by
 rw [symsF_eq,if_neg (by simp [colP,PlanD.kind])]
 simp [colP,PlanD.kids,symsL]
theorem c_two (k : Int) (a b : PlanD) : cntF (twoP k a b) = 1 + cntF a + cntF b:=by
 rw [cntF_eq];simp [twoP,PlanD.kids,cntL];omega
theorem c_sel (k i j : Int) (a : PlanD) : cntF (selP k i j a) = 1 + cntF a:=by
 rw [cntF_eq];simp [selP,PlanD.kids,cntL]
theorem c_col (a : PlanD) (cs : List Int) : cntF (colP a cs) = 1 + cntF a:=by
 rw [cntF_eq];simp [colP,PlanD.kids,cntL]
theorem valid_of {p : PlanD} (hc : cntF p ≤ 1000) (hw : 0 ≤ widthR p) (hs : oneW (symsF p) = true) : validR p = true:=by
 have:=deepF_le p
 unfold validR
 rw [decide_eq_true (by omega),decide_eq_true (by omega),decide_eq_true hw,hs];rfl
def equivF (p q : PlanD) (s : StrD) : Bool:=checkF p s == 5 || checkF q s == 5 || (checkF p s == checkF q s && decide (outR p s = outR q s))
theorem equiv_of {p q : PlanD} {s : StrD} (hv : validF s = true) (h1 : validR p = true) (h2 : validR q = true) (f1 : fitsF (symsF p) s = true) (f2 : fitsF (symsF q) s = true) (hval : checkF p s = 0 → checkF q s = 0 → valF s p = valF s q) : equivF p q s = true:=by
 have key : ∀ r : PlanD,validR r = true → fitsF (symsF r) s = true → checkF r s = 5 ∨ checkF r s = 0:=by
  intro r hr hf
  unfold checkF
  rw [hr,hv,hf]
  simp only [Bool.not_true,Bool.or_self,Bool.false_eq_true,if_false]
  rw [if_neg (by decide)]
  split
  ·exact .inl rfl
  ·exact .inr rfl
 unfold equivF
 rcases key p h1 f1 with e1 | e1
 ·rw [e1];rfl
 ·rcases key q h2 f2 with e2 | e2
  ·rw [e2];simp
  ·rw [e1,e2,outR_ok e1,outR_ok e2,hval e1 e2];simp
theorem fits_app {s : StrD} {l r : Names} (h1 : fitsF l s = true) (h2 : fitsF r s = true) : fitsF (l ++ r) s = true:=by
 unfold fitsF at *;rw [List.all_append,h1,h2];rfl
section
variable {s : StrD} {a b c : PlanD}
theorem v_join (a b : PlanD) : valF s (twoP 4 a b) = joinF (valF s a) (valF s b):=by
 rw [valF_eq];rfl
theorem v_union (a b : PlanD) : valF s (twoP 6 a b) = unionF (valF s a) (valF s b):=by
 rw [valF_eq];rfl
theorem v_minus (a b : PlanD) : valF s (twoP 7 a b) = minusF (valF s a) (valF s b):=by
 rw [valF_eq];rfl
theorem v_same (i j : Int) (a : PlanD) : valF s (selP 2 i j a) = (valF s a).filter fun t=>t.getD i.toNat 0 == t.getD j.toNat 0:=by
 rw [valF_eq];rfl
theorem v_less (i j : Int) (a : PlanD) : valF s (selP 3 i j a) = (valF s a).filter fun t=>decide (t.getD i.toNat 0 < t.getD j.toNat 0):=by
 rw [valF_eq];rfl
theorem v_col (a : PlanD) (cs : List Int) : valF s (colP a cs) = sortT ((valF s a).map (placesF cs)):=by
 rw [valF_eq];rfl
theorem join_assoc (A B C : List (List Int)) : joinF (joinF A B) C = joinF A (joinF B C):=by
 unfold joinF
 rw [List.flatMap_assoc]
 congr 1
 funext t
 rw [List.flatMap_map,List.map_flatMap]
 congr 1
 funext u
 rw [List.map_map]
 congr 1
 funext v
 simp
theorem sortT_memeq {a b : List (List Int)} (h : ∀ t,t ∈ a ↔ t ∈ b) : sortT a = sortT b:=up_ext (sortT_up a) (sortT_up b) fun t=>by rw [sortT_mem,sortT_mem,h]
theorem col_union (A B : List (List Int)) (cs : List Int) : sortT ((unionF A B).map (placesF cs)) = unionF (sortT (A.map (placesF cs))) (sortT (B.map (placesF cs))):=by
 unfold unionF
 refine sortT_memeq fun t=>?_
 simp only [List.mem_map,sortT_mem,List.mem_append]
 constructor
 ·rintro ⟨u,hu | hu,rfl⟩
  ·exact .inl ⟨u,hu,rfl⟩
  ·exact .inr ⟨u,hu,rfl⟩
 ·rintro (⟨u,hu,rfl⟩ | ⟨u,hu,rfl⟩)
  ·exact ⟨u,.inl hu,rfl⟩
  ·exact ⟨u,.inr hu,rfl⟩
theorem minus_union (A B C : List (List Int)) : minusF (minusF A B) C = minusF A (unionF B C):=by
 unfold minusF
 rw [List.filter_filter]
 refine List.filter_congr fun t _=>?_
 simp only [unionF,sortT_mem,List.mem_append]
 by_cases h1 : t ∈ B<;>by_cases h2 : t ∈ C<;>simp [h1,h2]
theorem filter_comm (A : List (List Int)) (f g : List Int → Bool) : (A.filter f).filter g = (A.filter g).filter f:=by
 rw [List.filter_filter,List.filter_filter]
 exact List.filter_congr fun t _=>Bool.and_comm _ _
end
end Go.AW
namespace Go.AW
open Go
set_option linter.unusedSimpArgs false
set_option linter.unusedVariables false
theorem D_skip {P : Program} {n : Nat} {gd : List (Option Nat)} {tk : List Nat} {K : St → Prop} {s : St} {o : Oper} {rest : List Oper} {j t : Nat} {want h0 x : Bool} (hg : o.guard = some (j,want)) (hj : gd.getD j none = some t)
  (hx : gv (s.t t) = some (h0,x)) (ht : (h0 && x == want) = false) (hd : dstOk n o.dst = true) (hq : isQ tk o = true) (hK : D P n gd tk rest K (s.put o.dst (.gd false .any))) : D P n gd tk (o :: rest) K s:=by
 simp only [D,hq,if_true]
 refine ⟨.gd false .any,?_,hK⟩
 unfold Val
 rw [hg]
 exact ⟨hd,t,h0,x,hj,hx,.inr ⟨[],.any,fun e=>(by rw [ht] at e;cases e),rfl,(by rw [ht])⟩⟩
theorem tab_LeE {t : Nat → AV} {l : List (Nat × AV)} (h : ∀ x ∈ l,Le (t x.1) x.2) (k : Nat) : Le (t k) (tab l k):=by
 unfold tab
 cases hf : l.find? (fun x=>x.1 == k) with
 | none=>exact Le.any _
 | some x =>
  have h1:=List.find?_some hf
  have h2:=List.mem_of_find?_eq_some hf
  simp only [beq_iff_eq] at h1
  rw [← h1]
  exact h x h2
theorem W_tab {P : Program} {n : Nat} {c : Code} {Q : Exit → St → Prop} {t : Nat → AV} {o : List Ob} (l : List (Nat × AV)) (h : ∀ x ∈ l,Le (t x.1) x.2) (hw : W P n c Q ⟨tab l,o⟩) : W P n c Q ⟨t,o⟩ :=
 W_weak (s':=⟨tab l,o⟩) (tab_LeE h) rfl hw
end Go.AW
namespace Go.AW
open Go
set_option linter.unusedSimpArgs false
set_option linter.unusedVariables false
theorem okO_setX {o : List Ob} {i : Nat} {x : Ob} (h : okO o = true) (hx : x.ltk o.length = true) : okO (o.set i x) = true:=by
 unfold okO at h ⊢
 rw [List.length_set,List.all_eq_true]
 rw [List.all_eq_true] at h
 intro y hy
 rcases List.mem_or_eq_of_mem_set hy with hy | rfl
 ·exact h y hy
 ·exact hx
structure I3 (ext : List (Nat × AV)) (PRE : List Ob) (v : List AV) (Z : Ob) (B : Nat → Ob) (d : Nat → Bool) (x : St) : Prop where
 ext : ∀ y ∈ ext,x.t y.1 = y.2
 ok : okO x.o = true
 len : PRE.length ≤ x.o.length
 pre : ∀ (i : Nat) (y : Ob),PRE[i]? = some y → x.o[i]? = some y
 v : ∀ i < 9,d i = true → x.t (36 + i) = v.getD i .any
 box : ∃ J : Nat → Nat,(∀ e < 3,d (9 + e) = true → x.t (7 + e) = .ptr (J e) 0 0 ∧ PRE.length ≤ J e ∧ x.o[J e]? = some (if d (12 + e) = true then B e else Z)) ∧
  ∀ e < 3,∀ e' < 3,e ≠ e' → d (9 + e) = true → d (9 + e') = true → J e ≠ J e'
 c : ∀ e < 3,d (12 + e) = true → d (9 + e) = true
section
variable {ext : List (Nat × AV)} {PRE : List Ob} {v : List AV} {Z : Ob} {B : Nat → Ob} {d : Nat → Bool} {t : Nat → AV} {o : List Ob}
theorem I3.init (h1 : ∀ y ∈ ext,t y.1 = y.2) (h2 : okO o = true) : I3 ext o v Z B (fun j=>decide (15 ≤ j)) ⟨t,o⟩ :=
 ⟨h1,h2,Nat.le_refl _,fun _ _ h=>h,fun i hi h=>by simp at h;omega,⟨fun _=>0,fun e he h=>by simp at h;omega,fun e he e' he' _ h=>by simp at h;omega⟩,fun e he h=>by simp at h;omega⟩
theorem I3.quiet (h : I3 ext PRE v Z B d ⟨t,o⟩) (i : Nat) (hi : i < 9) (hb : (ext.all fun y=>y.1 != 36 + i) = true) :
  I3 ext PRE v Z B (fun j=>d j || j == i) ⟨upd t (36 + i) (v.getD i .any),o⟩:=by
 obtain ⟨h1,h2,h3,h4,h5,⟨J,h6,h7⟩,hc⟩:=h
 rw [List.all_eq_true] at hb
 have en : ∀ k,9 ≤ k → (k == i) = false:=fun k hk=>by simp;omega
 refine ⟨fun y hy=>?_,h2,h3,h4,fun j hj hd=>?_,⟨J,fun e he hd=>?_,fun e he e' he' hne hd hd'=>?_⟩,fun e he hd=>by
  simp only [en (9 + e) (by omega),en (12 + e) (by omega),Bool.or_false] at hd ⊢
  exact hc e he hd⟩
 ·have:=hb y hy
  show upd t (36 + i) _ y.1 = _
  rw [upd_ne _ _ _ (by simpa using this)];exact h1 y hy
 ·show upd t (36 + i) _ (36 + j) = _
  by_cases e : j = i
  ·subst e;rw [upd_same]
  ·rw [upd_ne _ _ _ (by omega)]
   have : (j == i) = false:=by simpa using e
   simp only [this,Bool.or_false] at hd
   exact h5 j hj hd
 ·simp only [en (9 + e) (by omega),en (12 + e) (by omega),Bool.or_false] at hd ⊢
  obtain ⟨a,b,c⟩:=h6 e he hd
  exact ⟨by show upd t (36 + i) _ (7 + e) = _;rw [upd_ne _ _ _ (by omega)];exact a,b,c⟩
 ·simp only [en (9 + e) (by omega),en (9 + e') (by omega),Bool.or_false] at hd hd'
  exact h7 e he e' he' hne hd hd'
theorem I3.alloc (h : I3 ext PRE v Z B d ⟨t,o⟩) (a : Nat) (ha : a < 3) (hd0 : d (9 + a) = false) (hb : (ext.all fun y=>y.1 != 7 + a) = true) (hz : Z.ltk 0 = true) :
  I3 ext PRE v Z B (fun j=>d j || j == 9 + a) ⟨upd t (7 + a) (.ptr o.length 0 0),o ++ [Z]⟩:=by
 obtain ⟨h1,h2,h3,h4,h5,⟨J,h6,h7⟩,hc⟩:=h
 rw [List.all_eq_true] at hb
 have hs0 : d (12 + a) = false:=by
  cases h : d (12 + a) with
  | false=>rfl
  | true=>have:=hc a ha h;rw [hd0] at this;cases this
 have hlt : ∀ e < 3,d (9 + e) = true → J e < o.length:=fun e he hd=>(List.getElem?_eq_some_iff.1 (h6 e he hd).2.2).1
 refine ⟨fun y hy=>?_,okO_app h2 (by simp only [List.all_cons,List.all_nil,Bool.and_true];exact Ob.ltk_mono (Nat.zero_le _) _ hz),by have : PRE.length ≤ o.length:=h3;show PRE.length ≤ (o ++ [Z]).length;simp;omega,fun i y hy=>app_get _ (h4 i y hy),fun j hj hd=>?_,⟨fun e=>if e = a then o.length else J e,fun e he hd=>?_,fun e he e' he' hne hd hd'=>?_⟩,fun e he hd=>by
  have e12 : (12 + e == 9 + a) = false:=by simp;omega
  simp only [e12,Bool.or_false] at hd
  have:=hc e he hd
  simp [this]⟩
 ·have:=hb y hy
  show upd t (7 + a) _ y.1 = _
  rw [upd_ne _ _ _ (by simpa using this)];exact h1 y hy
 ·show upd t (7 + a) _ (36 + j) = _
  rw [upd_ne _ _ _ (by omega)]
  have : (j == 9 + a) = false:=by simp;omega
  simp only [this,Bool.or_false] at hd
  exact h5 j hj hd
 ·have e12 : (12 + e == 9 + a) = false:=by simp;omega
  simp only [e12,Bool.or_false]
  by_cases hea : e = a
  ·subst hea
   rw [if_pos rfl,hs0]
   exact ⟨by show upd t (7 + e) _ (7 + e) = _;rw [upd_same],h3,by simp⟩
  ·rw [if_neg hea]
   have e9 : (9 + e == 9 + a) = false:=by simp;omega
   simp only [e9,Bool.or_false] at hd
   obtain ⟨q1,q2,q3⟩:=h6 e he hd
   exact ⟨by show upd t (7 + a) _ (7 + e) = _;rw [upd_ne _ _ _ (by omega)];exact q1,q2,app_get _ q3⟩
 ·show (if e = a then o.length else J e) ≠ (if e' = a then o.length else J e')
  by_cases h1' : e = a
  ·subst h1'
   have e9 : (9 + e' == 9 + e) = false:=by simp;omega
   simp only [e9,Bool.or_false] at hd'
   have:=hlt e' he' hd'
   rw [if_pos rfl,if_neg (fun h=>hne h.symm)];omega
  ·have e9 : (9 + e == 9 + a) = false:=by simp;omega
   simp only [e9,Bool.or_false] at hd
   rw [if_neg h1']
   by_cases h2' : e' = a
   ·rw [if_pos h2']
    have:=hlt e he hd
    omega
   ·have e9' : (9 + e' == 9 + a) = false:=by simp;omega
    simp only [e9',Bool.or_false] at hd'
    rw [if_neg h2']
    exact h7 e he e' he' hne hd hd'
theorem I3.store (h : I3 ext PRE v Z B d ⟨t,o⟩) (a : Nat) (ha : a < 3) (hd0 : d (9 + a) = true) (hs0 : d (12 + a) = false) (hz : (B a).ltk 0 = true) :
  ∃ j,t (7 + a) = .ptr j 0 0 ∧ o[j]? = some Z ∧ I3 ext PRE v Z B (fun k=>d k || k == 12 + a) ⟨t,o.set j (B a)⟩:=by
 obtain ⟨h1,h2,h3,h4,h5,⟨J,h6,h7⟩,hc⟩:=h
 obtain ⟨a1,a2,a3⟩:=h6 a ha hd0
 rw [hs0] at a3
 have hlt:=(List.getElem?_eq_some_iff.1 a3).1
 refine ⟨J a,a1,a3,h1,okO_setX h2 (Ob.ltk_mono (Nat.zero_le _) _ hz),by simpa using h3,fun i y hy=>?_,fun j hj hd=>?_,⟨J,fun e he hd=>?_,fun e he e' he' hne hd hd'=>?_⟩,fun e he hd=>?_⟩
 ·have hi:=(List.getElem?_eq_some_iff.1 hy).1
  show (o.set (J a) _)[i]? = _
  rw [List.getElem?_set_ne (by omega)];exact h4 i y hy
 ·have : (j == 12 + a) = false:=by simp;omega
  simp only [this,Bool.or_false] at hd
  exact h5 j hj hd
 ·have e9 : (9 + e == 12 + a) = false:=by simp;omega
  simp only [e9,Bool.or_false] at hd
  obtain ⟨q1,q2,q3⟩:=h6 e he hd
  refine ⟨q1,q2,?_⟩
  show (o.set (J a) _)[J e]? = _
  by_cases hea : e = a
  ·subst hea
   rw [List.getElem?_set_self hlt]
   simp
  ·rw [List.getElem?_set_ne (h7 a ha e he (fun h=>hea h.symm) hd0 hd)]
   have e12 : (12 + e == 12 + a) = false:=by simp;omega
   simp only [e12,Bool.or_false]
   exact q3
 ·have e9 : (9 + e == 12 + a) = false:=by simp;omega
  have e9' : (9 + e' == 12 + a) = false:=by simp;omega
  simp only [e9,e9',Bool.or_false] at hd hd'
  exact h7 e he e' he' hne hd hd'
 ·have e9 : (9 + e == 12 + a) = false:=by simp;omega
  simp only [e9,Bool.or_false]
  by_cases hea : e = a
  ·subst hea;exact hd0
  ·have e12 : (12 + e == 12 + a) = false:=by simp;omega
   simp only [e12,Bool.or_false] at hd
   exact hc e he hd
end
end Go.AW
namespace Go.AW
open Go Go.Proofs TyTry Go.IntWalk
set_option linter.unusedSimpArgs false
set_option linter.unusedVariables false
set_option maxRecDepth 100000
set_option maxHeartbeats 1000000
def nmE : ByteArray:=⟨#[69]⟩
def sA : StrD:=⟨3,[⟨nmE,2,[[0,1],[1,2]]⟩]⟩
def pE : PlanD:=.mk 0 2 0 0 nmE [] []
def pJ : PlanD:=.mk 4 0 0 0 ⟨#[]⟩ [] [pE,pE]
def pS : PlanD:=.mk 2 0 1 2 ⟨#[]⟩ [] [pJ]
def pP : PlanD:=.mk 5 0 0 0 ⟨#[]⟩ [0,3] [pS]
theorem find_run : ACallsD Try.prog 36 [.agg sA.cells,.s nmE,.i .i64 2] (.i .i64 0):=run0 (k:=60) (by kernel_rfl)
theorem svalid_run : ACallsD Try.prog 35 [.agg sA.cells] (.b true):=run0 (k:=200) (by kernel_rfl)
theorem large_run : ACallsD Try.prog 37 [.agg pP.cells,.i .i64 3] (.b false):=run0 (k:=200) (by kernel_rfl)
theorem clone_run : ACallsD Try.prog 40 [.sl 1 (ints [0,2])] (.sl 1 (ints [0,2])):=(run0 (r:=.own 1 (ints [0,2])) (k:=60) (by kernel_rfl)).le (Le.dat _ _)
def jRows : List (List Int):=[[0,1,0,1],[0,1,1,2],[1,2,0,1],[1,2,1,2]]
theorem pick_run : ACallsD Try.prog 59 [.any,.agg pS.cells,.sl 1 (kid3 [jRows])] (.sl 1 (tups [[0,1,1,2]])):=run0 (k:=100) (by kernel_rfl)
theorem walk_run : walkF pP 1 0 [] = some (2,5,[(nmE,2)]):=by kernel_rfl
theorem runs_E : Runs sA pE [[0,1],[1,2]]:=by
 refine run_step sA pE [] _ (by decide) (by decide) rfl (fun i x l h=>by cases h) ?_
 exact rel_spec (k:=0) (r:=⟨nmE,2,[[0,1],[1,2]]⟩) (by decide) rfl find_run rfl
theorem runs_J : Runs sA pJ jRows:=by
 refine run_step sA pJ [[[0,1],[1,2]],[[0,1],[1,2]]] _ (by decide) (by decide) rfl (fun i x l h h2=>?_) ?_
 ·match i,h,h2 with
  | 0,h,h2=>cases h;cases h2;exact runs_E
  | 1,h,h2=>cases h;cases h2;exact runs_E
 ·exact meth_join _ _ rfl (by decide) (by decide) (by decide) (by decide) (by decide)
theorem runs_S : Runs sA pS [[0,1,1,2]]:=by
 refine run_step sA pS [jRows] _ (by decide) (by decide) rfl (fun i x l h h2=>?_) ?_
 ·match i,h,h2 with
  | 0,h,h2=>cases h;cases h2;exact runs_J
 ·exact meth_any pick_run
theorem runs_P : Runs sA pP [[0,2]]:=by
 refine run_step sA pP [[[0,1,1,2]]] _ (by decide) (by decide) rfl (fun i x l h h2=>?_) ?_
 ·match i,h,h2 with
  | 0,h,h2=>cases h;cases h2;exact runs_S
 ·exact meth_project _ _ rfl (fun _=>sorted1_spec [0,2]) (by intro h;cases h) (by decide) (by decide) (by decide) (by decide)
theorem pP_sm : pP.Sm:=sm_of_weigh (most:=1000) (by decide) pP 0 (by decide +kernel)
theorem arun_spec : ACallsD Try.prog 24 [.agg pP.cells,.agg sA.cells] (.tup [.sl 1 (tups [[0,2]]),.i .i64 0]):=by
 have h:=prun_spec pP pP_sm sA true (fun _ _=>0) false [[0,2]] svalid_run (fun _ w n ws h x hx=>?_) (fun _ _=>large_run) (fun _ _ _ _ _ _ _=>runs_P) (by decide) (fun x hx=>?_)
 ·rw [walk_run] at h;exact h
 ·rw [walk_run] at h
  cases h
  cases hx with
  | head=>exact find_run
  | tail _ h=>cases h
 ·cases hx with
  | head=>exact clone_run
  | tail _ h=>cases h
theorem arel_run : ACallsD Try.prog 25 [.s nmE,.i .i64 2] (.agg pE.cells):=run0 (k:=60) (by kernel_rfl)
theorem atwo_run : ACallsD Try.prog 14 [.i .i64 4,.agg pE.cells,.agg pE.cells] (.agg pJ.cells):=run0 (k:=60) (by kernel_rfl)
theorem achosen_run : ACallsD Try.prog 17 [.i .i64 2,.i .i64 1,.i .i64 2,.agg pJ.cells] (.agg pS.cells):=run0 (k:=60) (by kernel_rfl)
theorem aproject_run : ACallsD Try.prog 18 [.agg pS.cells,.sl 1 (ints [0,3])] (.agg pP.cells):=run0 (k:=60) (by kernel_rfl)
theorem aequal_run : ACallsD Try.prog 26 [.sl 1 (ints [0,2]),.sl 1 (ints [0,2])] (.b true):=run0 (k:=60) (by kernel_rfl)
theorem alive_spec : ACallsD Try.prog 8 [] (.b true):=by
 have ht : tups [[0,2]] = [[.sl 1 (ints [0,2])]]:=rfl
 refine ACalls_of' (n:=35) (rs:=[.tmp 0]) (show Try.prog.funcs[8]? = some Try.f8 by kernel_rfl) rfl rfl rfl (by simp) (by decide +kernel) ?_
 repeat (first | refine nav ?_ | refine bo ?_)
 (refine wr fun K R hK hR=>?_;simp only [go_sem];(try go_ints);(repeat refine And.intro side ?_);(first|refine hK _ ?_|refine hR _ _ ?_);clear hK hR K R)
 repeat (first | refine nav ?_ | refine bo ?_)
 (refine wr fun K R hK hR=>?_;simp only [go_sem];(try go_ints);(repeat refine And.intro side ?_);(first|refine hK _ ?_|refine hR _ _ ?_);clear hK hR K R)
 repeat (first | refine nav ?_ | refine bo ?_)
 (refine W_dreg (by decide +kernel) [] [0,1,2,3,4,5,6,7,8,9,10,11,12] [[],[0],[1,0],[0,1,2],[],[4,2,1,0,3],[],[6,3,0,1,2,4,5],[5,4,2,1,0,3,6,7],[7,6,3,0,1,2,4,5,8],[7,6,3,0,1,2,4,5,8],[8,5,4,2,1,0,3,6,7,9],[9,11,8,5,4,2,1,0,3,6,7,10]] (by decide +kernel) rfl fun K R hK hR=>?_;simp only [List.filterMap_cons,List.filterMap_nil,List.getElem?_cons_zero,List.getElem?_cons_succ,List.cons_append,List.nil_append];simp only [go_sem];(try go_ints);(repeat refine And.intro side ?_);(first|refine hK _ ?_|refine hR _ _ ?_);clear hK hR K R)
 refine D_callD (arel_run) rfl rfl rfl (by first | (simp only [go_sem]<;>first | exact LeA.refl _ | exact Le.refl _) | exact LeA.refl _) rfl rfl rfl rfl ?_
 (refine D_reg fun K R hK hR=>?_;simp only [go_sem];(try go_ints);(repeat refine And.intro side ?_);(first|refine hK _ ?_|refine hR _ _ ?_);clear hK hR K R)
 refine D_callD (arel_run) rfl rfl rfl (by first | (simp only [go_sem]<;>first | exact LeA.refl _ | exact Le.refl _) | exact LeA.refl _) rfl rfl rfl rfl ?_
 (refine D_reg fun K R hK hR=>?_;simp only [go_sem];(try go_ints);(repeat refine And.intro side ?_);(first|refine hK _ ?_|refine hR _ _ ?_);clear hK hR K R)
 refine D_callD (atwo_run) rfl rfl rfl (by first | (simp only [go_sem]<;>first | exact LeA.refl _ | exact Le.refl _) | exact LeA.refl _) rfl rfl rfl rfl ?_
 (refine D_reg fun K R hK hR=>?_;simp only [go_sem];(try go_ints);(repeat refine And.intro side ?_);(first|refine hK _ ?_|refine hR _ _ ?_);clear hK hR K R)
 refine D_callD (achosen_run) rfl rfl rfl (by first | (simp only [go_sem]<;>first | exact LeA.refl _ | exact Le.refl _) | exact LeA.refl _) rfl rfl rfl rfl ?_
 (refine D_reg fun K R hK hR=>?_;simp only [go_sem];(try go_ints);(repeat refine And.intro side ?_);(first|refine hK _ ?_|refine hR _ _ ?_);clear hK hR K R)
 refine D_callD (aproject_run) rfl rfl rfl (by first | (simp only [go_sem]<;>first | exact LeA.refl _ | exact Le.refl _) | exact LeA.refl _) rfl rfl rfl rfl ?_
 (refine D_reg fun K R hK hR=>?_;simp only [go_sem];(try go_ints);(repeat refine And.intro side ?_);(first|refine hK _ ?_|refine hR _ _ ?_);clear hK hR K R)
 refine D_callD (arun_spec) rfl rfl rfl (by first | (simp only [go_sem]<;>first | exact LeA.refl _ | exact Le.refl _) | exact LeA.refl _) rfl rfl rfl rfl ?_
 (refine D_reg fun K R hK hR=>?_;simp only [go_sem];(try go_ints);(repeat refine And.intro side ?_);(first|refine hK _ ?_|refine hR _ _ ?_);clear hK hR K R)
 repeat (first | refine nav ?_ | refine bo ?_)
 (refine wr fun K R hK hR=>?_;simp only [go_sem,ht];(try go_ints);(try simp only [go_sem,ht]);(repeat refine And.intro side ?_);(first|refine hK _ ?_|refine hR _ _ ?_);clear hK hR K R)
 refine RL_callDg rfl (by simp only [go_sem]<;>exact rfl) (fun e=>aequal_run) rfl rfl rfl (fun e=>by (try simp only [go_sem] at e);simp only [go_sem,e]<;>(try simp only [go_sem])<;>first | exact LeA.refl _ | exact Le.refl _) rfl rfl ?_
 (refine rr fun K R hK hR=>?_;simp only [go_sem];(try go_ints);(repeat refine And.intro side ?_);(first|refine hK _ ?_|refine hR _ _ ?_);clear hK hR K R)
 repeat (first | refine nav ?_ | refine bo ?_)
 refine endQ_data (by simp only [go_sem]<;>exact rfl) (Le.of_eq ?_) rfl
 rfl
end Go.AW
namespace Go.AW
open Go Go.Proofs TyTry Go.IntWalk
set_option linter.unusedSimpArgs false
set_option linter.unusedVariables false
set_option maxRecDepth 10000
set_option maxHeartbeats 4000000
theorem pwidth_spec (p : PlanD) (hp : p.Sm) : ACallsD Try.prog 9 [.agg p.cells] (.i .i64 (match walkF p 1 0 [] with | some (w,_,_)=>w | none=>-1)):=by
 have hcx:=p.cells_eq
 have hw:=walked_spec p hp [boxP p] rfl
 rw [hcx] at hw ⊢
 refine ACalls_of' (n:=15) (rs:=[.tmp 2]) (show Try.prog.funcs[9]? = some Try.f9 by kernel_rfl) rfl rfl rfl (by simp) (by decide +kernel) ?_
 repeat (first | refine nav ?_ | refine bo ?_)
 (refine wr fun K R hK hR=>?_;simp only [go_sem];(try go_ints);(repeat refine And.intro side ?_);(first|refine hK _ ?_|refine hR _ _ ?_);clear hK hR K R)
 repeat (first | refine nav ?_ | refine bo ?_)
 (refine wr fun K R hK hR=>?_;simp only [go_sem];(try go_ints);(repeat refine And.intro side ?_);(first|refine hK _ ?_|refine hR _ _ ?_);clear hK hR K R)
 refine RL_callE hw (fun r o' h=>h.shape) (by simp only [go_sem]<;>exact rfl) rfl rfl (by simp) (by simp only [go_sem]<;>exact LeA.refl _) rfl rfl ?_
 rintro r o2 ⟨K,M,x,rfl,hl,hpre,hres⟩
 cases hwx : walkF p 1 0 [] with
 | none =>
  rw [hwx] at hres
  obtain ⟨n,ws,hw2⟩:=hres
  (refine rr fun K R hK hR=>?_;simp only [go_sem];(try go_ints);(repeat refine And.intro side ?_);(first|refine hK _ ?_|refine hR _ _ ?_);clear hK hR K R)
  repeat (first | refine nav ?_ | refine bo ?_)
  (refine wr fun K R hK hR=>?_;simp only [go_sem,hw2.k];(try go_ints);(try simp only [go_sem,hw2.k]);(repeat refine And.intro side ?_);(first|refine hK _ ?_|refine hR _ _ ?_);clear hK hR K R)
  repeat (first | refine nav ?_ | refine bo ?_)
  refine W_cond (b:=true) (by simp only [go_sem]<;>exact rfl) (fun _=>?_) (fun hb=>by cases hb)
  repeat (first | refine nav ?_ | refine bo ?_)
  (refine wr fun K R hK hR=>?_;simp only [go_sem];(try go_ints);(repeat refine And.intro side ?_);(first|refine hK _ ?_|refine hR _ _ ?_);clear hK hR K R)
  repeat (first | refine nav ?_ | refine bo ?_)
  refine endQ_data (by simp only [go_sem]<;>exact rfl) (Le.of_eq ?_) rfl
  all_goals rfl
 | some y =>
  obtain ⟨w,n,ws⟩:=y
  rw [hwx] at hres
  obtain ⟨rfl,hw2⟩:=hres
  (refine rr fun K R hK hR=>?_;simp only [go_sem];(try go_ints);(repeat refine And.intro side ?_);(first|refine hK _ ?_|refine hR _ _ ?_);clear hK hR K R)
  repeat (first | refine nav ?_ | refine bo ?_)
  (refine wr fun K R hK hR=>?_;simp only [go_sem,hw2.k];(try go_ints);(try simp only [go_sem,hw2.k]);(repeat refine And.intro side ?_);(first|refine hK _ ?_|refine hR _ _ ?_);clear hK hR K R)
  repeat (first | refine nav ?_ | refine bo ?_)
  refine W_cond (b:=false) (by simp only [go_sem]<;>exact rfl) (fun hb=>by cases hb) (fun _=>?_)
  repeat (first | refine nav ?_ | refine bo ?_)
  (refine wr fun K R hK hR=>?_;simp only [go_sem];(try go_ints);(repeat refine And.intro side ?_);(first|refine hK _ ?_|refine hR _ _ ?_);clear hK hR K R)
  repeat (first | refine nav ?_ | refine bo ?_)
  refine endQ_data (by simp only [go_sem]<;>exact rfl) (Le.of_eq ?_) rfl
  all_goals rfl
end Go.AW
namespace Go.AW
open Go Go.Proofs TyTry Go.IntWalk
set_option linter.unusedSimpArgs false
set_option linter.unusedVariables false
set_option maxRecDepth 10000
set_option maxHeartbeats 8000000
theorem ltwo_spec (k : Int) (a b : PlanD) : ACallsD Try.prog 14 [.i .i64 k,.agg a.cells,.agg b.cells] (.agg (twoP k a b).cells):=by
 rw [a.cells_eq,b.cells_eq]
 refine ACalls_of' (n:=12) (rs:=[.cell 6 34]) (show Try.prog.funcs[14]? = some Try.f14 by kernel_rfl) rfl rfl rfl (by simp) (by decide +kernel) ?_
 repeat (first | refine nav ?_ | refine bo ?_)
 (refine wr fun K R hK hR=>?_;simp only [go_sem];(try go_ints);(repeat refine And.intro side ?_);(first|refine hK _ ?_|refine hR _ _ ?_);clear hK hR K R)
 repeat (first | refine nav ?_ | refine bo ?_)
 (refine wr fun K R hK hR=>?_;simp only [go_sem];(try go_ints);(repeat refine And.intro side ?_);(first|refine hK _ ?_|refine hR _ _ ?_);clear hK hR K R)
 repeat (first | refine nav ?_ | refine bo ?_)
 refine endQ_data (by simp only [go_sem]<;>exact rfl) (Le.of_eq ?_) (by rw [PlanD.cells_eq];rfl)
 simp only [twoP,PlanD.cells,PlanD.cellsL,a.cells_eq,b.cells_eq];rfl
theorem lchosen_spec (k i j : Int) (a : PlanD) : ACallsD Try.prog 17 [.i .i64 k,.i .i64 i,.i .i64 j,.agg a.cells] (.agg (selP k i j a).cells):=by
 rw [a.cells_eq]
 refine ACalls_of' (n:=15) (rs:=[.cell 8 34]) (show Try.prog.funcs[17]? = some Try.f17 by kernel_rfl) rfl rfl rfl (by simp) (by decide +kernel) ?_
 repeat (first | refine nav ?_ | refine bo ?_)
 (refine wr fun K R hK hR=>?_;simp only [go_sem];(try go_ints);(repeat refine And.intro side ?_);(first|refine hK _ ?_|refine hR _ _ ?_);clear hK hR K R)
 repeat (first | refine nav ?_ | refine bo ?_)
 (refine wr fun K R hK hR=>?_;simp only [go_sem];(try go_ints);(repeat refine And.intro side ?_);(first|refine hK _ ?_|refine hR _ _ ?_);clear hK hR K R)
 repeat (first | refine nav ?_ | refine bo ?_)
 refine endQ_data (by simp only [go_sem]<;>exact rfl) (Le.of_eq ?_) (by rw [PlanD.cells_eq];rfl)
 simp only [selP,PlanD.cells,PlanD.cellsL,a.cells_eq];rfl
theorem lproject_spec (a : PlanD) (cs : List Int) : ACallsD Try.prog 18 [.agg a.cells,.sl 1 (ints cs)] (.agg (colP a cs).cells):=by
 rw [a.cells_eq]
 refine ACalls_of' (n:=9) (rs:=[.cell 4 34]) (show Try.prog.funcs[18]? = some Try.f18 by kernel_rfl) rfl rfl rfl (by simp) (by decide +kernel) ?_
 repeat (first | refine nav ?_ | refine bo ?_)
 (refine wr fun K R hK hR=>?_;simp only [go_sem];(try go_ints);(repeat refine And.intro side ?_);(first|refine hK _ ?_|refine hR _ _ ?_);clear hK hR K R)
 repeat (first | refine nav ?_ | refine bo ?_)
 (refine wr fun K R hK hR=>?_;simp only [go_sem];(try go_ints);(repeat refine And.intro side ?_);(first|refine hK _ ?_|refine hR _ _ ?_);clear hK hR K R)
 repeat (first | refine nav ?_ | refine bo ?_)
 refine endQ_data (by simp only [go_sem]<;>exact rfl) (Le.of_eq ?_) (by rw [PlanD.cells_eq];rfl)
 simp only [colP,PlanD.cells,PlanD.cellsL,a.cells_eq]
theorem equiv_spec (p q : PlanD) (hp : p.Sm) (hq : q.Sm) (s : StrD) (hs : s.Ok) (hr : s.rels.length ≤ 1000000) : ACallsD Try.prog 16 [.agg p.cells,.agg q.cells,.agg s.cells] (.b (equivF p q s)):=by
 have h1:=run_spec p hp s hs hr
 have h2:=run_spec q hq s hs hr
 have l1:=outR_len p s
 have l2:=outR_len q s
 have hsm:=sameT_spec (outR p s) (outR q s) (by omega) (by omega) (fun t ht=>by have:=l1.2 t ht;omega)
 rw [p.cells_eq] at h1 ⊢
 rw [q.cells_eq] at h2 ⊢
 unfold StrD.cells at h1 h2 ⊢
 refine ACalls_of' (n:=39) (rs:=[.tmp 6]) (show Try.prog.funcs[16]? = some Try.f16 by kernel_rfl) rfl rfl rfl (by simp) (by decide +kernel) ?_
 repeat (first | refine nav ?_ | refine bo ?_)
 (refine wr fun K R hK hR=>?_;simp only [go_sem];(try go_ints);(repeat refine And.intro side ?_);(first|refine hK _ ?_|refine hR _ _ ?_);clear hK hR K R)
 repeat (first | refine nav ?_ | refine bo ?_)
 (refine wr fun K R hK hR=>?_;simp only [go_sem];(try go_ints);(repeat refine And.intro side ?_);(first|refine hK _ ?_|refine hR _ _ ?_);clear hK hR K R)
 refine RL_callF (h1) rfl rfl rfl (by first | (simp only [go_sem]<;>first | exact LeA.refl _ | exact Le.refl _) | exact LeA.refl _) rfl rfl ?_
 (refine rr fun K R hK hR=>?_;simp only [go_sem];(try go_ints);(repeat refine And.intro side ?_);(first|refine hK _ ?_|refine hR _ _ ?_);clear hK hR K R)
 repeat (first | refine nav ?_ | refine bo ?_)
 (refine wr fun K R hK hR=>?_;simp only [go_sem];(try go_ints);(repeat refine And.intro side ?_);(first|refine hK _ ?_|refine hR _ _ ?_);clear hK hR K R)
 refine RL_callF (h2) rfl rfl rfl (by first | (simp only [go_sem]<;>first | exact LeA.refl _ | exact Le.refl _) | exact LeA.refl _) rfl rfl ?_
 (refine rr fun K R hK hR=>?_;simp only [go_sem];(try go_ints);(repeat refine And.intro side ?_);(first|refine hK _ ?_|refine hR _ _ ?_);clear hK hR K R)
 repeat (first | refine nav ?_ | refine bo ?_)
 (refine wr fun K R hK hR=>?_;simp only [go_sem];(try go_ints);(repeat refine And.intro side ?_);(first|refine hK _ ?_|refine hR _ _ ?_);clear hK hR K R)
 refine RL_callDg rfl (by simp only [go_sem]<;>exact rfl) (fun e=>hsm) rfl rfl rfl (fun e=>by (try simp only [go_sem] at e);simp only [go_sem,e]<;>(try simp only [go_sem])<;>first | exact LeA.refl _ | exact Le.refl _) rfl rfl ?_
 (refine rr fun K R hK hR=>?_;simp only [go_sem];(try go_ints);(repeat refine And.intro side ?_);(first|refine hK _ ?_|refine hR _ _ ?_);clear hK hR K R)
 repeat (first | refine nav ?_ | refine bo ?_)
 refine endQ_data (by simp only [go_sem]<;>exact rfl) (Le.of_eq ?_) rfl
 unfold equivF
 rfl
theorem fewL_spec (l : List PlanD) (hl : ∀ p ∈ l,p.Ok) (hll : l.length ≤ 1125899906842624) (most : Nat) (hm : most ≤ 100000) : ACallsD Try.prog 5 [.i .i64 most,.sl 7 (plans l)] (.b (decide (weighL l 0 most ≤ most))):=by
 refine ACalls_of' (n:=28) (rs:=[.tmp 4]) (show Try.prog.funcs[5]? = some Try.f5 by kernel_rfl) rfl rfl rfl (by simp) (by decide +kernel) ?_
 repeat (first | refine nav ?_ | refine bo ?_)
 (refine wr fun K R hK hR=>?_;simp only [go_sem];(try go_ints);(repeat refine And.intro side ?_);(first|refine hK _ ?_|refine hR _ _ ?_);clear hK hR K R)
 repeat (first | refine nav ?_ | refine bo ?_)
 (refine wr fun K R hK hR=>?_;simp only [go_sem];(try go_ints);(repeat refine And.intro side ?_);(first|refine hK _ ?_|refine hR _ _ ?_);clear hK hR K R)
 repeat (first | refine nav ?_ | refine bo ?_)
 (refine wr fun K R hK hR=>?_;simp only [go_sem];(try go_ints);(repeat refine And.intro side ?_);(first|refine hK _ ?_|refine hR _ _ ?_);clear hK hR K R)
 repeat (first | refine nav ?_ | refine bo ?_)
 refine W_for 7 25 [5,6] (fun m t o=>∃ (k m' : Nat),[] = o ∧ t 6 = .i .i64 k ∧ t 5 = .i .i64 m' ∧ m = l.length - k ∧ k ≤ l.length ∧ m' ≤ most + 2 ^ 52 ∧ weighL (l.drop k) m' most = weighL l 0 most) l.length ⟨0,0,rfl,by simp only [go_sem]<;>rfl,by simp only [go_sem]<;>rfl,by omega,by omega,by omega,rfl⟩ ?_
 rintro m t o ⟨k,m',rfl,h6,h5,rfl,hk,hml,hi⟩
 repeat (first | refine nav ?_ | refine bo ?_)
 (refine wr fun K R hK hR=>?_;simp only [go_sem,h6,h5,plans_len];(try go_ints);(try simp only [go_sem,h6,h5,plans_len]);(repeat refine And.intro side ?_);(first|refine hK _ ?_|refine hR _ _ ?_);clear hK hR K R)
 repeat (first | refine nav ?_ | refine bo ?_)
 refine W_cond (by simp only [go_sem]<;>exact rfl) (fun hb=>?_) (fun hb=>?_)
 ·simp only [Bool.and_eq_true,decide_eq_true_eq] at hb
  have hb1 : k < l.length:=by omega
  have hb2 : m' ≤ most:=by omega
  obtain ⟨x,hx⟩ : ∃ x,l[k]? = some x:=⟨_,List.getElem?_eq_getElem hb1⟩
  have hxm:=List.mem_of_getElem? hx
  rw [drop_kids hx,weighL,if_pos hb2] at hi
  have hxl:=weighF_le x m' most (hl x hxm) hb2
  have hwx:=weigh_spec x (hl x hxm) m' most hb2 hm
  rw [x.cells_eq] at hwx
  repeat (first | refine nav ?_ | refine bo ?_)
  (refine wr fun K R hK hR=>?_;simp only [go_sem,h6,h5,plans_get hx,plans_len];(try go_ints);(try simp only [go_sem,h6,h5,plans_get hx,plans_len]);(repeat refine And.intro side ?_);(first|refine hK _ ?_|refine hR _ _ ?_);clear hK hR K R)
  refine RL_callF (hwx) rfl rfl rfl (by first | (simp only [go_sem]<;>first | exact LeA.refl _ | exact Le.refl _) | exact LeA.refl _) rfl rfl ?_
  (refine rr fun K R hK hR=>?_;simp only [go_sem];(try go_ints);(repeat refine And.intro side ?_);(first|refine hK _ ?_|refine hR _ _ ?_);clear hK hR K R)
  repeat (first | refine nav ?_ | refine bo ?_)
  (refine wr fun K R hK hR=>?_;simp only [go_sem,h6];(try go_ints);(try simp only [go_sem,h6]);(repeat refine And.intro side ?_);(first|refine hK _ ?_|refine hR _ _ ?_);clear hK hR K R)
  refine forQ_normal (l.length - (k + 1)) (by omega) ⟨k + 1,weighF x m' most,rfl,by simp only [go_sem]<;>rfl,by simp only [go_sem]<;>rfl,rfl,by omega,hxl,hi⟩
 ·have hb' : ¬ (k < l.length ∧ m' ≤ most):=by simpa using hb
  have hi' : m' = weighL l 0 most:=by
   rcases Nat.lt_or_ge k l.length with hlt | hge
   ·obtain ⟨x,hx⟩ : ∃ x,l[k]? = some x:=⟨_,List.getElem?_eq_getElem hlt⟩
    rw [drop_kids hx,weighL,if_neg (by omega)] at hi
    exact hi
   ·rw [List.drop_eq_nil_of_le hge,weighL] at hi;exact hi
  have e1 : decide ((m' : Int) ≤ (most : Int)) = decide (m' ≤ most):=by rw [decide_eq_decide];omega
  repeat (first | refine nav ?_ | refine bo ?_)
  (refine wr fun K R hK hR=>?_;simp only [go_sem,h5,e1];(try go_ints);(try simp only [go_sem,h5,e1]);(repeat refine And.intro side ?_);(first|refine hK _ ?_|refine hR _ _ ?_);clear hK hR K R)
  repeat (first | refine nav ?_ | refine bo ?_)
  refine endQ_data (by simp only [go_sem]<;>exact rfl) (Le.of_eq ?_) rfl
  rw [hi']
theorem two_sm {k : Int} {a b : PlanD} (ha : a.Sm) (hb : b.Sm) : (twoP k a b).Sm :=
 ⟨_,by show (0 : Nat) ≤ _;omega,by show (0 : Nat) ≤ _;omega,by show (2 : Nat) ≤ _;omega,fun x hx=>by
  simp only [twoP,PlanD.kids,List.mem_cons,List.not_mem_nil,or_false] at hx
  rcases hx with rfl | rfl
  ·exact ha
  ·exact hb⟩
theorem sel_sm {k i j : Int} {a : PlanD} (ha : a.Sm) : (selP k i j a).Sm :=
 ⟨_,by show (0 : Nat) ≤ _;omega,by show (0 : Nat) ≤ _;omega,by show (1 : Nat) ≤ _;omega,fun x hx=>by
  simp only [selP,PlanD.kids,List.mem_cons,List.not_mem_nil,or_false] at hx
  subst hx;exact ha⟩
theorem col_sm {a : PlanD} {cs : List Int} (ha : a.Sm) (hc : cs.length ≤ 1000) : (colP a cs).Sm :=
 ⟨_,by show (0 : Nat) ≤ _;omega,by show cs.length ≤ _;omega,by show (1 : Nat) ≤ _;omega,fun x hx=>by
  simp only [colP,PlanD.kids,List.mem_cons,List.not_mem_nil,or_false] at hx
  subst hx;exact ha⟩
theorem smOk : ∀ (p : PlanD),p.Sm → p.Ok :=
 PlanD.ind fun p ih h=>⟨p,by have:=h.name;omega,by have:=h.cols;omega,by have:=h.len;omega,fun k hk=>ih k hk (h.kid k hk)⟩
theorem algebra {p q r : PlanD} {s : StrD} (hv : validF s = true) (vp : validR p = true) (vq : validR q = true) (vr : validR r = true) (fp : fitsF (symsF p) s = true) (fq : fitsF (symsF q) s = true) (fr : fitsF (symsF r) s = true)
  (hc : cntF p + cntF q + cntF r ≤ 300) (vj : validR (twoP 4 p (twoP 4 q r)) = true) :
  equivF (twoP 4 (twoP 4 p q) r) (twoP 4 p (twoP 4 q r)) s = true ∧
  (widthR q = widthR p → widthR r = widthR p → ∀ i j k m : Int,(0 ≤ i ∧ i < widthR p) → (0 ≤ j ∧ j < widthR p) → (0 ≤ k ∧ k < widthR p) → (0 ≤ m ∧ m < widthR p) →
   equivF (selP 2 i j (selP 3 k m p)) (selP 3 k m (selP 2 i j p)) s = true ∧ equivF (colP (twoP 6 p q) [i,k]) (twoP 6 (colP p [i,k]) (colP q [i,k])) s = true ∧ equivF (twoP 7 (twoP 7 p q) r) (twoP 7 p (twoP 6 q r)) s = true):=by
 have w0 : ∀ x : PlanD,validR x = true → 0 ≤ widthR x:=fun x h=>by unfold validR at h;simp at h;omega
 have s0 : ∀ x : PlanD,validR x = true → oneW (symsF x) = true:=fun x h=>by unfold validR at h;simp at h;exact h.2
 have p0:=w0 p vp
 have q0:=w0 q vq
 have r0:=w0 r vr
 have sj:=s0 _ vj
 rw [s_two (by decide),s_two (by decide)] at sj
 obtain ⟨_,j2,j3⟩:=w_join_inv (w0 _ vj)
 obtain ⟨_,_,j4⟩:=w_join_inv j2
 have wqr:=w_join q0 r0 j4
 rw [wqr] at j3
 have wpq:=w_join p0 q0 (by omega)
 have fpqr:=fits_app fp (fits_app fq fr)
 refine ⟨equiv_of hv ?_ vj ?_ ?_ ?_,fun hq hr i j k m hi hj hk hm=>⟨equiv_of hv ?_ ?_ ?_ ?_ ?_,equiv_of hv ?_ ?_ ?_ ?_ ?_,equiv_of hv ?_ ?_ ?_ ?_ ?_⟩⟩
 ·refine valid_of (by simp only [c_two];omega) ?_ ?_
  ·rw [w_join (by omega) r0 (by omega)];omega
  ·rw [s_two (by decide),s_two (by decide),List.append_assoc];exact sj
 ·rw [s_two (by decide),s_two (by decide),List.append_assoc];exact fpqr
 ·rw [s_two (by decide),s_two (by decide)];exact fpqr
 ·intro _ _
  rw [v_join,v_join,v_join,v_join,join_assoc]
 ·refine valid_of (by simp only [c_sel];omega) ?_ (by rw [s_sel (by decide),s_sel (by decide)];exact s0 p vp)
  have e:=w_sel (k:=3) (.inr rfl) p0 hk hm
  rw [w_sel (.inl rfl) (by omega) (by omega) (by omega)];omega
 ·refine valid_of (by simp only [c_sel];omega) ?_ (by rw [s_sel (by decide),s_sel (by decide)];exact s0 p vp)
  have e:=w_sel (k:=2) (.inl rfl) p0 hi hj
  rw [w_sel (.inr rfl) (by omega) (by omega) (by omega)];omega
 ·rw [s_sel (by decide),s_sel (by decide)];exact fp
 ·rw [s_sel (by decide),s_sel (by decide)];exact fp
 ·intro _ _
  rw [v_same,v_less,v_less,v_same,filter_comm]
 ·have e:=w_two (k:=6) (.inl rfl) p0 hq.symm
  refine valid_of (by simp only [c_col,c_two];omega) ?_ ?_
  ·rw [w_col (by omega) (fun c hc=>?_) (by simp)]
   ·simp
   ·simp only [List.mem_cons,List.not_mem_nil,or_false] at hc
    rcases hc with rfl | rfl<;>omega
  ·rw [s_col,s_two (by decide)];exact names_sub (fun x hx=>by simp only [List.mem_append] at hx ⊢;rcases hx with h | h;exact .inl h;exact .inr (.inl h)) sj
 ·have e1:=w_col (g:=p) (cols:=[i,k]) p0 (fun c hc=>by simp only [List.mem_cons,List.not_mem_nil,or_false] at hc;rcases hc with rfl | rfl<;>omega) (by simp)
  have e2:=w_col (g:=q) (cols:=[i,k]) q0 (fun c hc=>by simp only [List.mem_cons,List.not_mem_nil,or_false] at hc;rcases hc with rfl | rfl<;>omega) (by simp)
  refine valid_of (by simp only [c_col,c_two];omega) ?_ ?_
  ·rw [w_two (.inl rfl) (by rw [e1];simp) (by rw [e1,e2]),e1];simp
  ·rw [s_two (by decide),s_col,s_col];exact names_sub (fun x hx=>by simp only [List.mem_append] at hx ⊢;rcases hx with h | h;exact .inl h;exact .inr (.inl h)) sj
 ·rw [s_col,s_two (by decide)];exact fits_app fp fq
 ·rw [s_two (by decide),s_col,s_col];exact fits_app fp fq
 ·intro _ _
  rw [v_col,v_union,v_union,v_col,v_col,col_union]
 ·have e:=w_two (k:=7) (.inr rfl) p0 hq.symm
  refine valid_of (by simp only [c_two];omega) ?_ ?_
  ·rw [w_two (.inr rfl) (by omega) (by omega)];omega
  ·rw [s_two (by decide),s_two (by decide),List.append_assoc];exact sj
 ·have e:=w_two (k:=6) (.inl rfl) q0 (by omega : widthR q = widthR r)
  refine valid_of (by simp only [c_two];omega) ?_ ?_
  ·rw [w_two (.inr rfl) p0 (by omega)];exact p0
  ·rw [s_two (by decide),s_two (by decide)];exact sj
 ·rw [s_two (by decide),s_two (by decide),List.append_assoc];exact fpqr
 ·rw [s_two (by decide),s_two (by decide)];exact fpqr
 ·intro _ _
  rw [v_minus,v_minus,v_minus,v_union,minus_union]
theorem D_mono {P : Program} {n : Nat} {gd : List (Option Nat)} {tk : List Nat} {K K' : St → Prop} (h2 : ∀ x,K x → K' x) : ∀ (l : List Oper) {s : St},D P n gd tk l K s → D P n gd tk l K' s
 | [],s,h=>h2 s h
 | o :: r,s,h=>by
  by_cases hq : isQ tk o = true
  ·simp only [D,hq,if_true] at h ⊢
   obtain ⟨v,a,b⟩:=h
   exact ⟨v,a,D_mono h2 r b⟩
  ·simp only [D,hq,if_false,Bool.false_eq_true] at h ⊢
   obtain ⟨g,h⟩:=h
   refine ⟨g,?_⟩
   by_cases hc : isCall o = true
   ·simp only [hc,if_true] at h ⊢
    exact h.mono fun s hs=>D_mono h2 r hs
   ·simp only [hc,if_false,Bool.false_eq_true] at h ⊢
    obtain ⟨s',a,b⟩:=h
    exact ⟨s',a,D_mono h2 r b⟩
theorem D_then {P : Program} {n : Nat} {gd : List (Option Nat)} {tk : List Nat} {l : List Oper} {K : St → Prop} {s : St} (M : St → Prop) (h : D P n gd tk l M s) (h2 : ∀ x,M x → K x) : D P n gd tk l K s:=D_mono h2 l h
def wP (p : PlanD) : Int:=if validR p = true then widthR p else -1
theorem pwidth2_spec (p : PlanD) (hp : p.Sm) : ACallsD Try.prog 9 [.agg p.cells] (.i .i64 (wP p)):=by
 have h:=pwidth_spec p hp
 have hv:=walk_valid p
 cases hw : walkF p 1 0 [] with
 | none =>
  rw [hw] at h hv
  have e : wP p = -1:=by unfold wP;rw [← hv];rfl
  rw [e];exact h
 | some y =>
  obtain ⟨w,n,ws⟩:=y
  have hwv:=(walk_val p hw).1
  rw [hw] at h hv
  have e : wP p = w:=by unfold wP;rw [← hv];exact hwv.symm
  rw [e];exact h
theorem planAlgebra_spec (l : List PlanD) (hl : ∀ p ∈ l,p.Ok) (hll : l.length ≤ 1125899906842624) (s : StrD) (hs : s.Wide) (nA nB nC nD : Int) (hA : 0 ≤ nA ∧ nA ≤ 255) (hB : 0 ≤ nB ∧ nB ≤ 255) (hC : 0 ≤ nC ∧ nC ≤ 255) (hD : 0 ≤ nD ∧ nD ≤ 255) :
  ACallsD Try.prog 3 [.sl 7 (plans l),.agg s.cells,.agg [.i .u8 nA,.i .u8 nB,.i .u8 nC,.i .u8 nD]] (.b true):=by
 have hfew:=fewL_spec l hl hll 300 (by decide)
 rw [show ((300 : Nat) : Int) = 300 from rfl] at hfew
 have hlf:=lfew_spec s hs
 have hal:=alive_spec
 have hsv:=fun h=>rsvalid_spec s (fewS_ok h).1
 unfold StrD.cells at *
 refine ACalls_of' (n:=209) (rs:=[.tmp 6]) (show Try.prog.funcs[3]? = some Try.f3 by kernel_rfl) rfl rfl rfl (by simp) (by decide +kernel) ?_
 repeat (first | refine nav ?_ | refine bo ?_)
 (refine wr fun K R hK hR=>?_;simp only [go_sem];(try go_ints);(repeat refine And.intro side ?_);(first|refine hK _ ?_|refine hR _ _ ?_);clear hK hR K R)
 repeat (first | refine nav ?_ | refine bo ?_)
 (refine wr fun K R hK hR=>?_;simp only [go_sem,plans_len];(try go_ints);(try simp only [go_sem,plans_len]);(repeat refine And.intro side ?_);(first|refine hK _ ?_|refine hR _ _ ?_);clear hK hR K R)
 refine RL_callDg rfl (by simp only [go_sem]<;>exact rfl) (fun e=>hfew) rfl rfl rfl (fun e=>by (try simp only [go_sem] at e);simp only [go_sem,e]<;>(try simp only [go_sem])<;>first | exact LeA.refl _ | exact Le.refl _) rfl rfl ?_
 (refine rr fun K R hK hR=>?_;simp only [go_sem];(try go_ints);(repeat refine And.intro side ?_);(first|refine hK _ ?_|refine hR _ _ ?_);clear hK hR K R)
 refine RL_callDg rfl (by simp only [go_sem]<;>exact rfl) (fun e=>hlf) rfl rfl rfl (fun e=>by (try simp only [go_sem] at e);simp only [go_sem,e]<;>(try simp only [go_sem])<;>first | exact LeA.refl _ | exact Le.refl _) rfl rfl ?_
 (refine rr fun K R hK hR=>?_;simp only [go_sem];(try go_ints);(repeat refine And.intro side ?_);(first|refine hK _ ?_|refine hR _ _ ?_);clear hK hR K R)
 refine RL_callDg rfl (by simp only [go_sem]<;>exact rfl) (fun e=>hsv (by have:=e;simp at this;exact this.2)) rfl rfl rfl (fun e=>by (try simp only [go_sem] at e);simp only [go_sem,e]<;>(try simp only [go_sem])<;>first | exact LeA.refl _ | exact Le.refl _) rfl rfl ?_
 (refine rr fun K R hK hR=>?_;simp only [go_sem];(try go_ints);(repeat refine And.intro side ?_);(first|refine hK _ ?_|refine hR _ _ ?_);clear hK hR K R)
 repeat (first | refine nav ?_ | refine bo ?_)
 refine W_cond (b:=(decide ((l.length : Int) < 3) || !decide (weighL l 0 300 ≤ 300) || !fewS s || !validF s)) (by simp only [go_sem]) (fun hb=>?_) (fun hb=>?_)
 ·repeat (first | refine nav ?_ | refine bo ?_)
  (refine wr fun K R hK hR=>?_;simp only [go_sem];(try go_ints);(repeat refine And.intro side ?_);(first|refine hK _ ?_|refine hR _ _ ?_);clear hK hR K R)
  refine RL_callF (hal) rfl rfl rfl (by first | (simp only [go_sem]<;>first | exact LeA.refl _ | exact Le.refl _) | exact LeA.refl _) rfl rfl ?_
  (refine rr fun K R hK hR=>?_;simp only [go_sem];(try go_ints);(repeat refine And.intro side ?_);(first|refine hK _ ?_|refine hR _ _ ?_);clear hK hR K R)
  repeat (first | refine nav ?_ | refine bo ?_)
  refine endQ_data (by simp only [go_sem]<;>exact rfl) (Le.of_eq ?_) rfl
  rfl
 ·simp only [Bool.or_eq_false_iff,decide_eq_false_iff_not,Bool.not_eq_false',decide_eq_true_eq] at hb
  obtain ⟨⟨⟨hl3,hw⟩,hfs⟩,hv⟩:=hb
  obtain ⟨hso,hs12⟩:=fewS_ok hfs
  have hcl:=weighL_cnt l (fun q _=>weighF_cnt q) 0 300 hw
  have hsm : ∀ q ∈ l,q.Sm:=fun q hq=>by
   obtain ⟨m,hm⟩:=weighL_sm l 0 hw q hq
   exact sm_of_weigh (most:=300) (by decide) q m hm
  obtain ⟨p,q,r,rest,rfl⟩ : ∃ p q r rest,l = p :: q :: r :: rest:=by
   match l,hl3 with
   | p :: q :: r :: rest,_=>exact ⟨p,q,r,rest,rfl⟩
   | [],h=>simp at h
   | [_],h=>simp at h
   | [_,_],h=>simp at h
  have hc3 : cntF p + cntF q + cntF r ≤ 300:=by simp only [cntL] at hcl;omega
  obtain ⟨L,hL⟩ : ∃ L,L = p :: q :: r :: rest:=⟨_,rfl⟩
  have hLl : 3 ≤ L.length:=by rw [hL];simp
  have g0 : L[0]? = some p:=by rw [hL];rfl
  have g1 : L[1]? = some q:=by rw [hL];rfl
  have g2 : L[2]? = some r:=by rw [hL];rfl
  have sp:=hsm p (by simp)
  have sq:=hsm q (by simp)
  have sr:=hsm r (by simp)
  rw [← hL]
  repeat (first | refine nav ?_ | refine bo ?_)
  refine W_tab [(0,.sl 7 (plans L)),(4,.ptr 0 0 0),(5,.ptr 1 0 0)] (fun y hy=>?_) ?_
  ·simp only [List.mem_cons,List.not_mem_nil,or_false] at hy
   rcases hy with rfl | rfl | rfl
   all_goals (simp only [go_sem]<;>exact Le.refl _)
  refine W_drawInv (by decide +kernel) (fun d x=>I3 [(0,.sl 7 (plans L)),(4,.ptr 0 0 0),(5,.ptr 1 0 0)] [Ob.cells 2 [[AV.i .i64 s.size,.sl 3 (rels s.rels)]],Ob.cells 4 [[AV.i .u8 nA,.i .u8 nB,.i .u8 nC,.i .u8 nD]]] [.sl 7 (plans L),.ep [AV.i .i64 p.kind,.i .i64 p.width,.i .i64 p.i,.i .i64 p.j,.s p.name,.sl 1 (ints p.cols),.sl 7 (plans p.kids)] 0,.agg [AV.i .i64 p.kind,.i .i64 p.width,.i .i64 p.i,.i .i64 p.j,.s p.name,.sl 1 (ints p.cols),.sl 7 (plans p.kids)],.sl 7 (plans L),.ep [AV.i .i64 q.kind,.i .i64 q.width,.i .i64 q.i,.i .i64 q.j,.s q.name,.sl 1 (ints q.cols),.sl 7 (plans q.kids)] 0,.agg [AV.i .i64 q.kind,.i .i64 q.width,.i .i64 q.i,.i .i64 q.j,.s q.name,.sl 1 (ints q.cols),.sl 7 (plans q.kids)],.sl 7 (plans L),.ep [AV.i .i64 r.kind,.i .i64 r.width,.i .i64 r.i,.i .i64 r.j,.s r.name,.sl 1 (ints r.cols),.sl 7 (plans r.kids)] 0,.agg [AV.i .i64 r.kind,.i .i64 r.width,.i .i64 r.i,.i .i64 r.j,.s r.name,.sl 1 (ints r.cols),.sl 7 (plans r.kids)]] (Ob.cells 7 [[AV.i IntKind.i64 0,AV.i IntKind.i64 0,AV.i IntKind.i64 0,AV.i IntKind.i64 0,AV.s ByteArray.empty,AV.own 1 [],AV.own 7 []]]) (fun e=>if e = 0 then boxP p else if e = 1 then boxP q else boxP r) d x) (by decide +kernel) ?_ ?_ ?_
  ·refine I3.init (fun y hy=>?_) rfl
   simp only [List.mem_cons,List.not_mem_nil,or_false] at hy
   rcases hy with rfl | rfl | rfl<;>simp only [go_sem]
  ·intro d x i o ho hd hdep hI
   obtain ⟨t,ob⟩:=x
   have e0 : t 0 = .sl 7 (plans L):=hI.ext (0,.sl 7 (plans L)) (by simp)
   match i,ho with
   | 0,ho =>
    obtain rfl:=Option.some.inj ho
    refine ⟨rfl,OpW_run [] rfl rfl fun K' hK'=>?_⟩
    simp only [go_sem,e0]
    (try go_ints)
    (repeat refine And.intro side ?_)
    refine hK' _ ?_
    exact hI.quiet 0 (by decide) rfl
   | 1,ho =>
    obtain rfl:=Option.some.inj ho
    refine ⟨rfl,OpW_run [] rfl rfl fun K' hK'=>?_⟩
    simp only [go_sem,(show t 36 = _ from hI.v 0 (by decide) (hdep 0 (by decide +kernel))),plans_get g0,plans_len]
    (try go_ints)
    (repeat refine And.intro side ?_)
    refine hK' _ ?_
    exact hI.quiet 1 (by decide) rfl
   | 2,ho =>
    obtain rfl:=Option.some.inj ho
    refine ⟨rfl,OpW_run [] rfl rfl fun K' hK'=>?_⟩
    simp only [go_sem,(show t 37 = _ from hI.v 1 (by decide) (hdep 1 (by decide +kernel)))]
    (try go_ints)
    (repeat refine And.intro side ?_)
    refine hK' _ ?_
    exact hI.quiet 2 (by decide) rfl
   | 3,ho =>
    obtain rfl:=Option.some.inj ho
    refine ⟨rfl,OpW_run [] rfl rfl fun K' hK'=>?_⟩
    simp only [go_sem,e0]
    (try go_ints)
    (repeat refine And.intro side ?_)
    refine hK' _ ?_
    exact hI.quiet 3 (by decide) rfl
   | 4,ho =>
    obtain rfl:=Option.some.inj ho
    refine ⟨rfl,OpW_run [] rfl rfl fun K' hK'=>?_⟩
    simp only [go_sem,(show t 39 = _ from hI.v 3 (by decide) (hdep 3 (by decide +kernel))),plans_get g1,plans_len]
    (try go_ints)
    (repeat refine And.intro side ?_)
    refine hK' _ ?_
    exact hI.quiet 4 (by decide) rfl
   | 5,ho =>
    obtain rfl:=Option.some.inj ho
    refine ⟨rfl,OpW_run [] rfl rfl fun K' hK'=>?_⟩
    simp only [go_sem,(show t 40 = _ from hI.v 4 (by decide) (hdep 4 (by decide +kernel)))]
    (try go_ints)
    (repeat refine And.intro side ?_)
    refine hK' _ ?_
    exact hI.quiet 5 (by decide) rfl
   | 6,ho =>
    obtain rfl:=Option.some.inj ho
    refine ⟨rfl,OpW_run [] rfl rfl fun K' hK'=>?_⟩
    simp only [go_sem,e0]
    (try go_ints)
    (repeat refine And.intro side ?_)
    refine hK' _ ?_
    exact hI.quiet 6 (by decide) rfl
   | 7,ho =>
    obtain rfl:=Option.some.inj ho
    refine ⟨rfl,OpW_run [] rfl rfl fun K' hK'=>?_⟩
    simp only [go_sem,(show t 42 = _ from hI.v 6 (by decide) (hdep 6 (by decide +kernel))),plans_get g2,plans_len]
    (try go_ints)
    (repeat refine And.intro side ?_)
    refine hK' _ ?_
    exact hI.quiet 7 (by decide) rfl
   | 8,ho =>
    obtain rfl:=Option.some.inj ho
    refine ⟨rfl,OpW_run [] rfl rfl fun K' hK'=>?_⟩
    simp only [go_sem,(show t 43 = _ from hI.v 7 (by decide) (hdep 7 (by decide +kernel)))]
    (try go_ints)
    (repeat refine And.intro side ?_)
    refine hK' _ ?_
    exact hI.quiet 8 (by decide) rfl
   | 9,ho =>
    obtain rfl:=Option.some.inj ho
    refine ⟨rfl,OpW_run [] rfl rfl fun K' hK'=>?_⟩
    simp only [go_sem]
    (try go_ints)
    (repeat refine And.intro side ?_)
    refine hK' _ ?_
    exact hI.alloc 0 (by decide) hd rfl rfl
   | 10,ho =>
    obtain rfl:=Option.some.inj ho
    refine ⟨rfl,OpW_run [] rfl rfl fun K' hK'=>?_⟩
    simp only [go_sem]
    (try go_ints)
    (repeat refine And.intro side ?_)
    refine hK' _ ?_
    exact hI.alloc 1 (by decide) hd rfl rfl
   | 11,ho =>
    obtain rfl:=Option.some.inj ho
    refine ⟨rfl,OpW_run [] rfl rfl fun K' hK'=>?_⟩
    simp only [go_sem]
    (try go_ints)
    (repeat refine And.intro side ?_)
    refine hK' _ ?_
    exact hI.alloc 2 (by decide) hd rfl rfl
   | 12,ho =>
    obtain rfl:=Option.some.inj ho
    obtain ⟨j,b1,b3,hI2⟩:=hI.store 0 (by decide) (hdep 9 (by decide +kernel)) hd rfl
    refine ⟨rfl,OpW_run [] rfl rfl fun K' hK'=>?_⟩
    simp only [go_sem,(show t 7 = _ from b1),(show t 38 = _ from hI.v 2 (by decide) (hdep 2 (by decide +kernel))),b3]
    (try go_ints)
    (repeat refine And.intro side ?_)
    refine hK' _ ?_
    exact hI2
   | 13,ho =>
    obtain rfl:=Option.some.inj ho
    obtain ⟨j,b1,b3,hI2⟩:=hI.store 1 (by decide) (hdep 10 (by decide +kernel)) hd rfl
    refine ⟨rfl,OpW_run [] rfl rfl fun K' hK'=>?_⟩
    simp only [go_sem,(show t 8 = _ from b1),(show t 41 = _ from hI.v 5 (by decide) (hdep 5 (by decide +kernel))),b3]
    (try go_ints)
    (repeat refine And.intro side ?_)
    refine hK' _ ?_
    exact hI2
   | 14,ho =>
    obtain rfl:=Option.some.inj ho
    obtain ⟨j,b1,b3,hI2⟩:=hI.store 2 (by decide) (hdep 11 (by decide +kernel)) hd rfl
    refine ⟨rfl,OpW_run [] rfl rfl fun K' hK'=>?_⟩
    simp only [go_sem,(show t 9 = _ from b1),(show t 44 = _ from hI.v 8 (by decide) (hdep 8 (by decide +kernel))),b3]
    (try go_ints)
    (repeat refine And.intro side ?_)
    refine hK' _ ?_
    exact hI2
   | n + 15,ho=>simp at ho
  ·intro d x hd hI
   obtain ⟨t,o⟩:=x
   obtain ⟨J,hJ,hJ2⟩:=hI.box
   have b0:=hJ 0 (by decide) (hd 9 (by decide))
   have b1:=hJ 1 (by decide) (hd 10 (by decide))
   have b2:=hJ 2 (by decide) (hd 11 (by decide))
   rw [hd (12 + 0) (by decide)] at b0
   rw [hd (12 + 1) (by decide)] at b1
   rw [hd (12 + 2) (by decide)] at b2
   generalize J 0 = j7 at b0
   generalize J 1 = j8 at b1
   generalize J 2 = j9 at b2
   have e0 : t 0 = .sl 7 (plans L):=hI.ext (0,.sl 7 (plans L)) (by simp)
   have e4 : t 4 = .ptr 0 0 0:=hI.ext (4,.ptr 0 0 0) (by simp)
   have e5 : t 5 = .ptr 1 0 0:=hI.ext (5,.ptr 1 0 0) (by simp)
   have u0:=hI.pre 0 _ rfl
   have u1:=hI.pre 1 _ rfl
   have e7 : t 7 = .ptr j7 0 0:=b0.1
   have e8 : t 8 = .ptr j8 0 0:=b1.1
   have e9 : t 9 = .ptr j9 0 0:=b2.1
   have u7 : o[j7]? = some (boxP p):=b0.2.2
   have u8 : o[j8]? = some (boxP q):=b1.2.2
   have u9 : o[j9]? = some (boxP r):=b2.2.2
   simp only at u0 u1
   clear hI hJ2 hJ b0 b1 b2 hd d
   change W Try.prog 209 _ _ _
   refine W_tab [(0,.sl 7 (plans L)),(4,.ptr 0 0 0),(5,.ptr 1 0 0),(7,.ptr j7 0 0),(8,.ptr j8 0 0),(9,.ptr j9 0 0)] (fun y hy=>?_) ?_
   ·simp only [List.mem_cons,List.not_mem_nil,or_false] at hy
    rcases hy with rfl | rfl | rfl | rfl | rfl | rfl
    all_goals (simp only [e0,e4,e5,e7,e8,e9];exact Le.refl _)
   clear e0 e4 e5 e7 e8 e9 t
   have hpw:=pwidth2_spec p sp
   rw [p.cells_eq] at hpw
   repeat (first | refine nav ?_ | refine bo ?_)
   (refine wr fun K R hK hR=>?_;simp only [go_sem,u7];(try go_ints);(try simp only [go_sem,u7]);(repeat refine And.intro side ?_);(first|refine hK _ ?_|refine hR _ _ ?_);clear hK hR K R)
   refine RL_callF (hpw) rfl rfl rfl (by first | (simp only [go_sem]<;>first | exact LeA.refl _ | exact Le.refl _) | exact LeA.refl _) rfl rfl ?_
   (refine rr fun K R hK hR=>?_;simp only [go_sem];(try go_ints);(repeat refine And.intro side ?_);(first|refine hK _ ?_|refine hR _ _ ?_);clear hK hR K R)
   repeat (first | refine nav ?_ | refine bo ?_)
   (refine wr fun K R hK hR=>?_;simp only [go_sem];(try go_ints);(repeat refine And.intro side ?_);(first|refine hK _ ?_|refine hR _ _ ?_);clear hK hR K R)
   repeat (first | refine nav ?_ | refine bo ?_)
   have hcL : ∀ x ∈ L,cntF x ≤ 300:=fun x hx=>by
    rw [hL] at hx
    have:=cnt_mem hx
    omega
   refine W_for 47 78 [11] (fun m t o'=>∃ k : Nat,o = o' ∧ t 11 = .i .i64 k ∧ m = 3 - k ∧ k ≤ 3 ∧ ∀ i < k,∀ x,L[i]? = some x → checkF x s = 0) 3 ⟨0,rfl,by simp only [go_sem]<;>rfl,by omega,by omega,by simp⟩ ?_
   rintro m t o' ⟨k,rfl,h11,rfl,hk,hi⟩
   repeat (first | refine nav ?_ | refine bo ?_)
   (refine wr fun K R hK hR=>?_;simp only [go_sem,h11];(try go_ints);(try simp only [go_sem,h11]);(repeat refine And.intro side ?_);(first|refine hK _ ?_|refine hR _ _ ?_);clear hK hR K R)
   repeat (first | refine nav ?_ | refine bo ?_)
   refine W_cond (b:=decide (k < 3)) (by simp only [go_sem];rw [decide_eq_decide];omega) (fun hb=>?_) (fun hb=>?_)
   ·have hb1 : k < 3:=by simpa using hb
    obtain ⟨x,hx⟩ : ∃ x,L[k]? = some x:=⟨_,List.getElem?_eq_getElem (by omega)⟩
    have hxm:=List.mem_of_getElem? hx
    have hxm' : x ∈ p :: q :: r :: rest:=by rw [← hL];exact hxm
    have hxs:=hsm x hxm'
    have hxo:=hl x hxm'
    have hxc:=hcL x hxm
    have hrv:=rvalid_spec x hxo (by omega)
    have hck:=check_spec x hxo (by omega) s hso
    have hws:=widest_spec x hxo (by omega)
    rw [x.cells_eq] at hrv hck hws
    unfold StrD.cells at hck
    have hkL : k < L.length:=by omega
    have next : checkF x s = 0 → ∀ i < k + 1,∀ x',L[i]? = some x' → checkF x' s = 0:=fun hc i hik x' hx'=>by
     rcases Nat.lt_succ_iff_lt_or_eq.1 hik with h1 | rfl
     ·exact hi i h1 x' hx'
     ·rw [hx] at hx'
      obtain rfl:=Option.some.inj hx'
      exact hc
    repeat (first | refine nav ?_ | refine bo ?_)
    (refine W_dreg (by decide +kernel) [] [0,1,2,3,4,5,6,7,8,9,10,11,12,13,14,15,16,17,18,19,20,21,22,23,24,25] [[],[],[1,0],[0,1,2],[2,1,0,3],[3,0,1,2,4],[4,2,1,0,3,5],[5,3,0,1,2,4,6],[5,3,0,1,2,4,6],[8,6,4,2,1,0,3,5,7],[7,5,3,0,1,2,4,6,8,9],[5,3,0,1,2,4,6],[11,9,8,6,4,2,1,0,3,5,7,10],[10,7,5,3,0,1,2,4,6,8,9,11,12],[12,11,9,8,7,10,13,5,3,0,1,2,4,6],[6,4,2,1,0,3,5,13,10,7,8,9,11,12,14],[14,12,11,9,8,7,10,13,5,3,0,1,2,4,6,15],[15,6,4,2,1,0,3,5,13,10,7,8,9,11,12,14,16],[14,12,11,9,8,7,10,13,5,3,0,1,2,4,6,15],[14,12,11,9,8,7,10,13,5,3,0,1,2,4,6,15],[19,15,6,4,2,1,0,3,5,13,10,7,8,9,11,12,14,18],[18,14,12,11,9,8,7,10,13,5,3,0,1,2,4,6,15,19,20],[20,19,15,6,4,2,1,0,3,5,13,10,7,8,9,11,12,14,18,21],[21,18,19,20,22,16,14,12,11,9,8,7,10,13,5,3,0,1,2,4,6,15,17],[17,15,6,4,2,1,0,3,5,13,10,7,8,9,11,12,14,16,22,20,19,18,21,23],[23,21,18,19,20,22,16,17,24,14,12,11,9,8,7,10,13,5,3,0,1,2,4,6,15]] (by decide +kernel) rfl fun K R hK hR=>?_;simp only [List.filterMap_cons,List.filterMap_nil,List.getElem?_cons_zero,List.getElem?_cons_succ,List.cons_append,List.nil_append];simp only [go_sem,h11,plans_get hx,plans_len];(try go_ints);(try simp only [go_sem,h11,plans_get hx,plans_len]);(repeat refine And.intro side ?_);(first|refine hK _ ?_|refine hR _ _ ?_);clear hK hR K R)
    refine D_callD (hrv) rfl rfl rfl (by first | (simp only [go_sem]<;>first | exact LeA.refl _ | exact Le.refl _) | exact LeA.refl _) rfl rfl rfl rfl ?_
    by_cases hvx : validR x = true
    ·(refine D_reg fun K R hK hR=>?_;simp only [go_sem,hvx,u0,u7,u8,u9,h11,plans_get hx,plans_len];(try go_ints);(try simp only [go_sem,hvx,u0,u7,u8,u9,h11,plans_get hx,plans_len]);(repeat refine And.intro side ?_);(first|refine hK _ ?_|refine hR _ _ ?_);clear hK hR K R)
     refine D_callDg rfl (by simp only [go_sem]<;>exact rfl) (fun e=>hck) rfl rfl rfl (fun e=>by (try simp only [go_sem] at e);simp only [go_sem,e]<;>(try simp only [go_sem])<;>first | exact LeA.refl _ | exact Le.refl _) rfl rfl rfl rfl ?_
     by_cases hcx : checkF x s = 0
     ·have hok:=(okRun_iff x s).2 hcx
      obtain ⟨n,hf⟩:=okRun_fine hok
      have hwb:=widest_bd x
      obtain ⟨w,hw'⟩ : ∃ w : Nat,widestF x = w:=⟨(widestF x).toNat,by have:=hf.w0;omega⟩
      have hps:=pow_spec n w (by have:=hf.n1;omega) (by have:=hf.n2;omega) (by omega) (by omega)
      rw [← hf.size] at hps
      rw [hw'] at hws
      (refine D_reg fun K R hK hR=>?_;simp only [go_sem,hcx,u0,u7,u8,u9,h11,plans_get hx,plans_len];(try go_ints);(try simp only [go_sem,hcx,u0,u7,u8,u9,h11,plans_get hx,plans_len]);(repeat refine And.intro side ?_);(first|refine hK _ ?_|refine hR _ _ ?_);clear hK hR K R)
      refine D_callDg rfl (by simp only [go_sem]<;>exact rfl) (fun e=>hws) rfl rfl rfl (fun e=>by (try simp only [go_sem] at e);simp only [go_sem,e]<;>(try simp only [go_sem])<;>first | exact LeA.refl _ | exact Le.refl _) rfl rfl rfl rfl ?_
      (refine D_reg fun K R hK hR=>?_;simp only [go_sem,u0,u7,u8,u9,h11,plans_get hx,plans_len];(try go_ints);(try simp only [go_sem,u0,u7,u8,u9,h11,plans_get hx,plans_len]);(repeat refine And.intro side ?_);(first|refine hK _ ?_|refine hR _ _ ?_);clear hK hR K R)
      refine D_callDg rfl (by simp only [go_sem]<;>exact rfl) (fun e=>hps) rfl rfl rfl (fun e=>by (try simp only [go_sem] at e);simp only [go_sem,e]<;>(try simp only [go_sem])<;>first | exact LeA.refl _ | exact Le.refl _) rfl rfl rfl rfl ?_
      (refine D_reg fun K R hK hR=>?_;simp only [go_sem];(try go_ints);(repeat refine And.intro side ?_);(first|refine hK _ ?_|refine hR _ _ ?_);clear hK hR K R)
      repeat (first | refine nav ?_ | refine bo ?_)
      refine W_cond (by simp only [go_sem]<;>exact rfl) (fun hb=>?_) (fun hb=>?_)
      ·repeat (first | refine nav ?_ | refine bo ?_)
       (refine wr fun K R hK hR=>?_;simp only [go_sem];(try go_ints);(repeat refine And.intro side ?_);(first|refine hK _ ?_|refine hR _ _ ?_);clear hK hR K R)
       refine RL_callF (hal) rfl rfl rfl (by first | (simp only [go_sem]<;>first | exact LeA.refl _ | exact Le.refl _) | exact LeA.refl _) rfl rfl ?_
       (refine rr fun K R hK hR=>?_;simp only [go_sem];(try go_ints);(repeat refine And.intro side ?_);(first|refine hK _ ?_|refine hR _ _ ?_);clear hK hR K R)
       repeat (first | refine nav ?_ | refine bo ?_)
       refine endQ_data (by simp only [go_sem]<;>exact rfl) (Le.of_eq ?_) rfl
       rfl
      ·repeat (first | refine nav ?_ | refine bo ?_)
       (refine wr fun K R hK hR=>?_;simp only [go_sem,h11];(try go_ints);(try simp only [go_sem,h11]);(repeat refine And.intro side ?_);(first|refine hK _ ?_|refine hR _ _ ?_);clear hK hR K R)
       refine forQ_normal (3 - (k + 1)) (by omega) ⟨k + 1,rfl,by simp only [go_sem]<;>rfl,rfl,hb1,next hcx⟩
     ·have hne : (checkF x s != 0) = true:=by simp [bne,hcx]
      (refine D_reg fun K R hK hR=>?_;simp only [go_sem,hne,u0,u7,u8,u9,h11,plans_get hx,plans_len];(try go_ints);(try simp only [go_sem,hne,u0,u7,u8,u9,h11,plans_get hx,plans_len]);(repeat refine And.intro side ?_);(first|refine hK _ ?_|refine hR _ _ ?_);clear hK hR K R)
      refine D_skip rfl rfl (by simp only [go_sem]<;>exact rfl) rfl rfl rfl ?_
      (refine D_reg fun K R hK hR=>?_;simp only [go_sem,u0,u7,u8,u9,h11,plans_get hx,plans_len];(try go_ints);(try simp only [go_sem,u0,u7,u8,u9,h11,plans_get hx,plans_len]);(repeat refine And.intro side ?_);(first|refine hK _ ?_|refine hR _ _ ?_);clear hK hR K R)
      refine D_skip rfl rfl (by simp only [go_sem]<;>exact rfl) rfl rfl rfl ?_
      (refine D_reg fun K R hK hR=>?_;simp only [go_sem,u0,u7,u8,u9,h11,plans_get hx,plans_len];(try go_ints);(try simp only [go_sem,u0,u7,u8,u9,h11,plans_get hx,plans_len]);(repeat refine And.intro side ?_);(first|refine hK _ ?_|refine hR _ _ ?_);clear hK hR K R)
      repeat (first | refine nav ?_ | refine bo ?_)
      refine W_cond (b:=true) (by simp only [go_sem]<;>first | rfl | simp) (fun _=>?_) (fun hb=>by cases hb)
      repeat (first | refine nav ?_ | refine bo ?_)
      (refine wr fun K R hK hR=>?_;simp only [go_sem];(try go_ints);(repeat refine And.intro side ?_);(first|refine hK _ ?_|refine hR _ _ ?_);clear hK hR K R)
      refine RL_callF (hal) rfl rfl rfl (by first | (simp only [go_sem]<;>first | exact LeA.refl _ | exact Le.refl _) | exact LeA.refl _) rfl rfl ?_
      (refine rr fun K R hK hR=>?_;simp only [go_sem];(try go_ints);(repeat refine And.intro side ?_);(first|refine hK _ ?_|refine hR _ _ ?_);clear hK hR K R)
      repeat (first | refine nav ?_ | refine bo ?_)
      refine endQ_data (by simp only [go_sem]<;>exact rfl) (Le.of_eq ?_) rfl
      rfl
    ·have hvf : validR x = false:=by simpa using hvx
     (refine D_reg fun K R hK hR=>?_;simp only [go_sem,hvf,u0,u7,u8,u9,h11,plans_get hx,plans_len];(try go_ints);(try simp only [go_sem,hvf,u0,u7,u8,u9,h11,plans_get hx,plans_len]);(repeat refine And.intro side ?_);(first|refine hK _ ?_|refine hR _ _ ?_);clear hK hR K R)
     refine D_skip rfl rfl (by simp only [go_sem]<;>exact rfl) rfl rfl rfl ?_
     (refine D_reg fun K R hK hR=>?_;simp only [go_sem,u0,u7,u8,u9,h11,plans_get hx,plans_len];(try go_ints);(try simp only [go_sem,u0,u7,u8,u9,h11,plans_get hx,plans_len]);(repeat refine And.intro side ?_);(first|refine hK _ ?_|refine hR _ _ ?_);clear hK hR K R)
     refine D_skip rfl rfl (by simp only [go_sem]<;>exact rfl) rfl rfl rfl ?_
     (refine D_reg fun K R hK hR=>?_;simp only [go_sem,u0,u7,u8,u9,h11,plans_get hx,plans_len];(try go_ints);(try simp only [go_sem,u0,u7,u8,u9,h11,plans_get hx,plans_len]);(repeat refine And.intro side ?_);(first|refine hK _ ?_|refine hR _ _ ?_);clear hK hR K R)
     refine D_skip rfl rfl (by simp only [go_sem]<;>exact rfl) rfl rfl rfl ?_
     (refine D_reg fun K R hK hR=>?_;simp only [go_sem,u0,u7,u8,u9,h11,plans_get hx,plans_len];(try go_ints);(try simp only [go_sem,u0,u7,u8,u9,h11,plans_get hx,plans_len]);(repeat refine And.intro side ?_);(first|refine hK _ ?_|refine hR _ _ ?_);clear hK hR K R)
     repeat (first | refine nav ?_ | refine bo ?_)
     refine W_cond (b:=true) (by simp only [go_sem]<;>first | rfl | simp) (fun _=>?_) (fun hb=>by cases hb)
     repeat (first | refine nav ?_ | refine bo ?_)
     (refine wr fun K R hK hR=>?_;simp only [go_sem];(try go_ints);(repeat refine And.intro side ?_);(first|refine hK _ ?_|refine hR _ _ ?_);clear hK hR K R)
     refine RL_callF (hal) rfl rfl rfl (by first | (simp only [go_sem]<;>first | exact LeA.refl _ | exact Le.refl _) | exact LeA.refl _) rfl rfl ?_
     (refine rr fun K R hK hR=>?_;simp only [go_sem];(try go_ints);(repeat refine And.intro side ?_);(first|refine hK _ ?_|refine hR _ _ ?_);clear hK hR K R)
     repeat (first | refine nav ?_ | refine bo ?_)
     refine endQ_data (by simp only [go_sem]<;>exact rfl) (Le.of_eq ?_) rfl
     rfl
   ·have hk3 : k = 3:=by have : ¬ k < 3:=(by simpa using hb);omega
    have cp:=hi 0 (by omega) p g0
    have cq:=hi 1 (by omega) q g1
    have cr:=hi 2 (by omega) r g2
    have ok3 : ∀ x,checkF x s = 0 → validR x = true ∧ fitsF (symsF x) s = true ∧ ∃ n,Fine x s n:=fun x hx=>by
     have hok:=(okRun_iff x s).2 hx
     have hf:=okRun_fine hok
     simp only [okRun,Bool.and_eq_true] at hok
     exact ⟨hok.1.1.1,hok.1.2,hf⟩
    obtain ⟨vp,fp,n,fnp⟩:=ok3 p cp
    obtain ⟨vq,fq,n2,fnq⟩:=ok3 q cq
    obtain ⟨vr,fr,n3,fnr⟩:=ok3 r cr
    have hwp : wP p = widthR p:=by unfold wP;rw [vp];rfl
    have hp0:=fnp.w0
    have hq0:=fnq.w0
    have hr0:=fnr.w0
    have hwlp:=(widthR_le p).2
    have t1:=ltwo_spec 4 q r
    have t2:=ltwo_spec 4 p (twoP 4 q r)
    have t3:=ltwo_spec 4 p q
    have t4:=ltwo_spec 4 (twoP 4 p q) r
    have sm2:=two_sm (k:=4) sp (two_sm (k:=4) sq sr)
    have sm1:=two_sm (k:=4) (two_sm (k:=4) sp sq) sr
    have hjv:=rvalid_spec (twoP 4 p (twoP 4 q r)) (smOk _ sm2) (by simp only [c_two];omega)
    have hE1:=equiv_spec _ _ sm1 sm2 s hso (by omega)
    have rwp:=rwidth_spec p (smOk _ sp) (by omega)
    have rwq:=rwidth_spec q (smOk _ sq) (by omega)
    have rwr:=rwidth_spec r (smOk _ sr) (by omega)
    have alg:=algebra hv vp vq vr fp fq fr hc3
    rw [hwp]
    simp only [p.cells_eq,q.cells_eq,r.cells_eq,(twoP 4 q r).cells_eq,(twoP 4 p (twoP 4 q r)).cells_eq,(twoP 4 p q).cells_eq,(twoP 4 (twoP 4 p q) r).cells_eq] at t1 t2 t3 t4 hjv hE1 rwp rwq rwr
    unfold StrD.cells at hE1
    repeat (first | refine nav ?_ | refine bo ?_)
    (refine W_dreg (by decide +kernel) [] [0,1,2,3,4,5,6] [[],[],[],[2,1],[1,2,3,0],[0,3,2,1,4],[4,1,2,3,0,5]] (by decide +kernel) rfl fun K R hK hR=>?_;simp only [List.filterMap_cons,List.filterMap_nil,List.getElem?_cons_zero,List.getElem?_cons_succ,List.cons_append,List.nil_append];simp only [go_sem,u7,u8,u9];(try go_ints);(try simp only [go_sem,u7,u8,u9]);(repeat refine And.intro side ?_);(first|refine hK _ ?_|refine hR _ _ ?_);clear hK hR K R)
    refine D_callD (t1) rfl rfl rfl (by first | (simp only [go_sem]<;>first | exact LeA.refl _ | exact Le.refl _) | exact LeA.refl _) rfl rfl rfl rfl ?_
    (refine D_reg fun K R hK hR=>?_;simp only [go_sem];(try go_ints);(repeat refine And.intro side ?_);(first|refine hK _ ?_|refine hR _ _ ?_);clear hK hR K R)
    refine D_callD (t2) rfl rfl rfl (by first | (simp only [go_sem]<;>first | exact LeA.refl _ | exact Le.refl _) | exact LeA.refl _) rfl rfl rfl rfl ?_
    (refine D_reg fun K R hK hR=>?_;simp only [go_sem];(try go_ints);(repeat refine And.intro side ?_);(first|refine hK _ ?_|refine hR _ _ ?_);clear hK hR K R)
    refine D_callD (hjv) rfl rfl rfl (by first | (simp only [go_sem]<;>first | exact LeA.refl _ | exact Le.refl _) | exact LeA.refl _) rfl rfl rfl rfl ?_
    (refine D_reg fun K R hK hR=>?_;simp only [go_sem];(try go_ints);(repeat refine And.intro side ?_);(first|refine hK _ ?_|refine hR _ _ ?_);clear hK hR K R)
    repeat (first | refine nav ?_ | refine bo ?_)
    refine W_cond (b:=!validR (twoP 4 p (twoP 4 q r))) (by simp only [go_sem]) (fun hb=>?_) (fun hb=>?_)
    ·repeat (first | refine nav ?_ | refine bo ?_)
     (refine wr fun K R hK hR=>?_;simp only [go_sem];(try go_ints);(repeat refine And.intro side ?_);(first|refine hK _ ?_|refine hR _ _ ?_);clear hK hR K R)
     refine RL_callF (hal) rfl rfl rfl (by first | (simp only [go_sem]<;>first | exact LeA.refl _ | exact Le.refl _) | exact LeA.refl _) rfl rfl ?_
     (refine rr fun K R hK hR=>?_;simp only [go_sem];(try go_ints);(repeat refine And.intro side ?_);(first|refine hK _ ?_|refine hR _ _ ?_);clear hK hR K R)
     repeat (first | refine nav ?_ | refine bo ?_)
     refine endQ_data (by simp only [go_sem]<;>exact rfl) (Le.of_eq ?_) rfl
     rfl
    ·have vj : validR (twoP 4 p (twoP 4 q r)) = true:=by simpa using hb
     obtain ⟨a1,a2⟩:=alg vj
     rw [a1] at hE1
     have hj0 : 0 ≤ widthR (twoP 4 p (twoP 4 q r)):=by unfold validR at vj;simp at vj;omega
     obtain ⟨_,j2,j3⟩:=w_join_inv hj0
     obtain ⟨_,_,j4⟩:=w_join_inv j2
     rw [w_join hq0 hr0 j4] at j3
     have hps:=pow_spec n (widthR p + widthR q + widthR r) (by have:=fnp.n1;omega) (by have:=fnp.n2;omega) (by omega) (by omega)
     rw [← fnp.size] at hps
     repeat (first | refine nav ?_ | refine bo ?_)
     (refine W_dreg (by decide +kernel) [] [0,1,2,3,4,5,6,7,8,9,10,11,12,13,14,15,16,17,18,19,20,21,22,23,24,25,26] [[],[0],[],[2],[],[2,3,4],[4,5,2,3],[],[4,3,2,5,7],[7,8,3,2,5,4,6],[6,4,5,2,3,8,7,9,0,1],[1,0,9,7,8,3,2,5,4,6,10],[10,6,4,5,2,3,8,7,9,0,1,11],[11,1,0,9,7,8,3,2,5,4,6,10,12],[11,1,0,9,7,8,3,2,5,4,6,10,12],[14,12,10,6,4,5,2,3,8,7,9,0,1,11,13],[11,1,0,9,7,8,3,2,5,4,6,10,12],[16,13,11,1,0,9,7,8,3,2,5,4,6,10,12,14,15],[11,1,0,9,7,8,3,2,5,4,6,10,12],[11,1,0,9,7,8,3,2,5,4,6,10,12],[11,1,0,9,7,8,3,2,5,4,6,10,12],[15,14,13,16,17,20,12,10,6,4,5,2,3,8,7,9,0,1,11,19],[19,20,17,16,13,14,15,21,12,10,6,4,5,2,3,8,7,9,0,1,11,18],[11,1,0,9,7,8,3,2,5,4,6,10,12],[23,18,21,20,19,22,15,14,12,10,6,4,5,2,3,8,7,9,0,1,11,13,16,17],[17,16,13,11,1,0,9,7,8,3,2,5,4,6,10,12,14,15,22,19,20,21,18,23,24],[24,23,18,21,20,19,22,15,14,13,16,17,25,11,1,0,9,7,8,3,2,5,4,6,10,12]] (by decide +kernel) rfl fun K R hK hR=>?_;simp only [List.filterMap_cons,List.filterMap_nil,List.getElem?_cons_zero,List.getElem?_cons_succ,List.cons_append,List.nil_append];simp only [go_sem,u0,u7,u8,u9];(try go_ints);(try simp only [go_sem,u0,u7,u8,u9]);(repeat refine And.intro side ?_);(first|refine hK _ ?_|refine hR _ _ ?_);clear hK hR K R)
     refine D_callD (rwp) rfl rfl rfl (by first | (simp only [go_sem]<;>first | exact LeA.refl _ | exact Le.refl _) | exact LeA.refl _) rfl rfl rfl rfl ?_
     (refine D_reg fun K R hK hR=>?_;simp only [go_sem,u0,u7,u8,u9];(try go_ints);(try simp only [go_sem,u0,u7,u8,u9]);(repeat refine And.intro side ?_);(first|refine hK _ ?_|refine hR _ _ ?_);clear hK hR K R)
     refine D_callD (rwq) rfl rfl rfl (by first | (simp only [go_sem]<;>first | exact LeA.refl _ | exact Le.refl _) | exact LeA.refl _) rfl rfl rfl rfl ?_
     (refine D_reg fun K R hK hR=>?_;simp only [go_sem,u0,u7,u8,u9];(try go_ints);(try simp only [go_sem,u0,u7,u8,u9]);(repeat refine And.intro side ?_);(first|refine hK _ ?_|refine hR _ _ ?_);clear hK hR K R)
     refine D_callD (rwr) rfl rfl rfl (by first | (simp only [go_sem]<;>first | exact LeA.refl _ | exact Le.refl _) | exact LeA.refl _) rfl rfl rfl rfl ?_
     (refine D_reg fun K R hK hR=>?_;simp only [go_sem,u0,u7,u8,u9];(try go_ints);(try simp only [go_sem,u0,u7,u8,u9]);(repeat refine And.intro side ?_);(first|refine hK _ ?_|refine hR _ _ ?_);clear hK hR K R)
     refine D_callD (hps) rfl rfl rfl (by first | (simp only [go_sem]<;>first | exact LeA.refl _ | exact Le.refl _) | exact LeA.refl _) rfl rfl rfl rfl ?_
     have mid : ∀ (t : Nat → AV),t 7 = .ptr j7 0 0 → t 8 = .ptr j8 0 0 → t 9 = .ptr j9 0 0 → t 4 = .ptr 0 0 0 → t 5 = .ptr 1 0 0 → t 10 = .i .i64 (widthR p) → t 112 = .b false → True:=fun _ _ _ _ _ _ _ _=>trivial
     refine D_then (fun x=>x.o = o ∧ x.t 7 = .ptr j7 0 0 ∧ x.t 8 = .ptr j8 0 0 ∧ x.t 9 = .ptr j9 0 0 ∧ x.t 4 = .ptr 0 0 0 ∧ x.t 5 = .ptr 1 0 0 ∧ x.t 10 = .i .i64 (widthR p) ∧ x.t 112 = .b false) ?_ ?_
     ·by_cases hle : pow2 s.size (widthR p + widthR q + widthR r).toNat 1 ≤ 1500
      ·have e1 : decide (pow2 s.size (widthR p + widthR q + widthR r).toNat 1 ≤ 1500) = true:=by simpa using hle
       (refine D_reg fun K R hK hR=>?_;simp only [go_sem,e1,u0,u7,u8,u9];(try go_ints);(try simp only [go_sem,e1,u0,u7,u8,u9]);(repeat refine And.intro side ?_);(first|refine hK _ ?_|refine hR _ _ ?_);clear hK hR K R)
       refine D_callDg rfl (by simp only [go_sem]<;>exact rfl) (fun e=>t3) rfl rfl rfl (fun e=>by (try simp only [go_sem] at e);simp only [go_sem,e]<;>(try simp only [go_sem])<;>first | exact LeA.refl _ | exact Le.refl _) rfl rfl rfl rfl ?_
       (refine D_reg fun K R hK hR=>?_;simp only [go_sem,u0,u7,u8,u9];(try go_ints);(try simp only [go_sem,u0,u7,u8,u9]);(repeat refine And.intro side ?_);(first|refine hK _ ?_|refine hR _ _ ?_);clear hK hR K R)
       refine D_callDg rfl (by simp only [go_sem]<;>exact rfl) (fun e=>t4) rfl rfl rfl (fun e=>by (try simp only [go_sem] at e);simp only [go_sem,e]<;>(try simp only [go_sem])<;>first | exact LeA.refl _ | exact Le.refl _) rfl rfl rfl rfl ?_
       (refine D_reg fun K R hK hR=>?_;simp only [go_sem,u0,u7,u8,u9];(try go_ints);(try simp only [go_sem,u0,u7,u8,u9]);(repeat refine And.intro side ?_);(first|refine hK _ ?_|refine hR _ _ ?_);clear hK hR K R)
       refine D_callDg rfl (by simp only [go_sem]<;>exact rfl) (fun e=>t1) rfl rfl rfl (fun e=>by (try simp only [go_sem] at e);simp only [go_sem,e]<;>(try simp only [go_sem])<;>first | exact LeA.refl _ | exact Le.refl _) rfl rfl rfl rfl ?_
       (refine D_reg fun K R hK hR=>?_;simp only [go_sem,u0,u7,u8,u9];(try go_ints);(try simp only [go_sem,u0,u7,u8,u9]);(repeat refine And.intro side ?_);(first|refine hK _ ?_|refine hR _ _ ?_);clear hK hR K R)
       refine D_callDg rfl (by simp only [go_sem]<;>exact rfl) (fun e=>t2) rfl rfl rfl (fun e=>by (try simp only [go_sem] at e);simp only [go_sem,e]<;>(try simp only [go_sem])<;>first | exact LeA.refl _ | exact Le.refl _) rfl rfl rfl rfl ?_
       (refine D_reg fun K R hK hR=>?_;simp only [go_sem,u0,u7,u8,u9];(try go_ints);(try simp only [go_sem,u0,u7,u8,u9]);(repeat refine And.intro side ?_);(first|refine hK _ ?_|refine hR _ _ ?_);clear hK hR K R)
       refine D_callDg rfl (by simp only [go_sem]<;>exact rfl) (fun e=>hE1) rfl rfl rfl (fun e=>by (try simp only [go_sem] at e);simp only [go_sem,e]<;>(try simp only [go_sem])<;>first | exact LeA.refl _ | exact Le.refl _) rfl rfl rfl rfl ?_
       (refine D_reg fun K R hK hR=>?_;simp only [go_sem,u0,u7,u8,u9];(try go_ints);(try simp only [go_sem,u0,u7,u8,u9]);(repeat refine And.intro side ?_);(first|refine hK _ ?_|refine hR _ _ ?_);clear hK hR K R)
       exact ⟨rfl,by simp only [go_sem],by simp only [go_sem],by simp only [go_sem],by simp only [go_sem],by simp only [go_sem],by simp only [go_sem],by simp only [go_sem]<;>rfl⟩
      ·have e1 : decide (pow2 s.size (widthR p + widthR q + widthR r).toNat 1 ≤ 1500) = false:=by simpa using hle
       (refine D_reg fun K R hK hR=>?_;simp only [go_sem,e1,u0,u7,u8,u9];(try go_ints);(try simp only [go_sem,e1,u0,u7,u8,u9]);(repeat refine And.intro side ?_);(first|refine hK _ ?_|refine hR _ _ ?_);clear hK hR K R)
       refine D_skip rfl rfl (by simp only [go_sem]<;>exact rfl) rfl rfl rfl ?_
       (refine D_reg fun K R hK hR=>?_;simp only [go_sem,u0,u7,u8,u9];(try go_ints);(try simp only [go_sem,u0,u7,u8,u9]);(repeat refine And.intro side ?_);(first|refine hK _ ?_|refine hR _ _ ?_);clear hK hR K R)
       refine D_skip rfl rfl (by simp only [go_sem]<;>exact rfl) rfl rfl rfl ?_
       (refine D_reg fun K R hK hR=>?_;simp only [go_sem,u0,u7,u8,u9];(try go_ints);(try simp only [go_sem,u0,u7,u8,u9]);(repeat refine And.intro side ?_);(first|refine hK _ ?_|refine hR _ _ ?_);clear hK hR K R)
       refine D_skip rfl rfl (by simp only [go_sem]<;>exact rfl) rfl rfl rfl ?_
       (refine D_reg fun K R hK hR=>?_;simp only [go_sem,u0,u7,u8,u9];(try go_ints);(try simp only [go_sem,u0,u7,u8,u9]);(repeat refine And.intro side ?_);(first|refine hK _ ?_|refine hR _ _ ?_);clear hK hR K R)
       refine D_skip rfl rfl (by simp only [go_sem]<;>exact rfl) rfl rfl rfl ?_
       (refine D_reg fun K R hK hR=>?_;simp only [go_sem,u0,u7,u8,u9];(try go_ints);(try simp only [go_sem,u0,u7,u8,u9]);(repeat refine And.intro side ?_);(first|refine hK _ ?_|refine hR _ _ ?_);clear hK hR K R)
       refine D_skip rfl rfl (by simp only [go_sem]<;>exact rfl) rfl rfl rfl ?_
       (refine D_reg fun K R hK hR=>?_;simp only [go_sem,u0,u7,u8,u9];(try go_ints);(try simp only [go_sem,u0,u7,u8,u9]);(repeat refine And.intro side ?_);(first|refine hK _ ?_|refine hR _ _ ?_);clear hK hR K R)
       exact ⟨rfl,by simp only [go_sem],by simp only [go_sem],by simp only [go_sem],by simp only [go_sem],by simp only [go_sem],by simp only [go_sem],by simp only [go_sem]<;>rfl⟩
     rintro ⟨t2,o2⟩ ⟨ho2,s7,s8,s9,s4,s5,s10,s112⟩
     simp only at ho2 s7 s8 s9 s4 s5 s10 s112
     subst ho2
     repeat (first | refine nav ?_ | refine bo ?_)
     refine W_cond (b:=false) (by simp only [go_sem,s112]) (fun hb=>by cases hb) (fun _=>?_)
     repeat (first | refine nav ?_ | refine bo ?_)
     (refine wr fun K R hK hR=>?_;simp only [go_sem,s7,s8,s9,s10,u8];(try go_ints);(try simp only [go_sem,s7,s8,s9,s10,u8]);(repeat refine And.intro side ?_);(first|refine hK _ ?_|refine hR _ _ ?_);clear hK hR K R)
     refine RL_callDg rfl (by simp only [go_sem]<;>exact rfl) (fun e=>rwq) rfl rfl rfl (fun e=>by (try simp only [go_sem] at e);simp only [go_sem,e]<;>(try simp only [go_sem])<;>first | exact LeA.refl _ | exact Le.refl _) rfl rfl ?_
     (refine rr fun K R hK hR=>?_;simp only [go_sem,s9,s10,u9];(try go_ints);(try simp only [go_sem,s9,s10,u9]);(repeat refine And.intro side ?_);(first|refine hK _ ?_|refine hR _ _ ?_);clear hK hR K R)
     refine RL_callDg rfl (by simp only [go_sem]<;>exact rfl) (fun e=>rwr) rfl rfl rfl (fun e=>by (try simp only [go_sem] at e);simp only [go_sem,e]<;>(try simp only [go_sem])<;>first | exact LeA.refl _ | exact Le.refl _) rfl rfl ?_
     (refine rr fun K R hK hR=>?_;simp only [go_sem,s10];(try go_ints);(try simp only [go_sem,s10]);(repeat refine And.intro side ?_);(first|refine hK _ ?_|refine hR _ _ ?_);clear hK hR K R)
     repeat (first | refine nav ?_ | refine bo ?_)
     refine W_cond (by simp only [go_sem]<;>exact rfl) (fun hb=>?_) (fun hb=>?_)
     ·have ew : (widthR p == widthR p) = true:=by simp
      repeat (first | refine nav ?_ | refine bo ?_)
      (refine wr fun K R hK hR=>?_;simp only [go_sem,s10,s7,u7];(try go_ints);(try simp only [go_sem,s10,s7,u7]);(repeat refine And.intro side ?_);(first|refine hK _ ?_|refine hR _ _ ?_);clear hK hR K R)
      refine RL_callF (rwp) rfl rfl rfl (by first | (simp only [go_sem]<;>first | exact LeA.refl _ | exact Le.refl _) | exact LeA.refl _) rfl rfl ?_
      (refine rr fun K R hK hR=>?_;simp only [go_sem,ew];(try go_ints);(try simp only [go_sem,ew]);(repeat refine And.intro side ?_);(first|refine hK _ ?_|refine hR _ _ ?_);clear hK hR K R)
      refine RL_callDg rfl (by simp only [go_sem]<;>exact rfl) (fun e=>hal) rfl rfl rfl (fun e=>by (try simp only [go_sem] at e);simp only [go_sem,e]<;>(try simp only [go_sem])<;>first | exact LeA.refl _ | exact Le.refl _) rfl rfl ?_
      (refine rr fun K R hK hR=>?_;simp only [go_sem];(try go_ints);(repeat refine And.intro side ?_);(first|refine hK _ ?_|refine hR _ _ ?_);clear hK hR K R)
      repeat (first | refine nav ?_ | refine bo ?_)
      refine endQ_data (by simp only [go_sem]<;>exact rfl) (Le.of_eq ?_) rfl
      rfl
     ·have hb' : 1 ≤ widthR p ∧ widthR q = widthR p ∧ widthR r = widthR p:=by
       simp at hb
       omega
      obtain ⟨w1,wq,wr⟩:=hb'
      have hne : (widthR p != 0) = true:=by simp [bne];omega
      have tm : ∀ x : Int,0 ≤ x % widthR p ∧ x % widthR p < widthR p:=fun x=>⟨Int.emod_nonneg _ (by omega),Int.emod_lt_of_pos _ (by omega)⟩
      have ti:=tm nA
      have tj:=tm nB
      have tk:=tm nC
      have tt:=tm nD
      have a3:=a2 wq wr _ _ _ _ ti tj tk tt
      obtain ⟨d1,d2,d3⟩:=a3
      repeat (first | refine nav ?_ | refine bo ?_)
      (refine W_dreg (by decide +kernel) [] [0,1,2,3,4,5,6,7,8,9,10,11,12,13,14,15,16,17,18,19,20,21,22,23] [[],[0],[0,1],[],[3,1,0,2],[],[5],[5,6],[],[8,6,5,7],[],[10],[10,11],[],[13,11,10,12],[],[15],[15,16],[],[18,16,15,17],[2,0,1,3,4],[4,3,1,0,2,20,7,5,6,8,9],[9,8,6,5,7,20,2,0,1,3,4,21,12,10,11,13,14],[14,13,11,10,12,21,4,3,1,0,2,20,7,5,6,8,9,22,17,15,16,18,19]] (by decide +kernel) rfl fun K R hK hR=>?_;simp only [List.filterMap_cons,List.filterMap_nil,List.getElem?_cons_zero,List.getElem?_cons_succ,List.cons_append,List.nil_append];simp only [go_sem,u1,s5,s10,hne];(try go_ints);(try simp only [go_sem,u1,s5,s10,hne]);(repeat refine And.intro side ?_);(first|refine hK _ ?_|refine hR _ _ ?_);clear hK hR K R)
      generalize nA % widthR p = vi at *
      generalize nB % widthR p = vj2 at *
      generalize nC % widthR p = vk at *
      generalize nD % widthR p = vm at *
      have x1:=lchosen_spec 3 vk vm p
      have x2:=lchosen_spec 2 vi vj2 (selP 3 vk vm p)
      have x3:=lchosen_spec 2 vi vj2 p
      have x4:=lchosen_spec 3 vk vm (selP 2 vi vj2 p)
      have y1:=ltwo_spec 6 p q
      have y2:=lproject_spec (twoP 6 p q) [vi,vk]
      have y3:=lproject_spec p [vi,vk]
      have y4:=lproject_spec q [vi,vk]
      have y5:=ltwo_spec 6 (colP p [vi,vk]) (colP q [vi,vk])
      have z1:=ltwo_spec 7 p q
      have z2:=ltwo_spec 7 (twoP 7 p q) r
      have z3:=ltwo_spec 6 q r
      have z4:=ltwo_spec 7 p (twoP 6 q r)
      have lc : ([vi,vk] : List Int).length ≤ 1000:=by simp
      have F1:=equiv_spec (selP 2 vi vj2 (selP 3 vk vm p)) (selP 3 vk vm (selP 2 vi vj2 p)) (sel_sm (sel_sm sp)) (sel_sm (sel_sm sp)) s hso (by omega)
      have F2:=equiv_spec (colP (twoP 6 p q) [vi,vk]) (twoP 6 (colP p [vi,vk]) (colP q [vi,vk])) (col_sm (two_sm sp sq) lc) (two_sm (col_sm sp lc) (col_sm sq lc)) s hso (by omega)
      have F3:=equiv_spec (twoP 7 (twoP 7 p q) r) (twoP 7 p (twoP 6 q r)) (two_sm (two_sm sp sq) sr) (two_sm sp (two_sm sq sr)) s hso (by omega)
      rw [d1] at F1
      rw [d2] at F2
      rw [d3] at F3
      have hcol : ints [vi,vk] = [[.i .i64 vi],[.i .i64 vk]]:=rfl
      simp only [PlanD.cells_eq,hcol] at x1 x2 x3 x4 y1 y2 y3 y4 y5 z1 z2 z3 z4 F1 F2 F3
      unfold StrD.cells at F1 F2 F3
      repeat (first | refine nav ?_ | refine bo ?_)
      refine W_tab [(7,.ptr j7 0 0),(8,.ptr j8 0 0),(9,.ptr j9 0 0),(4,.ptr 0 0 0),(12,.i .i64 vi),(13,.i .i64 vj2),(14,.i .i64 vk),(15,.i .i64 vm)] (fun y hy=>?_) ?_
      ·simp only [List.mem_cons,List.not_mem_nil,or_false] at hy
       rcases hy with rfl | rfl | rfl | rfl | rfl | rfl | rfl | rfl
       all_goals (simp only [go_sem,s7,s8,s9,s4]<;>exact Le.refl _)
      (refine W_dreg (by decide +kernel) [] [0,1,2,3,4,5,6,7,8,9,10,11,12,13,14,15,16,17,18,19,20,21,22,23,24,25,26,27,28,29,30,31,32,33,34,35,36,37,38,39,40,41,42,43,44,45,46,47,48,49,50,51,52,53,54,55] [[],[],[],[],[],[4,3,2],[2,3,4,5,1,0],[],[],[],[],[],[0,1,5,4,3,2,6,11,10,9],[9,10,11,6,2,3,4,5,1,0,12,8,7],[],[14,7,8,12,11,10,9,13,0,1,5,4,3,2,6],[6,2,3,4,5,1,0,13,9,10,11,12,8,7,14,15],[15,14,7,8,12,11,10,9,13,0,1,5,4,3,2,6,16],[15,14,7,8,12,11,10,9,13,0,1,5,4,3,2,6,16],[18,16,6,2,3,4,5,1,0,13,9,10,11,12,8,7,14,15,17],[15,14,7,8,12,11,10,9,13,0,1,5,4,3,2,6,16],[15,14,7,8,12,11,10,9,13,0,1,5,4,3,2,6,16],[21,16,6,2,3,4,5,1,0,13,9,10,11,12,8,7,14,15,20],[20,21,22,17,15,14,7,8,12,11,10,9,13,0,1,5,4,3,2,6,16,18,19],[15,14,7,8,12,11,10,9,13,0,1,5,4,3,2,6,16],[15,14,7,8,12,11,10,9,13,0,1,5,4,3,2,6,16],[15,14,7,8,12,11,10,9,13,0,1,5,4,3,2,6,16],[26,16,6,2,3,4,5,1,0,13,9,10,11,12,8,7,14,15,25],[19,18,17,22,21,20,23,25,26,27,16,6,2,3,4,5,1,0,13,9,10,11,12,8,7,14,15,24],[15,14,7,8,12,11,10,9,13,0,1,5,4,3,2,6,16],[15,14,7,8,12,11,10,9,13,0,1,5,4,3,2,6,16],[15,14,7,8,12,11,10,9,13,0,1,5,4,3,2,6,16],[31,16,6,2,3,4,5,1,0,13,9,10,11,12,8,7,14,15,30],[24,27,26,25,23,20,21,22,17,18,19,28,30,31,32,16,6,2,3,4,5,1,0,13,9,10,11,12,8,7,14,15,29],[29,32,31,30,33,24,15,14,7,8,12,11,10,9,13,0,1,5,4,3,2,6,16,27,26,25,23,20,21,22,17,18,19,28],[15,14,7,8,12,11,10,9,13,0,1,5,4,3,2,6,16],[35,28,25,26,27,24,33,30,31,32,29,34,19,18,16,6,2,3,4,5,1,0,13,9,10,11,12,8,7,14,15,17,22,21,20,23],[23,20,21,22,17,18,19,34,29,32,31,30,33,24,27,26,25,28,35,36,15,14,7,8,12,11,10,9,13,0,1,5,4,3,2,6,16],[16,6,2,3,4,5,1,0,13,9,10,11,12,8,7,14,15,36,35,28,25,26,27,24,33,30,31,32,29,34,19,18,17,22,21,20,23,37],[37,23,20,21,22,17,18,19,34,29,32,31,30,33,24,27,26,25,28,35,36,15,14,7,8,12,11,10,9,13,0,1,5,4,3,2,6,16,38],[37,23,20,21,22,17,18,19,34,29,32,31,30,33,24,27,26,25,28,35,36,15,14,7,8,12,11,10,9,13,0,1,5,4,3,2,6,16,38],[40,38,16,6,2,3,4,5,1,0,13,9,10,11,12,8,7,14,15,36,35,28,25,26,27,24,33,30,31,32,29,34,19,18,17,22,21,20,23,37,39],[37,23,20,21,22,17,18,19,34,29,32,31,30,33,24,27,26,25,28,35,36,15,14,7,8,12,11,10,9,13,0,1,5,4,3,2,6,16,38],[42,39,37,23,20,21,22,17,18,19,34,29,32,31,30,33,24,27,26,25,28,35,36,15,14,7,8,12,11,10,9,13,0,1,5,4,3,2,6,16,38,40,41],[37,23,20,21,22,17,18,19,34,29,32,31,30,33,24,27,26,25,28,35,36,15,14,7,8,12,11,10,9,13,0,1,5,4,3,2,6,16,38],[37,23,20,21,22,17,18,19,34,29,32,31,30,33,24,27,26,25,28,35,36,15,14,7,8,12,11,10,9,13,0,1,5,4,3,2,6,16,38],[37,23,20,21,22,17,18,19,34,29,32,31,30,33,24,27,26,25,28,35,36,15,14,7,8,12,11,10,9,13,0,1,5,4,3,2,6,16,38],[41,40,39,42,43,46,38,16,6,2,3,4,5,1,0,13,9,10,11,12,8,7,14,15,36,35,28,25,26,27,24,33,30,31,32,29,34,19,18,17,22,21,20,23,37,45],[45,46,43,42,39,40,41,47,38,16,6,2,3,4,5,1,0,13,9,10,11,12,8,7,14,15,36,35,28,25,26,27,24,33,30,31,32,29,34,19,18,17,22,21,20,23,37,44],[37,23,20,21,22,17,18,19,34,29,32,31,30,33,24,27,26,25,28,35,36,15,14,7,8,12,11,10,9,13,0,1,5,4,3,2,6,16,38],[49,44,47,46,45,48,41,40,38,16,6,2,3,4,5,1,0,13,9,10,11,12,8,7,14,15,36,35,28,25,26,27,24,33,30,31,32,29,34,19,18,17,22,21,20,23,37,39,42,43],[43,42,39,40,41,48,45,46,47,44,49,50,37,23,20,21,22,17,18,19,34,29,32,31,30,33,24,27,26,25,28,35,36,15,14,7,8,12,11,10,9,13,0,1,5,4,3,2,6,16,38],[38,16,6,2,3,4,5,1,0,13,9,10,11,12,8,7,14,15,36,35,28,25,26,27,24,33,30,31,32,29,34,19,18,17,22,21,20,23,37,50,49,44,47,46,45,48,41,40,39,42,43,51],[51,43,42,39,40,41,48,45,46,47,44,49,50,37,23,20,21,22,17,18,19,34,29,32,31,30,33,24,27,26,25,28,35,36,15,14,7,8,12,11,10,9,13,0,1,5,4,3,2,6,16,38,52],[53,51,43,42,39,40,41,48,45,46,47,44,49,50,37,23,20,21,22,17,18,19,34,29,32,31,30,33,24,27,26,25,28,35,36,15,14,7,8,12,11,10,9,13,0,1,5,4,3,2,6,16,38,52],[52,38,16,6,2,3,4,5,1,0,13,9,10,11,12,8,7,14,15,36,35,28,25,26,27,24,33,30,31,32,29,34,19,18,17,22,21,20,23,37,50,49,44,47,46,45,48,41,40,39,42,43,51,53,54]] (by decide +kernel) rfl fun K R hK hR=>?_;simp only [List.filterMap_cons,List.filterMap_nil,List.getElem?_cons_zero,List.getElem?_cons_succ,List.cons_append,List.nil_append];simp only [go_sem,u0,u7,u8,u9];(try go_ints);(try simp only [go_sem,u0,u7,u8,u9]);(repeat refine And.intro side ?_);(first|refine hK _ ?_|refine hR _ _ ?_);clear hK hR K R)
      refine D_callD (x1) rfl rfl rfl (by first | (simp only [go_sem]<;>first | exact LeA.refl _ | exact Le.refl _) | exact LeA.refl _) rfl rfl rfl rfl ?_
      (refine D_reg fun K R hK hR=>?_;simp only [go_sem,u0,u7,u8,u9];(try go_ints);(try simp only [go_sem,u0,u7,u8,u9]);(repeat refine And.intro side ?_);(first|refine hK _ ?_|refine hR _ _ ?_);clear hK hR K R)
      refine D_callD (x2) rfl rfl rfl (by first | (simp only [go_sem]<;>first | exact LeA.refl _ | exact Le.refl _) | exact LeA.refl _) rfl rfl rfl rfl ?_
      (refine D_reg fun K R hK hR=>?_;simp only [go_sem,u0,u7,u8,u9];(try go_ints);(try simp only [go_sem,u0,u7,u8,u9]);(repeat refine And.intro side ?_);(first|refine hK _ ?_|refine hR _ _ ?_);clear hK hR K R)
      refine D_callD (x3) rfl rfl rfl (by first | (simp only [go_sem]<;>first | exact LeA.refl _ | exact Le.refl _) | exact LeA.refl _) rfl rfl rfl rfl ?_
      (refine D_reg fun K R hK hR=>?_;simp only [go_sem,u0,u7,u8,u9];(try go_ints);(try simp only [go_sem,u0,u7,u8,u9]);(repeat refine And.intro side ?_);(first|refine hK _ ?_|refine hR _ _ ?_);clear hK hR K R)
      refine D_callD (x4) rfl rfl rfl (by first | (simp only [go_sem]<;>first | exact LeA.refl _ | exact Le.refl _) | exact LeA.refl _) rfl rfl rfl rfl ?_
      (refine D_reg fun K R hK hR=>?_;simp only [go_sem,u0,u7,u8,u9];(try go_ints);(try simp only [go_sem,u0,u7,u8,u9]);(repeat refine And.intro side ?_);(first|refine hK _ ?_|refine hR _ _ ?_);clear hK hR K R)
      refine D_callD (F1) rfl rfl rfl (by first | (simp only [go_sem]<;>first | exact LeA.refl _ | exact Le.refl _) | exact LeA.refl _) rfl rfl rfl rfl ?_
      (refine D_reg fun K R hK hR=>?_;simp only [go_sem,u0,u7,u8,u9];(try go_ints);(try simp only [go_sem,u0,u7,u8,u9]);(repeat refine And.intro side ?_);(first|refine hK _ ?_|refine hR _ _ ?_);clear hK hR K R)
      refine D_callDg rfl (by simp only [go_sem]<;>exact rfl) (fun e=>y1) rfl rfl rfl (fun e=>by (try simp only [go_sem] at e);simp only [go_sem,e]<;>(try simp only [go_sem])<;>first | exact LeA.refl _ | exact Le.refl _) rfl rfl rfl rfl ?_
      (refine D_reg fun K R hK hR=>?_;simp only [go_sem,u0,u7,u8,u9];(try go_ints);(try simp only [go_sem,u0,u7,u8,u9]);(repeat refine And.intro side ?_);(first|refine hK _ ?_|refine hR _ _ ?_);clear hK hR K R)
      refine D_callDg rfl (by simp only [go_sem]<;>exact rfl) (fun e=>y2) rfl rfl rfl (fun e=>by (try simp only [go_sem] at e);simp only [go_sem,e]<;>(try simp only [go_sem])<;>first | exact LeA.refl _ | exact Le.refl _) rfl rfl rfl rfl ?_
      (refine D_reg fun K R hK hR=>?_;simp only [go_sem,u0,u7,u8,u9];(try go_ints);(try simp only [go_sem,u0,u7,u8,u9]);(repeat refine And.intro side ?_);(first|refine hK _ ?_|refine hR _ _ ?_);clear hK hR K R)
      refine D_callDg rfl (by simp only [go_sem]<;>exact rfl) (fun e=>y3) rfl rfl rfl (fun e=>by (try simp only [go_sem] at e);simp only [go_sem,e]<;>(try simp only [go_sem])<;>first | exact LeA.refl _ | exact Le.refl _) rfl rfl rfl rfl ?_
      (refine D_reg fun K R hK hR=>?_;simp only [go_sem,u0,u7,u8,u9];(try go_ints);(try simp only [go_sem,u0,u7,u8,u9]);(repeat refine And.intro side ?_);(first|refine hK _ ?_|refine hR _ _ ?_);clear hK hR K R)
      refine D_callDg rfl (by simp only [go_sem]<;>exact rfl) (fun e=>y4) rfl rfl rfl (fun e=>by (try simp only [go_sem] at e);simp only [go_sem,e]<;>(try simp only [go_sem])<;>first | exact LeA.refl _ | exact Le.refl _) rfl rfl rfl rfl ?_
      (refine D_reg fun K R hK hR=>?_;simp only [go_sem,u0,u7,u8,u9];(try go_ints);(try simp only [go_sem,u0,u7,u8,u9]);(repeat refine And.intro side ?_);(first|refine hK _ ?_|refine hR _ _ ?_);clear hK hR K R)
      refine D_callDg rfl (by simp only [go_sem]<;>exact rfl) (fun e=>y5) rfl rfl rfl (fun e=>by (try simp only [go_sem] at e);simp only [go_sem,e]<;>(try simp only [go_sem])<;>first | exact LeA.refl _ | exact Le.refl _) rfl rfl rfl rfl ?_
      (refine D_reg fun K R hK hR=>?_;simp only [go_sem,u0,u7,u8,u9];(try go_ints);(try simp only [go_sem,u0,u7,u8,u9]);(repeat refine And.intro side ?_);(first|refine hK _ ?_|refine hR _ _ ?_);clear hK hR K R)
      refine D_callDg rfl (by simp only [go_sem]<;>exact rfl) (fun e=>F2) rfl rfl rfl (fun e=>by (try simp only [go_sem] at e);simp only [go_sem,e]<;>(try simp only [go_sem])<;>first | exact LeA.refl _ | exact Le.refl _) rfl rfl rfl rfl ?_
      (refine D_reg fun K R hK hR=>?_;simp only [go_sem,u0,u7,u8,u9];(try go_ints);(try simp only [go_sem,u0,u7,u8,u9]);(repeat refine And.intro side ?_);(first|refine hK _ ?_|refine hR _ _ ?_);clear hK hR K R)
      refine D_callDg rfl (by simp only [go_sem]<;>exact rfl) (fun e=>z1) rfl rfl rfl (fun e=>by (try simp only [go_sem] at e);simp only [go_sem,e]<;>(try simp only [go_sem])<;>first | exact LeA.refl _ | exact Le.refl _) rfl rfl rfl rfl ?_
      (refine D_reg fun K R hK hR=>?_;simp only [go_sem,u0,u7,u8,u9];(try go_ints);(try simp only [go_sem,u0,u7,u8,u9]);(repeat refine And.intro side ?_);(first|refine hK _ ?_|refine hR _ _ ?_);clear hK hR K R)
      refine D_callDg rfl (by simp only [go_sem]<;>exact rfl) (fun e=>z2) rfl rfl rfl (fun e=>by (try simp only [go_sem] at e);simp only [go_sem,e]<;>(try simp only [go_sem])<;>first | exact LeA.refl _ | exact Le.refl _) rfl rfl rfl rfl ?_
      (refine D_reg fun K R hK hR=>?_;simp only [go_sem,u0,u7,u8,u9];(try go_ints);(try simp only [go_sem,u0,u7,u8,u9]);(repeat refine And.intro side ?_);(first|refine hK _ ?_|refine hR _ _ ?_);clear hK hR K R)
      refine D_callDg rfl (by simp only [go_sem]<;>exact rfl) (fun e=>z3) rfl rfl rfl (fun e=>by (try simp only [go_sem] at e);simp only [go_sem,e]<;>(try simp only [go_sem])<;>first | exact LeA.refl _ | exact Le.refl _) rfl rfl rfl rfl ?_
      (refine D_reg fun K R hK hR=>?_;simp only [go_sem,u0,u7,u8,u9];(try go_ints);(try simp only [go_sem,u0,u7,u8,u9]);(repeat refine And.intro side ?_);(first|refine hK _ ?_|refine hR _ _ ?_);clear hK hR K R)
      refine D_callDg rfl (by simp only [go_sem]<;>exact rfl) (fun e=>z4) rfl rfl rfl (fun e=>by (try simp only [go_sem] at e);simp only [go_sem,e]<;>(try simp only [go_sem])<;>first | exact LeA.refl _ | exact Le.refl _) rfl rfl rfl rfl ?_
      (refine D_reg fun K R hK hR=>?_;simp only [go_sem,u0,u7,u8,u9];(try go_ints);(try simp only [go_sem,u0,u7,u8,u9]);(repeat refine And.intro side ?_);(first|refine hK _ ?_|refine hR _ _ ?_);clear hK hR K R)
      refine D_callDg rfl (by simp only [go_sem]<;>exact rfl) (fun e=>F3) rfl rfl rfl (fun e=>by (try simp only [go_sem] at e);simp only [go_sem,e]<;>(try simp only [go_sem])<;>first | exact LeA.refl _ | exact Le.refl _) rfl rfl rfl rfl ?_
      (refine D_reg fun K R hK hR=>?_;simp only [go_sem,u0,u7,u8,u9];(try go_ints);(try simp only [go_sem,u0,u7,u8,u9]);(repeat refine And.intro side ?_);(first|refine hK _ ?_|refine hR _ _ ?_);clear hK hR K R)
      refine D_callDg rfl (by simp only [go_sem]<;>exact rfl) (fun e=>hal) rfl rfl rfl (fun e=>by (try simp only [go_sem] at e);simp only [go_sem,e]<;>(try simp only [go_sem])<;>first | exact LeA.refl _ | exact Le.refl _) rfl rfl rfl rfl ?_
      (refine D_reg fun K R hK hR=>?_;simp only [go_sem];(try go_ints);(repeat refine And.intro side ?_);(first|refine hK _ ?_|refine hR _ _ ?_);clear hK hR K R)
      repeat (first | refine nav ?_ | refine bo ?_)
      refine endQ_data (by simp only [go_sem]<;>exact rfl) (Le.of_eq ?_) rfl
      rfl
end Go.AW
