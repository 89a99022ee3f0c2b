/-
Are two plans equal? The program's same, the document's Same; fewer.
-/
import Derived.Test.YtfjdiofipbchcaaGreatKaj
namespace Go.AW
open Go Go.Proofs TyTryz Go.IntWalk
set_option linter.unusedSimpArgs false
set_option linter.unusedVariables false
set_option maxRecDepth 10000
set_option maxHeartbeats 2000000
mutual
/-- Two plans with the same fields. -/
def sameF : PlanD → PlanD → Bool
 | .mk k w i j nm cs ks,q=>(k == q.kind) && (w == q.width) && (i == q.i) && (j == q.j) && (nm.toList == q.name.toList) && decide (cs = q.cols) && sameL ks q.kids
def sameL : List PlanD → List PlanD → Bool
 | [],l=>l.isEmpty
 | p :: r,l=>match l with
  | []=>false
  | q :: s=>sameF p q && sameL r s
end
theorem sameF_eq (p q : PlanD) : sameF p q = ((p.kind == q.kind) && (p.width == q.width) && (p.i == q.i) && (p.j == q.j) && (p.name.toList == q.name.toList) && decide (p.cols = q.cols) && sameL p.kids q.kids):=by
 cases p;rfl
theorem sameL_iff : ∀ (a b : List PlanD),sameL a b = true ↔ a.length = b.length ∧ ∀ (k : Nat) (x y : PlanD),a[k]? = some x → b[k]? = some y → sameF x y = true
 | [],b=>by cases b<;>simp [sameL]
 | p :: r,[]=>by simp [sameL]
 | p :: r,q :: s=>by
  simp only [sameL,Bool.and_eq_true,sameL_iff r s,List.length_cons,Nat.add_right_cancel_iff]
  constructor
  ·rintro ⟨h1,h2,h3⟩
   refine ⟨h2,fun k x y hx hy=>?_⟩
   cases k with
   | zero=>simp at hx hy;subst hx hy;exact h1
   | succ k=>exact h3 k x y (by simpa using hx) (by simpa using hy)
  ·rintro ⟨h1,h2⟩
   exact ⟨h2 0 p q rfl rfl,h1,fun k x y hx hy=>h2 (k + 1) x y (by simpa using hx) (by simpa using hy)⟩
theorem sameL_false_of {a b : List PlanD} {k : Nat} {x y : PlanD} (hx : a[k]? = some x) (hy : b[k]? = some y) (h : sameF x y = false) : sameL a b = false:=by
 cases hs : sameL a b with
 | false=>rfl
 | true=>rw [((sameL_iff a b).1 hs).2 k x y hx hy] at h;cases h
theorem sameL_len {a b : List PlanD} (h : a.length ≠ b.length) : sameL a b = false:=by
 cases hs : sameL a b with
 | false=>rfl
 | true=>exact absurd ((sameL_iff a b).1 hs).1 h
theorem equalF_spec (a b : List PlanD) (ha : a.length ≤ 1073741824) (hb' : b.length ≤ 1073741824) (h : ∀ x ∈ a,∀ y ∈ b,ACallsD Tryz.prog 68 [.agg x.cells,.agg y.cells] (.b (sameF x y))) :
  ACallsD Tryz.prog 92 [.sl 7 (plans a),.sl 7 (plans b),.fn 68 []] (.b (sameL a b)):=by
 refine ACalls_of' (n:=32) (rs:=[.tmp 6]) (show Tryz.prog.funcs[92]? = some Tryz.f92 by kernel_rfl) rfl rfl rfl (by simp) (by decide +kernel) ?_
 repeat (first | refine nav ?_ | refine bo ?_)
 (refine wr fun K R hK hR=>?_;simp only [go_sem];(try go_ints);(repeat refine And.intro side ?_);(first|refine hK _ ?_|refine hR _ _ ?_);clear hK hR K R)
 repeat (first | refine nav ?_ | refine bo ?_)
 (refine wr fun K R hK hR=>?_;simp only [go_sem,plans_len];(try go_ints);(try simp only [go_sem,plans_len]);(repeat refine And.intro side ?_);(first|refine hK _ ?_|refine hR _ _ ?_);clear hK hR K R)
 repeat (first | refine nav ?_ | refine bo ?_)
 refine W_cond (b:=decide (a.length ≠ b.length)) (by simp only [go_sem];simp [bne];rw [Bool.eq_iff_iff];simp;omega) (fun hd=>?_) (fun hd=>?_)
 ·rw [sameL_len (by simpa using hd)]
  repeat (first | refine nav ?_ | refine bo ?_)
  (refine wr fun K R hK hR=>?_;simp only [go_sem];(try go_ints);(repeat refine And.intro side ?_);(first|refine hK _ ?_|refine hR _ _ ?_);clear hK hR K R)
  repeat (first | refine nav ?_ | refine bo ?_)
  refine endQ_data (by simp only [go_sem]<;>exact rfl) (Le.of_eq ?_) rfl
  rfl
 ·have hl : a.length = b.length:=by simpa using hd
  repeat (first | refine nav ?_ | refine bo ?_)
  (refine wr fun K R hK hR=>?_;simp only [go_sem,plans_len];(try go_ints);(try simp only [go_sem,plans_len]);(repeat refine And.intro side ?_);(first|refine hK _ ?_|refine hR _ _ ?_);clear hK hR K R)
  repeat (first | refine nav ?_ | refine bo ?_)
  refine W_for 17 32 [7,8,9] (fun m t o=>∃ k : Nat,okO o = true ∧ t 17 = .i .i64 k ∧ m = a.length - k ∧ k ≤ a.length ∧ ∀ i < k,∀ x y,a[i]? = some x → b[i]? = some y → sameF x y = true) a.length ⟨0,rfl,by simp only [go_sem]<;>rfl,by omega,by omega,by simp⟩ ?_
  rintro m t o ⟨k,hok,h17,rfl,hk,hi⟩
  repeat (first | refine nav ?_ | refine bo ?_)
  (refine wr fun K R hK hR=>?_;simp only [go_sem,h17];(try go_ints);(try simp only [go_sem,h17]);(repeat refine And.intro side ?_);(first|refine hK _ ?_|refine hR _ _ ?_);clear hK hR K R)
  repeat (first | refine nav ?_ | refine bo ?_)
  refine W_cond (by simp only [go_sem]<;>exact rfl) (fun hb=>?_) (fun hb=>?_)
  ·have hb1 : k < a.length:=by simpa using hb
   obtain ⟨x,hx⟩ : ∃ x,a[k]? = some x:=⟨_,List.getElem?_eq_getElem hb1⟩
   obtain ⟨y,hy⟩ : ∃ y,b[k]? = some y:=⟨_,List.getElem?_eq_getElem (by omega)⟩
   have hs:=h x (List.mem_of_getElem? hx) y (List.mem_of_getElem? hy)
   rw [x.cells_eq,y.cells_eq] at hs
   repeat (first | refine nav ?_ | refine bo ?_)
   (refine wr fun K R hK hR=>?_;simp only [go_sem,h17,plans_get hx];(try go_ints);(try simp only [go_sem,h17,plans_get hx]);(repeat refine And.intro side ?_);(first|refine hK _ ?_|refine hR _ _ ?_);clear hK hR K R)
   repeat (first | refine nav ?_ | refine bo ?_)
   (refine wr fun K R hK hR=>?_;simp only [go_sem,h17,plans_get hy];(try go_ints);(try simp only [go_sem,h17,plans_get hy]);(repeat refine And.intro side ?_);(first|refine hK _ ?_|refine hR _ _ ?_);clear hK hR K R)
   repeat (first | refine nav ?_ | refine bo ?_)
   (refine wr fun K R hK hR=>?_;simp only [go_sem];(try go_ints);(repeat refine And.intro side ?_);(first|refine hK _ ?_|refine hR _ _ ?_);clear hK hR K R)
   have hok2 : okO (o ++ [boxP x,boxP y]) = true:=okO_app hok rfl
   refine RL_callQ (hs.frame rfl rfl _) (by simp only [go_sem]<;>exact rfl) rfl rfl (by simp) (by simp only [go_sem]<;>exact LeA.refl _) hok2 rfl rfl ?_
   (refine rr fun K R hK hR=>?_;simp only [go_sem];(try go_ints);(repeat refine And.intro side ?_);(first|refine hK _ ?_|refine hR _ _ ?_);clear hK hR K R)
   repeat (first | refine nav ?_ | refine bo ?_)
   refine W_cond (b:=!sameF x y) (by simp only [go_sem]) (fun hd=>?_) (fun hd=>?_)
   ·rw [sameL_false_of hx hy (by simpa using hd)]
    repeat (first | refine nav ?_ | refine bo ?_)
    (refine wr fun K R hK hR=>?_;simp only [go_sem];(try go_ints);(repeat refine And.intro side ?_);(first|refine hK _ ?_|refine hR _ _ ?_);clear hK hR K R)
    repeat (first | refine nav ?_ | refine bo ?_)
    refine endQ_data (by simp only [go_sem]<;>exact rfl) (Le.of_eq ?_) rfl
    rfl
   ·repeat (first | refine nav ?_ | refine bo ?_)
    (refine wr fun K R hK hR=>?_;simp only [go_sem,h17];(try go_ints);(try simp only [go_sem,h17]);(repeat refine And.intro side ?_);(first|refine hK _ ?_|refine hR _ _ ?_);clear hK hR K R)
    refine forQ_normal (a.length - (k + 1)) (by omega) ⟨k + 1,hok2,by simp only [go_sem]<;>rfl,rfl,hb1,fun i hik x' y' hx' hy'=>?_⟩
    rcases Nat.lt_succ_iff_lt_or_eq.1 hik with h1 | rfl
    ·exact hi i h1 x' y' hx' hy'
    ·rw [hx] at hx';rw [hy] at hy'
     obtain rfl:=Option.some.inj hx'
     obtain rfl:=Option.some.inj hy'
     simpa using hd
  ·simp at hb
   obtain rfl : k = a.length:=by omega
   rw [(sameL_iff a b).2 ⟨hl,fun i x y hx hy=>hi i (List.getElem?_eq_some_iff.1 hx).1 x y hx hy⟩]
   repeat (first | refine nav ?_ | refine bo ?_)
   (refine wr fun K R hK hR=>?_;simp only [go_sem];(try go_ints);(repeat refine And.intro side ?_);(first|refine hK _ ?_|refine hR _ _ ?_);clear hK hR K R)
   repeat (first | refine nav ?_ | refine bo ?_)
   refine endQ_data (by simp only [go_sem]<;>exact rfl) (Le.of_eq ?_) rfl
   rfl
theorem same_spec : ∀ (p : PlanD),p.Sm → ∀ q : PlanD,q.Sm → ACallsD Tryz.prog 68 [.agg p.cells,.agg q.cells] (.b (sameF p q)) :=
 PlanD.ind fun p ih hp q hq=>by
  have heq:=equalF_spec p.kids q.kids hp.len hq.len (fun x hx y hy=>ih x hx (hp.kid x hx) y (hq.kid y hy))
  have hei:=equalI_spec p.cols q.cols (by have:=hp.cols;omega) (by have:=hq.cols;omega)
  rw [p.cells_eq,q.cells_eq]
  refine ACalls_of' (n:=52) (rs:=[.tmp 4]) (show Tryz.prog.funcs[68]? = some Tryz.f68 by kernel_rfl) rfl rfl rfl (by simp) (by decide +kernel) ?_
  repeat (first | refine nav ?_ | refine bo ?_)
  (refine wr fun K R hK hR=>?_;simp only [go_sem];(try go_ints);(repeat refine And.intro side ?_);(first|refine hK _ ?_|refine hR _ _ ?_);clear hK hR K R)
  repeat (first | refine nav ?_ | refine bo ?_)
  (refine wr fun K R hK hR=>?_;simp only [go_sem];(try go_ints);(repeat refine And.intro side ?_);(first|refine hK _ ?_|refine hR _ _ ?_);clear hK hR K R)
  refine RL_callDg rfl (by simp only [go_sem]<;>exact rfl) (fun e=>hei) rfl rfl rfl (fun e=>by (try simp only [go_sem] at e);simp only [go_sem,e]<;>(try simp only [go_sem])<;>first | exact LeA.refl _ | exact Le.refl _) rfl rfl ?_
  (refine rr fun K R hK hR=>?_;simp only [go_sem];(try go_ints);(repeat refine And.intro side ?_);(first|refine hK _ ?_|refine hR _ _ ?_);clear hK hR K R)
  refine RL_callDg rfl (by simp only [go_sem]<;>exact rfl) (fun e=>heq) rfl rfl rfl (fun e=>by (try simp only [go_sem] at e);simp only [go_sem,e]<;>(try simp only [go_sem])<;>first | exact LeA.refl _ | exact Le.refl _) rfl rfl ?_
  (refine rr fun K R hK hR=>?_;simp only [go_sem];(try go_ints);(repeat refine And.intro side ?_);(first|refine hK _ ?_|refine hR _ _ ?_);clear hK hR K R)
  repeat (first | refine nav ?_ | refine bo ?_)
  refine endQ_data (by simp only [go_sem]<;>exact rfl) (Le.of_eq ?_) rfl
  rw [sameF_eq]
theorem rsame_spec : ∀ (p : PlanD),p.Sm → ∀ q : PlanD,q.Sm → ACallsD Tryz.prog 13 [.agg p.cells,.agg q.cells] (.b (sameF p q)) :=
 PlanD.ind fun p ih hp q hq=>by
  have hpl:=hp.len
  have hql:=hq.len
  have hei:=equal_spec p.cols q.cols (by have:=hp.cols;omega)
  rw [p.cells_eq,q.cells_eq]
  refine ACalls_of' (n:=75) (rs:=[.tmp 4]) (show Tryz.prog.funcs[13]? = some Tryz.f13 by kernel_rfl) rfl rfl rfl (by simp) (by decide +kernel) ?_
  repeat (first | refine nav ?_ | refine bo ?_)
  (refine wr fun K R hK hR=>?_;simp only [go_sem];(try go_ints);(repeat refine And.intro side ?_);(first|refine hK _ ?_|refine hR _ _ ?_);clear hK hR K R)
  repeat (first | refine nav ?_ | refine bo ?_)
  (refine wr fun K R hK hR=>?_;simp only [go_sem];(try go_ints);(repeat refine And.intro side ?_);(first|refine hK _ ?_|refine hR _ _ ?_);clear hK hR K R)
  refine RL_callDg rfl (by simp only [go_sem]<;>exact rfl) (fun e=>hei) rfl rfl rfl (fun e=>by (try simp only [go_sem] at e);simp only [go_sem,e]<;>(try simp only [go_sem])<;>first | exact LeA.refl _ | exact Le.refl _) rfl rfl ?_
  (refine rr fun K R hK hR=>?_;simp only [go_sem,plans_len];(try go_ints);(try simp only [go_sem,plans_len]);(repeat refine And.intro side ?_);(first|refine hK _ ?_|refine hR _ _ ?_);clear hK hR K R)
  repeat (first | refine nav ?_ | refine bo ?_)
  refine W_cond (by simp only [go_sem]<;>exact rfl) (fun hb=>?_) (fun hb=>?_)
  ·have hF : sameF p q = false:=by
    cases h : sameF p q with
    | false=>rfl
    | true =>
     rw [sameF_eq] at h
     simp only [Bool.and_eq_true,beq_iff_eq,decide_eq_true_eq] at h
     obtain ⟨⟨⟨⟨⟨⟨h1,h2⟩,h3⟩,h4⟩,h5⟩,h6⟩,h7⟩:=h
     have h8:=((sameL_iff _ _).1 h7).1
     simp [h1,h2,h3,h4,h5,h6,h8] at hb
   rw [hF]
   repeat (first | refine nav ?_ | refine bo ?_)
   (refine wr fun K R hK hR=>?_;simp only [go_sem];(try go_ints);(repeat refine And.intro side ?_);(first|refine hK _ ?_|refine hR _ _ ?_);clear hK hR K R)
   repeat (first | refine nav ?_ | refine bo ?_)
   refine endQ_data (by simp only [go_sem]<;>exact rfl) (Le.of_eq ?_) rfl
   rfl
  ·have hb' : ((p.kind = q.kind ∧ p.width = q.width ∧ p.i = q.i ∧ p.j = q.j ∧ p.name.toList = q.name.toList) ∧ p.cols = q.cols) ∧ p.kids.length = q.kids.length:=by
    simp at hb
    obtain ⟨q1,q2⟩:=hb
    have q3 : p.kids.length = q.kids.length:=by omega
    simp [q1,q3]
   obtain ⟨⟨⟨h1,h2,h3,h4,h5⟩,h6⟩,hl⟩:=hb'
   have hF : sameF p q = sameL p.kids q.kids:=by rw [sameF_eq];simp [h1,h2,h3,h4,h5,h6]
   rw [hF]
   repeat (first | refine nav ?_ | refine bo ?_)
   (refine wr fun K R hK hR=>?_;simp only [go_sem];(try go_ints);(repeat refine And.intro side ?_);(first|refine hK _ ?_|refine hR _ _ ?_);clear hK hR K R)
   repeat (first | refine nav ?_ | refine bo ?_)
   refine W_for 56 75 [5] (fun m t o=>∃ k : Nat,[boxP p,boxP q] = o ∧ t 5 = .i .i64 k ∧ m = p.kids.length - k ∧ k ≤ p.kids.length ∧ ∀ i < k,∀ x y,p.kids[i]? = some x → q.kids[i]? = some y → sameF x y = true) p.kids.length ⟨0,rfl,by simp only [go_sem]<;>rfl,by omega,by omega,by simp⟩ ?_
   rintro m t o ⟨k,rfl,h5,rfl,hk,hi⟩
   repeat (first | refine nav ?_ | refine bo ?_)
   (refine wr fun K R hK hR=>?_;simp only [go_sem,h5,plans_len];(try go_ints);(try simp only [go_sem,h5,plans_len]);(repeat refine And.intro side ?_);(first|refine hK _ ?_|refine hR _ _ ?_);clear hK hR K R)
   repeat (first | refine nav ?_ | refine bo ?_)
   refine W_cond (by simp only [go_sem]<;>exact rfl) (fun hb=>?_) (fun hb=>?_)
   ·have hb1 : k < p.kids.length:=by simpa using hb
    obtain ⟨x,hx⟩ : ∃ x,p.kids[k]? = some x:=⟨_,List.getElem?_eq_getElem hb1⟩
    obtain ⟨y,hy⟩ : ∃ y,q.kids[k]? = some y:=⟨_,List.getElem?_eq_getElem (by omega)⟩
    have hs:=ih x (List.mem_of_getElem? hx) (hp.kid x (List.mem_of_getElem? hx)) y (hq.kid y (List.mem_of_getElem? hy))
    rw [x.cells_eq,y.cells_eq] at hs
    repeat (first | refine nav ?_ | refine bo ?_)
    (refine W_dreg (by decide +kernel) [] [0,1,2,3,4,5,6,7,8,9,10,11] [[],[0],[],[2,0,1],[1,0,2,3],[],[5],[],[7,5,6],[6,5,7,8],[8,7,5,6,9,3,2,0,1,4],[4,1,0,2,3,9,6,5,7,8,10]] (by decide +kernel) rfl fun K R hK hR=>?_;simp only [List.filterMap_cons,List.filterMap_nil,List.getElem?_cons_zero,List.getElem?_cons_succ,List.cons_append,List.nil_append];simp only [go_sem,h5,plans_get hx,plans_get hy,plans_len];(try go_ints);(try simp only [go_sem,h5,plans_get hx,plans_get hy,plans_len]);(repeat refine And.intro side ?_);(first|refine hK _ ?_|refine hR _ _ ?_);clear hK hR K R)
    refine D_callD (hs) rfl rfl rfl (by first | (simp only [go_sem]<;>first | exact LeA.refl _ | exact Le.refl _) | exact LeA.refl _) rfl rfl rfl rfl ?_
    (refine D_reg fun K R hK hR=>?_;simp only [go_sem];(try go_ints);(repeat refine And.intro side ?_);(first|refine hK _ ?_|refine hR _ _ ?_);clear hK hR K R)
    repeat (first | refine nav ?_ | refine bo ?_)
    refine W_cond (b:=!sameF x y) (by simp only [go_sem]) (fun hd=>?_) (fun hd=>?_)
    ·rw [sameL_false_of hx hy (by simpa using hd)]
     repeat (first | refine nav ?_ | refine bo ?_)
     (refine wr fun K R hK hR=>?_;simp only [go_sem];(try go_ints);(repeat refine And.intro side ?_);(first|refine hK _ ?_|refine hR _ _ ?_);clear hK hR K R)
     repeat (first | refine nav ?_ | refine bo ?_)
     refine endQ_data (by simp only [go_sem]<;>exact rfl) (Le.of_eq ?_) rfl
     rfl
    ·repeat (first | refine nav ?_ | refine bo ?_)
     (refine wr fun K R hK hR=>?_;simp only [go_sem,h5];(try go_ints);(try simp only [go_sem,h5]);(repeat refine And.intro side ?_);(first|refine hK _ ?_|refine hR _ _ ?_);clear hK hR K R)
     refine forQ_normal (p.kids.length - (k + 1)) (by omega) ⟨k + 1,rfl,by simp only [go_sem]<;>rfl,rfl,hb1,fun i hik x' y' hx' hy'=>?_⟩
     rcases Nat.lt_succ_iff_lt_or_eq.1 hik with h1 | rfl
     ·exact hi i h1 x' y' hx' hy'
     ·rw [hx] at hx';rw [hy] at hy'
      obtain rfl:=Option.some.inj hx'
      obtain rfl:=Option.some.inj hy'
      simpa using hd
   ·simp at hb
    obtain hke : k = p.kids.length:=by omega
    subst hke
    rw [(sameL_iff p.kids q.kids).2 ⟨hl,fun i x y hx hy=>hi i (List.getElem?_eq_some_iff.1 hx).1 x y hx hy⟩]
    repeat (first | refine nav ?_ | refine bo ?_)
    (refine wr fun K R hK hR=>?_;simp only [go_sem];(try go_ints);(repeat refine And.intro side ?_);(first|refine hK _ ?_|refine hR _ _ ?_);clear hK hR K R)
    repeat (first | refine nav ?_ | refine bo ?_)
    refine endQ_data (by simp only [go_sem]<;>exact rfl) (Le.of_eq ?_) rfl
    rfl
def fewerF (a b : Names) : Bool:=a.all fun x=>b.any fun y=>(x.1 == y.1) && (x.2 == y.2)
theorem fewer_spec (a b : Names) (ha : a.length ≤ 1099511627776) (hb' : b.length ≤ 1099511627776) : ACallsD Tryz.prog 16 [.sl 2 (nsyms a),.sl 2 (nsyms b)] (.b (fewerF a b)):=by
 refine ACalls_of' (n:=34) (rs:=[.tmp 4]) (show Tryz.prog.funcs[16]? = some Tryz.f16 by kernel_rfl) rfl rfl rfl (by simp) (by decide +kernel) ?_
 repeat (first | refine nav ?_ | refine bo ?_)
 (refine wr fun K R hK hR=>?_;simp only [go_sem];(try go_ints);(repeat refine And.intro side ?_);(first|refine hK _ ?_|refine hR _ _ ?_);clear hK hR K R)
 repeat (first | refine nav ?_ | refine bo ?_)
 (refine wr fun K R hK hR=>?_;simp only [go_sem];(try go_ints);(repeat refine And.intro side ?_);(first|refine hK _ ?_|refine hR _ _ ?_);clear hK hR K R)
 repeat (first | refine nav ?_ | refine bo ?_)
 refine W_for 8 34 [5,6,7] (fun m t o=>∃ k : Nat,[] = o ∧ t 5 = .i .i64 k ∧ m = a.length - k ∧ k ≤ a.length ∧ ∀ i < k,∀ x,a[i]? = some x → (b.any fun y=>(x.1 == y.1) && (x.2 == y.2)) = true) a.length ⟨0,rfl,by simp only [go_sem]<;>rfl,by omega,by omega,by simp⟩ ?_
 rintro m t o ⟨k,rfl,h5,rfl,hk,hi⟩
 repeat (first | refine nav ?_ | refine bo ?_)
 (refine wr fun K R hK hR=>?_;simp only [go_sem,h5,nsyms_len];(try go_ints);(try simp only [go_sem,h5,nsyms_len]);(repeat refine And.intro side ?_);(first|refine hK _ ?_|refine hR _ _ ?_);clear hK hR K R)
 repeat (first | refine nav ?_ | refine bo ?_)
 refine W_cond (by simp only [go_sem]<;>exact rfl) (fun hb=>?_) (fun hb=>?_)
 ·have hb1 : k < a.length:=by simpa using hb
  obtain ⟨x,hx⟩ : ∃ x,a[k]? = some x:=⟨_,List.getElem?_eq_getElem hb1⟩
  repeat (first | refine nav ?_ | refine bo ?_)
  (refine wr fun K R hK hR=>?_;simp only [go_sem];(try go_ints);(repeat refine And.intro side ?_);(first|refine hK _ ?_|refine hR _ _ ?_);clear hK hR K R)
  repeat (first | refine nav ?_ | refine bo ?_)
  (refine wr fun K R hK hR=>?_;simp only [go_sem];(try go_ints);(repeat refine And.intro side ?_);(first|refine hK _ ?_|refine hR _ _ ?_);clear hK hR K R)
  repeat (first | refine nav ?_ | refine bo ?_)
  refine W_for 14 32 [6,7] (fun m t2 o=>∃ j : Nat,[] = o ∧ t2 7 = .i .i64 j ∧ t2 6 = .b ((b.take j).any fun y=>(x.1 == y.1) && (x.2 == y.2)) ∧ m = b.length - j ∧ j ≤ b.length) b.length ⟨0,rfl,by simp only [go_sem]<;>rfl,by simp only [go_sem]<;>rfl,by omega,by omega⟩ ?_
  rintro m t2 o ⟨j,rfl,h7,h6,rfl,hj⟩
  repeat (first | refine nav ?_ | refine bo ?_)
  (refine wr fun K R hK hR=>?_;simp only [go_sem,h7,nsyms_len];(try go_ints);(try simp only [go_sem,h7,nsyms_len]);(repeat refine And.intro side ?_);(first|refine hK _ ?_|refine hR _ _ ?_);clear hK hR K R)
  repeat (first | refine nav ?_ | refine bo ?_)
  refine W_cond (by simp only [go_sem]<;>exact rfl) (fun hb=>?_) (fun hb=>?_)
  ·have hb2 : j < b.length:=by simpa using hb
   obtain ⟨y,hy⟩ : ∃ y,b[j]? = some y:=⟨_,List.getElem?_eq_getElem hb2⟩
   obtain ⟨z,hz⟩ : ∃ z,z = (b.take j).any fun y=>(x.1 == y.1) && (x.2 == y.2):=⟨_,rfl⟩
   have hstep : ((b.take (j + 1)).any fun y=>(x.1 == y.1) && (x.2 == y.2)) = (z || ((x.1 == y.1) && (x.2 == y.2))):=by
    rw [List.take_add_one,hy,hz];simp
   rw [← hz] at h6
   repeat (first | refine nav ?_ | refine bo ?_)
   (refine W_dreg (by decide +kernel) [] [0,1,2,3,4,5,6,7,8,9,10,11,12] [[],[0],[0,1],[0,1],[3,1,0,2],[2,0,1,3,4],[0,1],[0,1],[7,1,0,6],[6,0,1,7,8],[8,7,6,9,4,3,1,0,2,5],[5,2,3,4,9,6,7,8,10,0,1],[1,0,10,8,7,6,9,4,3,2,5,11]] (by decide +kernel) rfl fun K R hK hR=>?_;simp only [List.filterMap_cons,List.filterMap_nil,List.getElem?_cons_zero,List.getElem?_cons_succ,List.cons_append,List.nil_append];simp only [go_sem,h7,h6,h5,nsyms_get hx,nsyms_get hy,nsyms_len,Bool.and_true];(try go_ints);(try simp only [go_sem,h7,h6,h5,nsyms_get hx,nsyms_get hy,nsyms_len,Bool.and_true]);(repeat refine And.intro side ?_);(first|refine hK _ ?_|refine hR _ _ ?_);clear hK hR K R)
   repeat (first | refine nav ?_ | refine bo ?_)
   (refine wr fun K R hK hR=>?_;simp only [go_sem,h7];(try go_ints);(try simp only [go_sem,h7]);(repeat refine And.intro side ?_);(first|refine hK _ ?_|refine hR _ _ ?_);clear hK hR K R)
   refine forQ_normal (b.length - (j + 1)) (by omega) ⟨j + 1,rfl,by simp only [go_sem]<;>rfl,by simp only [go_sem,hstep],rfl,hb2⟩
  ·simp at hb
   obtain hje : j = b.length:=by omega
   rw [hje,List.take_length] at h6
   obtain ⟨z,hz⟩ : ∃ z,z = b.any fun y=>(x.1 == y.1) && (x.2 == y.2):=⟨_,rfl⟩
   rw [← hz] at h6
   repeat (first | refine nav ?_ | refine bo ?_)
   (refine wr fun K R hK hR=>?_;simp only [go_sem,h6];(try go_ints);(try simp only [go_sem,h6]);(repeat refine And.intro side ?_);(first|refine hK _ ?_|refine hR _ _ ?_);clear hK hR K R)
   repeat (first | refine nav ?_ | refine bo ?_)
   refine W_cond (b:=!z) (by simp only [go_sem]) (fun hd=>?_) (fun hd=>?_)
   ·have hF : fewerF a b = false:=by
     unfold fewerF
     rw [List.all_eq_false]
     exact ⟨x,List.mem_of_getElem? hx,by rw [← hz];simpa using hd⟩
    rw [hF]
    repeat (first | refine nav ?_ | refine bo ?_)
    (refine wr fun K R hK hR=>?_;simp only [go_sem];(try go_ints);(repeat refine And.intro side ?_);(first|refine hK _ ?_|refine hR _ _ ?_);clear hK hR K R)
    repeat (first | refine nav ?_ | refine bo ?_)
    refine endQ_data (by simp only [go_sem]<;>exact rfl) (Le.of_eq ?_) rfl
    rfl
   ·repeat (first | refine nav ?_ | refine bo ?_)
    (refine wr fun K R hK hR=>?_;simp only [go_sem,h5,mix_mix (lo:=14)];(try go_ints);(try simp only [go_sem,h5,mix_mix (lo:=14)]);(repeat refine And.intro side ?_);(first|refine hK _ ?_|refine hR _ _ ?_);clear hK hR K R)
    refine forQ_normal (a.length - (k + 1)) (by omega) ⟨k + 1,rfl,by simp only [go_sem]<;>rfl,rfl,hb1,fun i hik x' hx'=>?_⟩
    rcases Nat.lt_succ_iff_lt_or_eq.1 hik with h1 | rfl
    ·exact hi i h1 x' hx'
    ·rw [hx] at hx'
     obtain rfl:=Option.some.inj hx'
     rw [← hz];simpa using hd
 ·simp at hb
  obtain hke : k = a.length:=by omega
  subst hke
  have hF : fewerF a b = true:=by
   unfold fewerF
   rw [List.all_eq_true]
   intro x hx
   obtain ⟨i,hix⟩:=List.getElem?_of_mem hx
   exact hi i (List.getElem?_eq_some_iff.1 hix).1 x hix
  rw [hF]
  repeat (first | refine nav ?_ | refine bo ?_)
  (refine wr fun K R hK hR=>?_;simp only [go_sem];(try go_ints);(repeat refine And.intro side ?_);(first|refine hK _ ?_|refine hR _ _ ?_);clear hK hR K R)
  repeat (first | refine nav ?_ | refine bo ?_)
  refine endQ_data (by simp only [go_sem]<;>exact rfl) (Le.of_eq ?_) rfl
  rfl
end Go.AW
namespace Go.AW
open Go
set_option linter.unusedSimpArgs false
set_option linter.unusedVariables false
set_option maxHeartbeats 1000000
theorem toList_inj {a b : ByteArray} (h : a.toList = b.toList) : a = b:=by
 rw [ByteArray.toList_eq,ByteArray.toList_eq] at h
 exact ByteArray.ext (Array.ext' h)
theorem PlanD.ext' : ∀ {p q : PlanD},p.kind = q.kind → p.width = q.width → p.i = q.i → p.j = q.j → p.name = q.name → p.cols = q.cols → p.kids = q.kids → p = q
 | .mk ..,.mk ..,rfl,rfl,rfl,rfl,rfl,rfl,rfl=>rfl
theorem sameF_true : ∀ (p q : PlanD),sameF p q = true → p = q :=
 PlanD.ind fun p ih q h=>by
  rw [sameF_eq] at h
  simp only [Bool.and_eq_true,beq_iff_eq,decide_eq_true_eq] at h
  obtain ⟨⟨⟨⟨⟨⟨h1,h2⟩,h3⟩,h4⟩,h5⟩,h6⟩,h7⟩:=h
  obtain ⟨hl,hk⟩:=(sameL_iff _ _).1 h7
  refine PlanD.ext' h1 h2 h3 h4 (toList_inj h5) h6 (List.ext_getElem? fun i=>?_)
  by_cases hi : i < p.kids.length
  ·have hi2 : i < q.kids.length:=by omega
   rw [List.getElem?_eq_getElem hi,List.getElem?_eq_getElem hi2]
   rw [ih _ (List.getElem_mem hi) _ (hk i _ _ (List.getElem?_eq_getElem hi) (List.getElem?_eq_getElem hi2))]
  ·rw [List.getElem?_eq_none (by omega),List.getElem?_eq_none (by omega)]
def PlanD.withKids (p : PlanD) (ks : List PlanD) : PlanD:=.mk p.kind p.width p.i p.j p.name p.cols ks
def projP (k : PlanD) (cols : List Int) : PlanD:=.mk 5 0 0 0 ByteArray.empty cols [k]
def idC (cs : List Int) : Bool:=decide (cs = (List.range cs.length).map fun (x : Nat)=>(x : Int))
def innerF (p : PlanD) : PlanD :=
 match p.kids with
 | []=>p
 | k :: _=>if k.kind = 5 then (match k.kids with | []=>p | g :: _=>projP g (p.cols.map fun c=>k.cols.getD c.toNat 0)) else p
def outerF (q : PlanD) : PlanD :=
 match q.kids with
 | []=>q
 | k :: _=>if (q.cols.length : Int) ≠ widthR k then q else if idC q.cols = true then k else q
def projectedF (p : PlanD) : PlanD:=outerF (innerF p)
def topF (o : PlanD) : PlanD :=
 match o.kids with
 | a :: b :: _=>if o.kind = 6 ∧ sameF a b = true then a else if o.kind = 5 then projectedF o else o
 | _=>if o.kind = 5 then projectedF o else o
mutual
def betterF : PlanD → PlanD
 | .mk k w i j nm cs ks=>topF (.mk k w i j nm cs (betterL ks))
def betterL : List PlanD → List PlanD
 | []=>[]
 | p :: r=>betterF p :: betterL r
end
theorem betterL_map : ∀ l : List PlanD,betterL l = l.map betterF
 | []=>rfl
 | p :: r=>by simp only [betterL,List.map_cons,betterL_map r]
theorem betterF_eq (p : PlanD) : betterF p = topF (p.withKids (p.kids.map betterF)):=by
 cases p;simp only [betterF,betterL_map,PlanD.withKids,PlanD.kids,PlanD.kind,PlanD.width,PlanD.i,PlanD.j,PlanD.name,PlanD.cols]
section
variable (p : PlanD) (ks : List PlanD)
theorem wk_kind : (p.withKids ks).kind = p.kind:=rfl
theorem wk_kids : (p.withKids ks).kids = ks:=rfl
theorem wk_self : p.withKids p.kids = p:=by cases p;rfl
end
theorem width_with {p : PlanD} {ks : List PlanD} (h0 : 0 ≤ widthR p) (hw : ks.map widthR = p.kids.map widthR) : widthR (p.withKids ks) = widthR p:=by
 have hk:=fun q hq=>width_kid h0 q hq
 have h1 : widthsR p.kids = some (p.kids.map widthR):=widthsR_some fun q hq=>by have:=hk q hq;omega
 have h2 : widthsR ks = some (ks.map widthR):=widthsR_some fun q hq=>by
  have : widthR q ∈ p.kids.map widthR:=by rw [← hw];exact List.mem_map_of_mem hq
  obtain ⟨r,hr,e⟩:=List.mem_map.1 this
  have:=hk r hr
  omega
 rw [widthR_eq,widthR_eq p,wk_kids,h1,h2,hw]
 cases p;rfl
theorem width_proj {g : PlanD} {cols : List Int} (hg : 0 ≤ widthR g) (hc : ∀ c ∈ cols,0 ≤ c ∧ c < widthR g) (hl : cols.length ≤ 12) : widthR (projP g cols) = cols.length:=by
 have h1 : widthsR [g] = some [widthR g]:=by simp only [widthsR];rw [if_neg (by omega)]
 have hin : insideF (widthR g) cols = true:=(insideF_iff _ _).2 hc
 rw [widthR_eq]
 simp only [projP,PlanD.kids,h1]
 have ho : outF (.mk 5 0 0 0 ByteArray.empty cols [g]) [widthR g] = cols.length:=by
  unfold outF
  simp only [PlanD.kind,PlanD.cols,PlanD.i,PlanD.j,PlanD.name,PlanD.width,List.length_singleton,List.getD_cons_zero,hin]
  simp
 rw [ho]
 unfold capW
 rw [if_neg (by omega)]
structure Bet (p q : PlanD) : Prop where
 width : widthR q = widthR p
 cnt : cntF q ≤ cntF p
 deep : deepF q ≤ deepF p
 widest : widestF q ≤ widestF p
 syms : ∀ x ∈ symsF q,x ∈ symsF p
 val : ∀ (s : StrD) (n : Nat),s.size = n → 1 ≤ n → (∀ r ∈ s.rels,relOk n r = true) → Named s p → valF s q = valF s p
theorem Bet.refl (p : PlanD) : Bet p p:=⟨rfl,Nat.le_refl _,Nat.le_refl _,Int.le_refl _,fun _ h=>h,fun _ _ _ _ _ _=>rfl⟩
theorem Bet.trans {p q r : PlanD} (h : Bet p q) (k : Bet q r) : Bet p r :=
 ⟨k.width.trans h.width,Nat.le_trans k.cnt h.cnt,Nat.le_trans k.deep h.deep,Int.le_trans k.widest h.widest,fun x hx=>h.syms x (k.syms x hx),
  fun s n h1 h2 h3 h4=>(k.val s n h1 h2 h3 fun x hx=>h4 x (h.syms x hx)).trans (h.val s n h1 h2 h3 h4)⟩
theorem widestL_mono : ∀ (l r : List PlanD) (w w' : Int),l.length = r.length → (∀ (k : Nat) x y,l[k]? = some x → r[k]? = some y → widestF x ≤ widestF y) → w ≤ w' → widestL w l ≤ widestL w' r
 | [],[],w,w',_,_,h=>h
 | [],_ :: _,_,_,h,_,_=>by simp at h
 | _ :: _,[],_,_,h,_,_=>by simp at h
 | x :: l,y :: r,w,w',hl,hk,h=>by
  simp only [widestL]
  exact widestL_mono l r _ _ (by simpa using hl) (fun k a b ha hb=>hk (k + 1) a b (by simpa using ha) (by simpa using hb)) (by have:=hk 0 x y rfl rfl;omega)
theorem widestL_ge : ∀ (l : List PlanD) (w : Int),w ≤ widestL w l ∧ ∀ q ∈ l,widestF q ≤ widestL w l
 | [],w=>⟨Int.le_refl _,fun q hq=>by cases hq⟩
 | p :: r,w=>by
  obtain ⟨h1,h2⟩:=widestL_ge r (max w (widestF p))
  simp only [widestL]
  refine ⟨by omega,fun q hq=>?_⟩
  rcases List.mem_cons.1 hq with rfl | hq
  ·omega
  ·exact h2 q hq
theorem widest_kid {p q : PlanD} (h : q ∈ p.kids) : widestF q ≤ widestF p:=by
 rw [widestF_eq p];exact (widestL_ge _ _).2 q h
theorem widest_self (p : PlanD) : widthR p ≤ widestF p:=(widest_bd p).1
theorem cntL_mono : ∀ (l r : List PlanD),l.length = r.length → (∀ (k : Nat) x y,l[k]? = some x → r[k]? = some y → cntF x ≤ cntF y ∧ deepF x ≤ deepF y) → cntL l ≤ cntL r ∧ deepL l ≤ deepL r
 | [],[],_,_=>⟨Nat.le_refl _,Nat.le_refl _⟩
 | [],_ :: _,h,_=>by simp at h
 | _ :: _,[],h,_=>by simp at h
 | x :: l,y :: r,hl,hk=>by
  have h1:=hk 0 x y rfl rfl
  have h2:=cntL_mono l r (by simpa using hl) (fun k a b ha hb=>hk (k + 1) a b (by simpa using ha) (by simpa using hb))
  simp only [cntL,deepL]
  omega
theorem symsL_iff {x : ByteArray × Int} : ∀ {l : List PlanD},x ∈ symsL l ↔ ∃ q ∈ l,x ∈ symsF q
 | []=>by simp [symsL]
 | p :: r=>by
  simp only [symsL,List.mem_append,symsL_iff (l:=r),List.mem_cons]
  constructor
  ·rintro (h | ⟨q,hq,h⟩)
   ·exact ⟨p,.inl rfl,h⟩
   ·exact ⟨q,.inr hq,h⟩
  ·rintro ⟨q,rfl | hq,h⟩
   ·exact .inl h
   ·exact .inr ⟨q,hq,h⟩
theorem bet_kids {p : PlanD} {ks : List PlanD} (h0 : 0 ≤ widthR p) (hk0 : p.kind = 0 → p.kids = []) (hl : ks.length = p.kids.length) (hk : ∀ (k : Nat) x y,ks[k]? = some x → p.kids[k]? = some y → Bet y x) : Bet p (p.withKids ks):=by
 have hw : ks.map widthR = p.kids.map widthR:=by
  apply List.ext_getElem?
  intro i
  rw [List.getElem?_map,List.getElem?_map]
  by_cases hi : i < ks.length
  ·rw [List.getElem?_eq_getElem hi,List.getElem?_eq_getElem (show i < p.kids.length by omega)]
   simp only [Option.map_some,Option.some.injEq]
   exact (hk i _ _ (List.getElem?_eq_getElem hi) (List.getElem?_eq_getElem (by omega))).width
  ·rw [List.getElem?_eq_none (by omega),List.getElem?_eq_none (by omega)]
 have hc:=cntL_mono ks p.kids hl fun k x y hx hy=>⟨(hk k x y hx hy).cnt,(hk k x y hx hy).deep⟩
 refine ⟨width_with h0 hw,?_,?_,?_,?_,?_⟩
 ·rw [cntF_eq,cntF_eq p,wk_kids];omega
 ·rw [deepF_eq,deepF_eq p,wk_kids];omega
 ·rw [widestF_eq,widestF_eq p,wk_kids]
  exact widestL_mono _ _ _ _ hl (fun k x y hx hy=>(hk k x y hx hy).widest) (by rw [width_with h0 hw];exact Int.le_refl _)
 ·intro x hx
  rw [symsF_eq,wk_kind] at hx
  rw [symsF_eq]
  split at hx
  ·rename_i e;rw [if_pos e];cases p;exact hx
  ·rename_i e
   rw [if_neg e]
   rw [wk_kids] at hx
   obtain ⟨q,hq,hxq⟩:=symsL_iff.1 hx
   obtain ⟨i,hi⟩:=List.getElem?_of_mem hq
   have hil:=(List.getElem?_eq_some_iff.1 hi).1
   have hy:=List.getElem?_eq_getElem (show i < p.kids.length by omega)
   exact symsL_iff.2 ⟨_,List.mem_of_getElem? hy,(hk i _ _ hi hy).syms x hxq⟩
 ·intro s n e1 e2 e3 hn
  have hv : ks.map (valF s) = p.kids.map (valF s):=by
   apply List.ext_getElem?
   intro i
   rw [List.getElem?_map,List.getElem?_map]
   by_cases hi : i < ks.length
   ·rw [List.getElem?_eq_getElem hi,List.getElem?_eq_getElem (show i < p.kids.length by omega)]
    simp only [Option.map_some,Option.some.injEq]
    refine (hk i _ _ (List.getElem?_eq_getElem hi) (List.getElem?_eq_getElem (by omega))).val s n e1 e2 e3 ?_
    have hmem:=List.getElem_mem (show i < p.kids.length by omega)
    refine hn.kid (fun e=>?_) hmem
    have h3 : p.kids.length = 0:=by rw [hk0 e];rfl
    omega
   ·rw [List.getElem?_eq_none (by omega),List.getElem?_eq_none (by omega)]
  rw [valF_eq,valF_eq s p,wk_kids,hv]
  cases p;rfl
theorem sortT_of_up {l : List (List Int)} (h : Up l) : sortT l = l:=up_ext (sortT_up l) h fun t=>sortT_mem l t
theorem sortT_ext {a b : List (List Int)} (h : ∀ t,t ∈ a ↔ t ∈ b) : sortT a = sortT b:=up_ext (sortT_up a) (sortT_up b) fun t=>by rw [sortT_mem,sortT_mem,h]
theorem places_places {cs ds : List Int} {t : List Int} (h : ∀ c ∈ cs,0 ≤ c ∧ c < ds.length) : placesF cs (placesF ds t) = placesF (cs.map fun c=>ds.getD c.toNat 0) t:=by
 unfold placesF
 rw [List.map_map]
 refine List.map_congr_left fun c hc=>?_
 have:=h c hc
 have hlt : c.toNat < ds.length:=by omega
 simp [hlt]
theorem places_id {t : List Int} : placesF ((List.range t.length).map fun (x : Nat)=>(x : Int)) t = t:=by
 unfold placesF
 rw [List.map_map]
 apply List.ext_getElem?
 intro i
 rw [List.getElem?_map]
 by_cases hi : i < t.length
 ·rw [List.getElem?_range hi,List.getElem?_eq_getElem hi]
  simp [hi]
 ·rw [List.getElem?_eq_none (by simpa using hi),List.getElem?_eq_none (by omega)];rfl
theorem project_val {s : StrD} {p a : PlanD} (h : p.kind = 5) (hk : p.kids = [a]) : valF s p = sortT ((valF s a).map (placesF p.cols)):=by
 rw [valF_eq,stepV,if_neg (by omega),if_neg (by omega),if_neg (by omega),if_neg (by omega),if_pos h,hk];rfl
theorem bet_inner {p k : PlanD} (h0 : 0 ≤ widthR p) (hp5 : p.kind = 5) (hk : p.kids = [k]) : Bet p (innerF p) ∧ (innerF p).kind = 5 ∧ ∃ g,(innerF p).kids = [g] ∧ 0 ≤ widthR g ∧ (innerF p).cols.length = p.cols.length ∧ (k.kind ≠ 5 ∧ g = k ∧ innerF p = p ∨ k.kind = 5 ∧ k.kids = [g] ∧ innerF p = projP g (p.cols.map fun c=>k.cols.getD c.toNat 0)) ∧ (∀ c ∈ (innerF p).cols,0 ≤ c ∧ c < widthR g):=by
 obtain ⟨hk0,hw,hin⟩ : 0 ≤ widthR k ∧ widthR p = p.cols.length ∧ (∀ c ∈ p.cols,0 ≤ c ∧ c < widthR k):=by
  cases node_of h0 with
  | rel e=>omega
  | all e=>omega
  | pick a e=>omega
  | join a b e=>omega
  | two a b e=>omega
  | project a e hk' h1 hw hin=>rw [hk] at hk';cases hk';exact ⟨h1,hw,hin⟩
 have hl12:=(widthR_le p).2
 by_cases h5 : k.kind = 5
 ·obtain ⟨g,hg,hg0,hkw,hkin⟩ : ∃ g,k.kids = [g] ∧ 0 ≤ widthR g ∧ widthR k = k.cols.length ∧ ∀ c ∈ k.cols,0 ≤ c ∧ c < widthR g:=by
   cases node_of hk0 with
   | rel e=>omega
   | all e=>omega
   | pick a e=>omega
   | join a b e=>omega
   | two a b e=>omega
   | project a e hk' h1 hw hin=>exact ⟨a,hk',h1,hw,hin⟩
  have hi : innerF p = projP g (p.cols.map fun c=>k.cols.getD c.toNat 0):=by
   unfold innerF;rw [hk];simp only;rw [if_pos h5,hg]
  have hcin : ∀ c ∈ (p.cols.map fun c=>k.cols.getD c.toNat 0),0 ≤ c ∧ c < widthR g:=by
   intro c hc
   obtain ⟨d,hd,rfl⟩:=List.mem_map.1 hc
   have:=hin d hd
   have hlt : d.toNat < k.cols.length:=by omega
   have e : k.cols.getD d.toNat 0 = k.cols[d.toNat]:=by simp [hlt]
   rw [e]
   exact hkin _ (List.getElem_mem hlt)
  have hwp : widthR (projP g (p.cols.map fun c=>k.cols.getD c.toNat 0)) = p.cols.length:=by rw [width_proj hg0 hcin (by simp;omega)];simp
  rw [hi]
  refine ⟨⟨by rw [hwp,hw],?_,?_,?_,?_,?_⟩,rfl,g,rfl,hg0,by simp [projP,PlanD.cols],.inr ⟨h5,hg,rfl⟩,hcin⟩
  ·rw [cntF_eq,cntF_eq p,hk]
   simp only [projP,PlanD.kids,cntL]
   rw [cntF_eq k,hg];simp only [cntL];omega
  ·rw [deepF_eq,deepF_eq p,hk]
   simp only [projP,PlanD.kids,deepL]
   rw [deepF_eq k,hg];simp only [deepL];omega
  ·rw [widestF_eq]
   have h1:=widest_self p
   have h2 : widestF k ≤ widestF p:=widest_kid (by rw [hk];simp)
   have h3 : widestF g ≤ widestF k:=widest_kid (by rw [hg];simp)
   rw [hwp]
   simp only [projP,PlanD.kids,widestL];omega
  ·intro x hx
   rw [symsF_eq] at hx ⊢
   rw [if_neg (by show (5 : Int) ≠ 0;decide)] at hx
   rw [if_neg (by omega),hk]
   simp only [projP,PlanD.kids,symsL,List.append_nil] at hx ⊢
   rw [symsF_eq,if_neg (by omega),hg]
   simpa [symsL] using hx
  ·intro s n e1 e2 e3 hn
   rw [project_val (p:=projP g _) rfl rfl,project_val hp5 hk,project_val h5 hg]
   show sortT ((valF s g).map (placesF (p.cols.map fun c=>k.cols.getD c.toNat 0))) = _
   refine sortT_ext fun t=>?_
   simp only [List.mem_map,sortT_mem]
   constructor
   ·rintro ⟨u,hu,rfl⟩
    exact ⟨placesF k.cols u,⟨u,hu,rfl⟩,places_places fun c hc=>by have:=hin c hc;omega⟩
   ·rintro ⟨v,⟨u,hu,rfl⟩,rfl⟩
    exact ⟨u,hu,(places_places fun c hc=>by have:=hin c hc;omega).symm⟩
 ·have hi : innerF p = p:=by unfold innerF;rw [hk];simp only;rw [if_neg h5]
  rw [hi]
  exact ⟨Bet.refl p,hp5,k,hk,hk0,rfl,.inl ⟨h5,rfl,rfl⟩,hin⟩
theorem bet_outer {q g : PlanD} (h0 : 0 ≤ widthR q) (h5 : q.kind = 5) (hk : q.kids = [g]) (hg0 : 0 ≤ widthR g) (hw : widthR q = q.cols.length) : Bet q (outerF q):=by
 unfold outerF
 rw [hk]
 simp only
 split
 ·exact Bet.refl q
 ·rename_i hl
  split
  ·rename_i hid
   have hl : (q.cols.length : Int) = widthR g:=by omega
   refine ⟨by rw [hw,hl],?_,?_,widest_kid (by rw [hk];simp),?_,?_⟩
   ·rw [cntF_eq q,hk];simp only [cntL];omega
   ·rw [deepF_eq q,hk];simp only [deepL];omega
   ·intro x hx
    rw [symsF_eq,if_neg (by omega),hk]
    simpa [symsL] using hx
   ·intro s n e1 e2 e3 hn
    rw [project_val h5 hk]
    have hng : Named s g:=hn.kid (by omega) (by rw [hk];simp)
    have ht:=val_tab e1 e2 e3 g hg0 hng
    have hm : (valF s g).map (placesF q.cols) = valF s g:=by
     conv=>rhs;rw [← List.map_id (valF s g)]
     refine List.map_congr_left fun t htm=>?_
     have htl:=(ht.el t htm).1
     unfold idC at hid
     rw [decide_eq_true_iff] at hid
     have hl2 : q.cols.length = t.length:=by omega
     rw [hid,hl2,places_id];rfl
    rw [hm,sortT_of_up ht.up]
  ·exact Bet.refl q
def headG (p : PlanD) : Bool :=
 if p.kind = 5 then (match p.kids with | k :: _=>!((decide ((p.cols.length : Int) = widthR k) && idC p.cols) || decide (k.kind = 5)) | []=>true)
 else if p.kind = 6 then (match p.kids with | a :: b :: _=>!sameF a b | _=>true) else true
mutual
def goodF : PlanD → Bool
 | .mk k w i j nm cs ks=>headG (.mk k w i j nm cs ks) && goodL ks
def goodL : List PlanD → Bool
 | []=>true
 | p :: r=>goodF p && goodL r
end
theorem goodL_all : ∀ l : List PlanD,goodL l = l.all goodF
 | []=>rfl
 | p :: r=>by simp only [goodL,List.all_cons,goodL_all r]
theorem goodF_eq (p : PlanD) : goodF p = (headG p && p.kids.all goodF):=by
 cases p;simp only [goodF,goodL_all];rfl
theorem better_spec0 : ∀ (p : PlanD),0 ≤ widthR p → Bet p (betterF p) ∧ goodF (betterF p) = true :=
 PlanD.ind fun p ih h0=>by
  have hkid:=fun q hq=>ih q hq (width_kid h0 q hq)
  have hk0 : p.kind = 0 → p.kids = []:=by
   intro e
   cases node_of h0 with
   | rel e hk=>exact hk
   | all e'=>omega
   | pick a e'=>omega
   | join a b e'=>omega
   | project a e'=>omega
   | two a b e'=>omega
  have hbk : Bet p (p.withKids (p.kids.map betterF)):=bet_kids h0 hk0 (by simp) fun k x y hx hy=>by
   rw [List.getElem?_map,hy] at hx
   simp only [Option.map_some,Option.some.injEq] at hx
   subst hx
   exact (hkid y (List.mem_of_getElem? hy)).1
  have hgk : (p.kids.map betterF).all goodF = true:=by
   rw [List.all_eq_true]
   intro x hx
   obtain ⟨q,hq,rfl⟩:=List.mem_map.1 hx
   exact (hkid q hq).2
  rw [betterF_eq]
  obtain ⟨o,ho⟩ : ∃ o,o = p.withKids (p.kids.map betterF):=⟨_,rfl⟩
  have hok : o.kind = p.kind:=by rw [ho];rfl
  have hokids : o.kids = p.kids.map betterF:=by rw [ho];rfl
  rw [← ho] at hbk ⊢
  have plain : p.kind ≠ 5 → p.kind ≠ 6 → Bet p (topF o) ∧ goodF (topF o) = true:=by
   intro e5 e6
   have ht : topF o = o:=by
    unfold topF
    split
    ·rw [if_neg (by omega),if_neg (by omega)]
    ·rw [if_neg (by omega)]
   rw [ht]
   refine ⟨hbk,?_⟩
   rw [goodF_eq,hokids,hgk]
   unfold headG
   rw [if_neg (by omega),if_neg (by omega)];rfl
  cases node_of h0 with
  | rel e=>exact plain (by omega) (by omega)
  | all e=>exact plain (by omega) (by omega)
  | pick a e=>exact plain (by omega) (by omega)
  | join a b e=>exact plain (by omega) (by omega)
  | two a b e hk h1 h2 hw =>
   rcases e with e | e
   ·have hkk : o.kids = [betterF a,betterF b]:=by rw [hokids,hk];rfl
    obtain ⟨ba,ga⟩:=hkid a (by rw [hk];simp)
    unfold topF
    rw [hkk]
    simp only
    by_cases hs : sameF (betterF a) (betterF b) = true
    ·rw [if_pos ⟨by omega,hs⟩]
     have heq:=sameF_true _ _ hs
     refine ⟨⟨by rw [ba.width,hw],?_,?_,?_,?_,?_⟩,ga⟩
     ·have:=ba.cnt
      rw [cntF_eq p,hk];simp only [cntL];omega
     ·have:=ba.deep
      rw [deepF_eq p,hk];simp only [deepL];omega
     ·exact Int.le_trans ba.widest (widest_kid (by rw [hk];simp))
     ·intro x hx
      rw [symsF_eq,if_neg (by omega),hk]
      simp only [symsL,List.mem_append]
      exact .inl (ba.syms x hx)
     ·intro s n e1 e2 e3 hn
      have hna : Named s a:=hn.kid (by omega) (by rw [hk];simp)
      have hnb : Named s b:=hn.kid (by omega) (by rw [hk];simp)
      have va:=ba.val s n e1 e2 e3 hna
      have vb:=(hkid b (by rw [hk];simp)).1.val s n e1 e2 e3 hnb
      rw [← heq] at vb
      rw [valF_eq s p,stepV,if_neg (by omega),if_neg (by omega),if_neg (by omega),if_neg (by omega),if_neg (by omega),if_pos e,hk]
      show _ = unionF (valF s a) (valF s b)
      rw [← vb,va]
      unfold unionF
      have ht:=val_tab e1 e2 e3 a h1 hna
      rw [← sortT_of_up ht.up]
      conv=>lhs;rw [sortT_of_up ht.up,← sortT_of_up ht.up]
      exact sortT_ext fun t=>by simp [sortT_mem]
    ·rw [if_neg (fun h=>hs h.2),if_neg (by omega)]
     refine ⟨hbk,?_⟩
     rw [goodF_eq,hokids,hgk]
     unfold headG
     rw [if_neg (by omega),if_pos (by omega),hkk]
     simp [hs]
   ·exact plain (by omega) (by omega)
  | project a e hk h1 hw hin =>
   have hkk : o.kids = [betterF a]:=by rw [hokids,hk];rfl
   obtain ⟨ba,ga⟩:=hkid a (by rw [hk];simp)
   have ho0 : 0 ≤ widthR o:=by rw [hbk.width];exact h0
   have ht : topF o = projectedF o:=by
    unfold topF
    rw [hkk]
    simp only
    rw [if_pos (by omega)]
   rw [ht]
   obtain ⟨bi,i5,g,ik,ig0,il,icase,icin⟩:=bet_inner ho0 (by omega) hkk
   have hi0 : 0 ≤ widthR (innerF o):=by rw [bi.width];exact ho0
   have hiw : widthR (innerF o) = (innerF o).cols.length:=by
    rw [bi.width,hbk.width,hw,il,ho];rfl
   have bo:=bet_outer hi0 i5 ik ig0 hiw
   refine ⟨hbk.trans (bi.trans bo),?_⟩
   have gg : goodF g = true ∧ g.kind ≠ 5:=by
    rcases icase with ⟨h5,rfl,_⟩ | ⟨h5,hgk2,_⟩
    ·exact ⟨ga,h5⟩
    ·rw [goodF_eq] at ga
     simp only [Bool.and_eq_true,List.all_eq_true] at ga
     refine ⟨ga.2 g (by rw [hgk2];simp),fun e5=>?_⟩
     have:=ga.1
     unfold headG at this
     rw [if_pos h5,hgk2] at this
     simp [e5] at this
   unfold projectedF outerF
   rw [ik]
   simp only
   have hgq : (innerF o).cols.length ≠ 0 ∨ True:=.inr trivial
   split
   ·rename_i hl
    rw [goodF_eq,ik]
    simp only [List.all_cons,List.all_nil,gg.1,Bool.and_true]
    unfold headG
    rw [if_pos i5,ik]
    simp [gg.2,hl]
   ·split
    ·exact gg.1
    ·rename_i hid
     rw [goodF_eq,ik]
     simp only [List.all_cons,List.all_nil,gg.1,Bool.and_true]
     unfold headG
     rw [if_pos i5,ik]
     simp [gg.2,hid]
end Go.AW
namespace Go.AW
open Go Go.Proofs TyTryz Go.IntWalk
set_option linter.unusedSimpArgs false
set_option linter.unusedVariables false
set_option maxRecDepth 10000
set_option maxHeartbeats 2000000
theorem W_meet {P : Program} {n : Nat} {Q : Exit → St → Prop} {x : Code} {s : St} (M : St → Prop) (h : W P n x (thenQ M Q) s) (h2 : ∀ s,M s → Q .normal s) : W P n x Q s:=by
 refine h.mono ?_
 intro e s k
 cases e with
 | normal=>exact h2 s k
 | _=>exact k
def idK (cs : List Int) (i : Nat) : Bool:=(List.range i).all fun j=>cs.getD j 0 == (j : Int)
theorem idK_succ (cs : List Int) (i : Nat) : idK cs (i + 1) = (idK cs i && (cs.getD i 0 == (i : Int))):=by
 unfold idK;rw [List.range_succ];simp
theorem idK_full (cs : List Int) : idK cs cs.length = idC cs:=by
 unfold idK idC
 rw [Bool.eq_iff_iff]
 simp only [List.all_eq_true,List.mem_range,beq_iff_eq,decide_eq_true_eq]
 constructor
 ·intro h
  apply List.ext_getElem?
  intro i
  rw [List.getElem?_map]
  by_cases hi : i < cs.length
  ·have:=h i hi
   rw [List.getElem?_range hi,List.getElem?_eq_getElem hi]
   simp [hi] at this
   simp [this]
  ·rw [List.getElem?_eq_none (by omega),List.getElem?_eq_none (by simpa using hi)];rfl
 ·intro h i hi
  have h2:=congrArg (fun l : List Int=>l[i]?) h
  simp only [List.getElem?_map,List.getElem?_range hi,List.getElem?_eq_getElem hi,Option.map_some,Option.some.injEq] at h2
  simp [hi,h2]
theorem rgood_spec : ∀ (p : PlanD),p.Sm → p.Ok → cntF p ≤ 50000 → 0 ≤ widthR p → ACallsD Tryz.prog 15 [.agg p.cells] (.b (goodF p)) :=
 PlanD.ind fun p ih hp hpo hc h0=>by
  have hce:=cntF_eq p
  have hpl:=hp.len
  have hpc:=hp.cols
  have il : ∀ l : List Int,(ints l).length = l.length:=fun l=>by simp [ints]
  have f1 : ∀ {a : PlanD},p.kids = [a] → (plans p.kids).length = 1 ∧ (plans p.kids).getD 0 [] = [.i .i64 a.kind,.i .i64 a.width,.i .i64 a.i,.i .i64 a.j,.s a.name,.sl 1 (ints a.cols),.sl 7 (plans a.kids)]:=fun {a} e=>by
   rw [e];exact ⟨rfl,by simp [plans,PlanD.cells_eq]⟩
  have f2 : ∀ {a b : PlanD},p.kids = [a,b] → (plans p.kids).length = 2 ∧ (plans p.kids).getD 0 [] = [.i .i64 a.kind,.i .i64 a.width,.i .i64 a.i,.i .i64 a.j,.s a.name,.sl 1 (ints a.cols),.sl 7 (plans a.kids)] ∧ (plans p.kids).getD 1 [] = [.i .i64 b.kind,.i .i64 b.width,.i .i64 b.i,.i .i64 b.j,.s b.name,.sl 1 (ints b.cols),.sl 7 (plans b.kids)]:=fun {a b} e=>by
   rw [e];exact ⟨rfl,by simp [plans,PlanD.cells_eq],by simp [plans,PlanD.cells_eq]⟩
  have bad : headG p = false → goodF p = false:=fun h=>by rw [goodF_eq,h];rfl
  rw [p.cells_eq]
  refine ACalls_of' (n:=70) (rs:=[.tmp 2]) (show Tryz.prog.funcs[15]? = some Tryz.f15 by kernel_rfl) rfl rfl rfl (by simp) (by decide +kernel) ?_
  repeat (first | refine nav ?_ | refine bo ?_)
  (refine wr fun K R hK hR=>?_;simp only [go_sem];(try go_ints);(repeat refine And.intro side ?_);(first|refine hK _ ?_|refine hR _ _ ?_);clear hK hR K R)
  repeat (first | refine nav ?_ | refine bo ?_)
  (refine wr fun K R hK hR=>?_;simp only [go_sem];(try go_ints);(repeat refine And.intro side ?_);(first|refine hK _ ?_|refine hR _ _ ?_);clear hK hR K R)
  repeat (first | with_reducible refine seqQ_normal ?_ | with_reducible refine W_seq ?_)
  refine W_meet (fun s=>s.o = [boxP p] ∧ s.t 1 = .ptr 0 0 0 ∧ headG p = true) ?_ ?_
  ·have plain : p.kind ≠ 5 → p.kind ≠ 6 → headG p = true:=fun e5 e6=>by unfold headG;rw [if_neg e5,if_neg e6]
   cases node_of h0 with
   | rel e hk =>
    repeat (first | refine nav ?_ | refine bo ?_)
    (refine wr fun K R hK hR=>?_;simp only [go_sem,e];(try go_ints);(try simp only [go_sem,e]);(repeat refine And.intro side ?_);(first|refine hK _ ?_|refine hR _ _ ?_);clear hK hR K R)
    repeat (first | refine nav ?_ | refine bo ?_)
    refine W_cond (b:=false) (by simp only [go_sem]<;>rfl) (fun hb=>by cases hb) (fun _=>?_)
    repeat (first | refine nav ?_ | refine bo ?_)
    (refine wr fun K R hK hR=>?_;simp only [go_sem,e];(try go_ints);(try simp only [go_sem,e]);(repeat refine And.intro side ?_);(first|refine hK _ ?_|refine hR _ _ ?_);clear hK hR K R)
    repeat (first | refine nav ?_ | refine bo ?_)
    refine W_cond (b:=false) (by simp only [go_sem]<;>rfl) (fun hb=>by cases hb) (fun _=>?_)
    repeat (first | refine nav ?_ | refine bo ?_)
    exact ⟨by show _ = [Ob.cells 7 [[AV.i .i64 p.kind,.i .i64 p.width,.i .i64 p.i,.i .i64 p.j,.s p.name,.sl 1 (ints p.cols),.sl 7 (plans p.kids)]]];(first | rfl | rw [e]),by simp only [go_sem],plain (by omega) (by omega)⟩
   | all e hk =>
    repeat (first | refine nav ?_ | refine bo ?_)
    (refine wr fun K R hK hR=>?_;simp only [go_sem,e];(try go_ints);(try simp only [go_sem,e]);(repeat refine And.intro side ?_);(first|refine hK _ ?_|refine hR _ _ ?_);clear hK hR K R)
    repeat (first | refine nav ?_ | refine bo ?_)
    refine W_cond (b:=false) (by simp only [go_sem]<;>rfl) (fun hb=>by cases hb) (fun _=>?_)
    repeat (first | refine nav ?_ | refine bo ?_)
    (refine wr fun K R hK hR=>?_;simp only [go_sem,e];(try go_ints);(try simp only [go_sem,e]);(repeat refine And.intro side ?_);(first|refine hK _ ?_|refine hR _ _ ?_);clear hK hR K R)
    repeat (first | refine nav ?_ | refine bo ?_)
    refine W_cond (b:=false) (by simp only [go_sem]<;>rfl) (fun hb=>by cases hb) (fun _=>?_)
    repeat (first | refine nav ?_ | refine bo ?_)
    exact ⟨by show _ = [Ob.cells 7 [[AV.i .i64 p.kind,.i .i64 p.width,.i .i64 p.i,.i .i64 p.j,.s p.name,.sl 1 (ints p.cols),.sl 7 (plans p.kids)]]];(first | rfl | rw [e]),by simp only [go_sem],plain (by omega) (by omega)⟩
   | pick a e hk =>
    rcases e with e | e
    all_goals
     repeat (first | refine nav ?_ | refine bo ?_)
     (refine wr fun K R hK hR=>?_;simp only [go_sem,e];(try go_ints);(try simp only [go_sem,e]);(repeat refine And.intro side ?_);(first|refine hK _ ?_|refine hR _ _ ?_);clear hK hR K R)
     repeat (first | refine nav ?_ | refine bo ?_)
     refine W_cond (b:=false) (by simp only [go_sem]<;>rfl) (fun hb=>by cases hb) (fun _=>?_)
     repeat (first | refine nav ?_ | refine bo ?_)
     (refine wr fun K R hK hR=>?_;simp only [go_sem,e];(try go_ints);(try simp only [go_sem,e]);(repeat refine And.intro side ?_);(first|refine hK _ ?_|refine hR _ _ ?_);clear hK hR K R)
     repeat (first | refine nav ?_ | refine bo ?_)
     refine W_cond (b:=false) (by simp only [go_sem]<;>rfl) (fun hb=>by cases hb) (fun _=>?_)
     repeat (first | refine nav ?_ | refine bo ?_)
     exact ⟨by show _ = [Ob.cells 7 [[AV.i .i64 p.kind,.i .i64 p.width,.i .i64 p.i,.i .i64 p.j,.s p.name,.sl 1 (ints p.cols),.sl 7 (plans p.kids)]]];(first | rfl | rw [e]),by simp only [go_sem],plain (by omega) (by omega)⟩
   | join a b e hk =>
    repeat (first | refine nav ?_ | refine bo ?_)
    (refine wr fun K R hK hR=>?_;simp only [go_sem,e];(try go_ints);(try simp only [go_sem,e]);(repeat refine And.intro side ?_);(first|refine hK _ ?_|refine hR _ _ ?_);clear hK hR K R)
    repeat (first | refine nav ?_ | refine bo ?_)
    refine W_cond (b:=false) (by simp only [go_sem]<;>rfl) (fun hb=>by cases hb) (fun _=>?_)
    repeat (first | refine nav ?_ | refine bo ?_)
    (refine wr fun K R hK hR=>?_;simp only [go_sem,e];(try go_ints);(try simp only [go_sem,e]);(repeat refine And.intro side ?_);(first|refine hK _ ?_|refine hR _ _ ?_);clear hK hR K R)
    repeat (first | refine nav ?_ | refine bo ?_)
    refine W_cond (b:=false) (by simp only [go_sem]<;>rfl) (fun hb=>by cases hb) (fun _=>?_)
    repeat (first | refine nav ?_ | refine bo ?_)
    exact ⟨by show _ = [Ob.cells 7 [[AV.i .i64 p.kind,.i .i64 p.width,.i .i64 p.i,.i .i64 p.j,.s p.name,.sl 1 (ints p.cols),.sl 7 (plans p.kids)]]];(first | rfl | rw [e]),by simp only [go_sem],plain (by omega) (by omega)⟩
   | two a b e hk h1 h2 hw =>
    rcases e with e | e
    ·obtain ⟨g1,g2,g3⟩:=f2 hk
     have hs:=rsame_spec a (hp.kid a (by rw [hk];simp)) b (hp.kid b (by rw [hk];simp))
     rw [a.cells_eq,b.cells_eq] at hs
     have hg : headG p = !sameF a b:=by unfold headG;rw [if_neg (by omega),if_pos e,hk]
     repeat (first | refine nav ?_ | refine bo ?_)
     (refine wr fun K R hK hR=>?_;simp only [go_sem,e];(try go_ints);(try simp only [go_sem,e]);(repeat refine And.intro side ?_);(first|refine hK _ ?_|refine hR _ _ ?_);clear hK hR K R)
     repeat (first | refine nav ?_ | refine bo ?_)
     refine W_cond (b:=false) (by simp only [go_sem]<;>rfl) (fun hb=>by cases hb) (fun _=>?_)
     repeat (first | refine nav ?_ | refine bo ?_)
     (refine wr fun K R hK hR=>?_;simp only [go_sem,e];(try go_ints);(try simp only [go_sem,e]);(repeat refine And.intro side ?_);(first|refine hK _ ?_|refine hR _ _ ?_);clear hK hR K R)
     repeat (first | refine nav ?_ | refine bo ?_)
     refine W_cond (b:=true) (by simp only [go_sem]<;>rfl) (fun _=>?_) (fun hb=>by cases hb)
     repeat (first | refine nav ?_ | refine bo ?_)
     (refine W_dreg (by decide +kernel) [] [0,1,2,3,4,5,6,7,8] [[],[0],[0,1],[1,0,2],[],[4],[4,5],[5,4,6],[6,4,5,7,2,0,1,3]] (by decide +kernel) rfl fun K R hK hR=>?_;simp only [List.filterMap_cons,List.filterMap_nil,List.getElem?_cons_zero,List.getElem?_cons_succ,List.cons_append,List.nil_append];simp only [go_sem,g1,g2,g3];(try go_ints);(try simp only [go_sem,g1,g2,g3]);(repeat refine And.intro side ?_);(first|refine hK _ ?_|refine hR _ _ ?_);clear hK hR K R)
     refine D_callD (hs) rfl rfl rfl (by first | (simp only [go_sem]<;>first | exact LeA.refl _ | exact Le.refl _) | exact LeA.refl _) rfl rfl rfl rfl ?_
     (refine D_reg fun K R hK hR=>?_;simp only [go_sem];(try go_ints);(repeat refine And.intro side ?_);(first|refine hK _ ?_|refine hR _ _ ?_);clear hK hR K R)
     repeat (first | refine nav ?_ | refine bo ?_)
     refine W_cond (b:=sameF a b) (by simp only [go_sem]) (fun hd=>?_) (fun hd=>?_)
     ·rw [bad (by rw [hg,hd];rfl)]
      repeat (first | refine nav ?_ | refine bo ?_)
      (refine wr fun K R hK hR=>?_;simp only [go_sem];(try go_ints);(repeat refine And.intro side ?_);(first|refine hK _ ?_|refine hR _ _ ?_);clear hK hR K R)
      repeat (first | refine nav ?_ | refine bo ?_)
      refine endQ_data (by simp only [go_sem]<;>exact rfl) (Le.of_eq ?_) rfl
      rfl
     ·repeat (first | refine nav ?_ | refine bo ?_)
      exact ⟨by show _ = [Ob.cells 7 [[AV.i .i64 p.kind,.i .i64 p.width,.i .i64 p.i,.i .i64 p.j,.s p.name,.sl 1 (ints p.cols),.sl 7 (plans p.kids)]]];(first | rfl | rw [e]),by simp only [go_sem],by rw [hg,hd];rfl⟩
    ·repeat (first | refine nav ?_ | refine bo ?_)
     (refine wr fun K R hK hR=>?_;simp only [go_sem,e];(try go_ints);(try simp only [go_sem,e]);(repeat refine And.intro side ?_);(first|refine hK _ ?_|refine hR _ _ ?_);clear hK hR K R)
     repeat (first | refine nav ?_ | refine bo ?_)
     refine W_cond (b:=false) (by simp only [go_sem]<;>rfl) (fun hb=>by cases hb) (fun _=>?_)
     repeat (first | refine nav ?_ | refine bo ?_)
     (refine wr fun K R hK hR=>?_;simp only [go_sem,e];(try go_ints);(try simp only [go_sem,e]);(repeat refine And.intro side ?_);(first|refine hK _ ?_|refine hR _ _ ?_);clear hK hR K R)
     repeat (first | refine nav ?_ | refine bo ?_)
     refine W_cond (b:=false) (by simp only [go_sem]<;>rfl) (fun hb=>by cases hb) (fun _=>?_)
     repeat (first | refine nav ?_ | refine bo ?_)
     exact ⟨by show _ = [Ob.cells 7 [[AV.i .i64 p.kind,.i .i64 p.width,.i .i64 p.i,.i .i64 p.j,.s p.name,.sl 1 (ints p.cols),.sl 7 (plans p.kids)]]];(first | rfl | rw [e]),by simp only [go_sem],plain (by omega) (by omega)⟩
   | project a e hk h1 hw hin =>
    obtain ⟨g1,g2⟩:=f1 hk
    have hcm : cntF a ≤ cntL p.kids:=cnt_mem (by rw [hk];simp)
    have hwa:=rwidth_spec a (hpo.kid a (by rw [hk];simp)) (by omega)
    rw [a.cells_eq] at hwa
    have hg : headG p = !((((p.cols.length : Int) == widthR a) && idC p.cols) || (a.kind == 5)):=by
     unfold headG;rw [if_pos e,hk]
     congr 2
    repeat (first | refine nav ?_ | refine bo ?_)
    (refine wr fun K R hK hR=>?_;simp only [go_sem,e];(try go_ints);(try simp only [go_sem,e]);(repeat refine And.intro side ?_);(first|refine hK _ ?_|refine hR _ _ ?_);clear hK hR K R)
    repeat (first | refine nav ?_ | refine bo ?_)
    refine W_cond (b:=true) (by simp only [go_sem]<;>rfl) (fun _=>?_) (fun hb=>by cases hb)
    repeat (first | refine nav ?_ | refine bo ?_)
    (refine W_dreg (by decide +kernel) [] [0,1,2,3,4,5,6,7,8,9] [[],[0],[0,1],[],[3],[3,4],[4,3,5],[5,3,4,6],[6,4,3,5,7,1,0,2],[2,0,1,7,5,3,4,6,8]] (by decide +kernel) rfl fun K R hK hR=>?_;simp only [List.filterMap_cons,List.filterMap_nil,List.getElem?_cons_zero,List.getElem?_cons_succ,List.cons_append,List.nil_append];simp only [go_sem,g1,g2,il];(try go_ints);(try simp only [go_sem,g1,g2,il]);(repeat refine And.intro side ?_);(first|refine hK _ ?_|refine hR _ _ ?_);clear hK hR K R)
    refine D_callD (hwa) rfl rfl rfl (by first | (simp only [go_sem]<;>first | exact LeA.refl _ | exact Le.refl _) | exact LeA.refl _) rfl rfl rfl rfl ?_
    (refine D_reg fun K R hK hR=>?_;simp only [go_sem];(try go_ints);(repeat refine And.intro side ?_);(first|refine hK _ ?_|refine hR _ _ ?_);clear hK hR K R)
    repeat (first | refine nav ?_ | refine bo ?_)
    (refine wr fun K R hK hR=>?_;simp only [go_sem];(try go_ints);(repeat refine And.intro side ?_);(first|refine hK _ ?_|refine hR _ _ ?_);clear hK hR K R)
    repeat (first | refine nav ?_ | refine bo ?_)
    refine W_for 19 36 [3,4] (fun m t o=>∃ i : Nat,[Ob.cells 7 [[AV.i .i64 5,.i .i64 p.width,.i .i64 p.i,.i .i64 p.j,.s p.name,.sl 1 (ints p.cols),.sl 7 (plans p.kids)]]] = o ∧ t 4 = .i .i64 i ∧ t 3 = .b (((p.cols.length : Int) == widthR a) && idK p.cols i) ∧ m = p.cols.length - i ∧ i ≤ p.cols.length) p.cols.length ⟨0,rfl,by simp only [go_sem]<;>rfl,by simp only [go_sem];simp [idK],by omega,by omega⟩ ?_
    rintro m t o ⟨i,rfl,h4,h3,rfl,hi⟩
    repeat (first | refine nav ?_ | refine bo ?_)
    (refine wr fun K R hK hR=>?_;simp only [go_sem,h4,il];(try go_ints);(try simp only [go_sem,h4,il]);(repeat refine And.intro side ?_);(first|refine hK _ ?_|refine hR _ _ ?_);clear hK hR K R)
    repeat (first | refine nav ?_ | refine bo ?_)
    refine W_cond (by simp only [go_sem]<;>exact rfl) (fun hb=>?_) (fun hb=>?_)
    ·have hb1 : i < p.cols.length:=by simpa using hb
     obtain ⟨c,hcc⟩ : ∃ c,p.cols[i]? = some c:=⟨_,List.getElem?_eq_getElem hb1⟩
     have hst:=idK_succ p.cols i
     rw [show p.cols.getD i 0 = c from by simp [hcc]] at hst
     obtain ⟨z,hz⟩ : ∃ z,z = (((p.cols.length : Int) == widthR a) && idK p.cols i):=⟨_,rfl⟩
     rw [← hz] at h3
     repeat (first | refine nav ?_ | refine bo ?_)
     (refine wr fun K R hK hR=>?_;simp only [go_sem,h4,h3,ints_get hcc,il];(try go_ints);(try simp only [go_sem,h4,h3,ints_get hcc,il]);(repeat refine And.intro side ?_);(first|refine hK _ ?_|refine hR _ _ ?_);clear hK hR K R)
     repeat (first | refine nav ?_ | refine bo ?_)
     (refine wr fun K R hK hR=>?_;simp only [go_sem,h4];(try go_ints);(try simp only [go_sem,h4]);(repeat refine And.intro side ?_);(first|refine hK _ ?_|refine hR _ _ ?_);clear hK hR K R)
     refine forQ_normal (p.cols.length - (i + 1)) (by omega) ⟨i + 1,rfl,by simp only [go_sem]<;>rfl,?_,rfl,hb1⟩
     simp only [go_sem,hst]
     rw [← Bool.and_assoc,← hz]
    ·simp at hb
     obtain hie : i = p.cols.length:=by omega
     rw [hie,idK_full] at h3
     obtain ⟨z,hz⟩ : ∃ z,z = (((p.cols.length : Int) == widthR a) && idC p.cols):=⟨_,rfl⟩
     rw [← hz] at h3 hg
     repeat (first | refine nav ?_ | refine bo ?_)
     (refine wr fun K R hK hR=>?_;simp only [go_sem,h3,g1,g2];(try go_ints);(try simp only [go_sem,h3,g1,g2]);(repeat refine And.intro side ?_);(first|refine hK _ ?_|refine hR _ _ ?_);clear hK hR K R)
     repeat (first | refine nav ?_ | refine bo ?_)
     refine W_cond (b:=z || (a.kind == 5)) (by simp only [go_sem]) (fun hd=>?_) (fun hd=>?_)
     ·rw [bad (by rw [hg,hd];rfl)]
      repeat (first | refine nav ?_ | refine bo ?_)
      (refine wr fun K R hK hR=>?_;simp only [go_sem];(try go_ints);(repeat refine And.intro side ?_);(first|refine hK _ ?_|refine hR _ _ ?_);clear hK hR K R)
      repeat (first | refine nav ?_ | refine bo ?_)
      refine endQ_data (by simp only [go_sem]<;>exact rfl) (Le.of_eq ?_) rfl
      rfl
     ·repeat (first | refine nav ?_ | refine bo ?_)
      exact ⟨by show _ = [Ob.cells 7 [[AV.i .i64 p.kind,.i .i64 p.width,.i .i64 p.i,.i .i64 p.j,.s p.name,.sl 1 (ints p.cols),.sl 7 (plans p.kids)]]];(first | rfl | rw [e]),by simp only [go_sem],by rw [hg,hd];rfl⟩
  ·rintro ⟨t,o⟩ ⟨ho,h1,hg⟩
   simp only at ho h1
   subst ho
   have hgo : goodF p = p.kids.all goodF:=by rw [goodF_eq,hg];rfl
   rw [hgo]
   repeat (first | refine nav ?_ | refine bo ?_)
   (refine wr fun K R hK hR=>?_;simp only [go_sem];(try go_ints);(repeat refine And.intro side ?_);(first|refine hK _ ?_|refine hR _ _ ?_);clear hK hR K R)
   repeat (first | refine nav ?_ | refine bo ?_)
   refine W_for 56 70 [5] (fun m t o=>∃ k : Nat,[boxP p] = o ∧ t 5 = .i .i64 k ∧ t 1 = .ptr 0 0 0 ∧ m = p.kids.length - k ∧ k ≤ p.kids.length ∧ ∀ i < k,∀ x,p.kids[i]? = some x → goodF x = true) p.kids.length ⟨0,rfl,by simp only [go_sem]<;>rfl,by simp only [go_sem,h1],by omega,by omega,by simp⟩ ?_
   rintro m t2 o ⟨k,rfl,h5,h12,rfl,hk,hi⟩
   repeat (first | refine nav ?_ | refine bo ?_)
   (refine wr fun K R hK hR=>?_;simp only [go_sem,h5,h1,plans_len];(try go_ints);(try simp only [go_sem,h5,h1,plans_len]);(repeat refine And.intro side ?_);(first|refine hK _ ?_|refine hR _ _ ?_);clear hK hR K R)
   repeat (first | refine nav ?_ | refine bo ?_)
   refine W_cond (by simp only [go_sem]<;>exact rfl) (fun hb=>?_) (fun hb=>?_)
   ·have hb1 : k < p.kids.length:=by simpa using hb
    obtain ⟨x,hx⟩ : ∃ x,p.kids[k]? = some x:=⟨_,List.getElem?_eq_getElem hb1⟩
    have hxm:=List.mem_of_getElem? hx
    have hcm:=cnt_mem hxm
    have hs:=ih x hxm (hp.kid x hxm) (hpo.kid x hxm) (by omega) (width_kid h0 x hxm)
    rw [x.cells_eq] at hs
    repeat (first | refine nav ?_ | refine bo ?_)
    (refine wr fun K R hK hR=>?_;simp only [go_sem,h5,h1,plans_get hx,plans_len];(try go_ints);(try simp only [go_sem,h5,h1,plans_get hx,plans_len]);(repeat refine And.intro side ?_);(first|refine hK _ ?_|refine hR _ _ ?_);clear hK hR K R)
    refine RL_callF (hs) rfl rfl rfl (by first | (simp only [go_sem]<;>first | exact LeA.refl _ | exact Le.refl _) | exact LeA.refl _) rfl rfl ?_
    (refine rr fun K R hK hR=>?_;simp only [go_sem];(try go_ints);(repeat refine And.intro side ?_);(first|refine hK _ ?_|refine hR _ _ ?_);clear hK hR K R)
    repeat (first | refine nav ?_ | refine bo ?_)
    refine W_cond (b:=!goodF x) (by simp only [go_sem]) (fun hd=>?_) (fun hd=>?_)
    ·rw [show p.kids.all goodF = false from List.all_eq_false.2 ⟨x,hxm,by simpa using hd⟩]
     repeat (first | refine nav ?_ | refine bo ?_)
     (refine wr fun K R hK hR=>?_;simp only [go_sem];(try go_ints);(repeat refine And.intro side ?_);(first|refine hK _ ?_|refine hR _ _ ?_);clear hK hR K R)
     repeat (first | refine nav ?_ | refine bo ?_)
     refine endQ_data (by simp only [go_sem]<;>exact rfl) (Le.of_eq ?_) rfl
     rfl
    ·repeat (first | refine nav ?_ | refine bo ?_)
     (refine wr fun K R hK hR=>?_;simp only [go_sem,h5];(try go_ints);(try simp only [go_sem,h5]);(repeat refine And.intro side ?_);(first|refine hK _ ?_|refine hR _ _ ?_);clear hK hR K R)
     refine forQ_normal (p.kids.length - (k + 1)) (by omega) ⟨k + 1,rfl,by simp only [go_sem]<;>rfl,by simp only [go_sem,h12],rfl,hb1,fun i hik x' hx'=>?_⟩
     rcases Nat.lt_succ_iff_lt_or_eq.1 hik with h1 | rfl
     ·exact hi i h1 x' hx'
     ·rw [hx] at hx'
      obtain rfl:=Option.some.inj hx'
      simpa using hd
   ·simp at hb
    obtain hke : k = p.kids.length:=by omega
    rw [show p.kids.all goodF = true from List.all_eq_true.2 fun x hx=>by
     obtain ⟨i,hix⟩:=List.getElem?_of_mem hx
     exact hi i (by have:=(List.getElem?_eq_some_iff.1 hix).1;omega) x hix]
    repeat (first | refine nav ?_ | refine bo ?_)
    (refine wr fun K R hK hR=>?_;simp only [go_sem];(try go_ints);(repeat refine And.intro side ?_);(first|refine hK _ ?_|refine hR _ _ ?_);clear hK hR K R)
    repeat (first | refine nav ?_ | refine bo ?_)
    refine endQ_data (by simp only [go_sem]<;>exact rfl) (Le.of_eq ?_) rfl
    rfl
end Go.AW
namespace Go.AW
open Go Go.Proofs TyTryz Go.IntWalk
set_option linter.unusedSimpArgs false
set_option linter.unusedVariables false
set_option maxRecDepth 10000
set_option maxHeartbeats 4000000
theorem proj_spec (g : PlanD) (cols : List Int) : ACallsD Tryz.prog 93 [.agg g.cells,.sl 1 (ints cols)] (.agg (projP g cols).cells):=by
 rw [g.cells_eq]
 refine ACalls_of' (n:=9) (rs:=[.cell 4 25]) (show Tryz.prog.funcs[93]? = some Tryz.f93 by kernel_rfl) rfl rfl rfl (by simp) (by decide +kernel) ?_
 repeat (first | refine nav ?_ | refine bo ?_)
 (refine wr fun K R hK hR=>?_;simp only [go_sem];(try go_ints);(repeat refine And.intro side ?_);(first|refine hK _ ?_|refine hR _ _ ?_);clear hK hR K R)
 repeat (first | refine nav ?_ | refine bo ?_)
 (refine wr fun K R hK hR=>?_;simp only [go_sem];(try go_ints);(repeat refine And.intro side ?_);(first|refine hK _ ?_|refine hR _ _ ?_);clear hK hR K R)
 repeat (first | refine nav ?_ | refine bo ?_)
 refine endQ_data (by simp only [go_sem]<;>exact rfl) (Le.of_eq ?_) rfl
 simp only [projP,PlanD.cells,PlanD.cellsL,g.cells_eq]
def compP (cs ds : List Int) (j : Nat) : List Int:=((cs.map fun c=>ds.getD c.toNat 0).take j) ++ List.replicate (cs.length - j) 0
theorem compP_len (cs ds : List Int) (j : Nat) (h : j ≤ cs.length) : (compP cs ds j).length = cs.length:=by simp [compP];omega
theorem compP_zero (cs ds : List Int) : compP cs ds 0 = List.replicate cs.length 0:=by simp [compP]
theorem compP_full (cs ds : List Int) : compP cs ds cs.length = cs.map fun c=>ds.getD c.toNat 0:=by
 unfold compP
 rw [List.take_of_length_le (by simp)];simp
theorem compP_set (cs ds : List Int) (j : Nat) (c : Int) (h : cs[j]? = some c) : (compP cs ds j).set j (ds.getD c.toNat 0) = compP cs ds (j + 1):=by
 have hj:=(List.getElem?_eq_some_iff.1 h).1
 have hf : (cs.map fun c=>ds.getD c.toNat 0)[j]? = some (ds.getD c.toNat 0):=by simp [h]
 have hl : ((cs.map fun c=>ds.getD c.toNat 0).take j).length = j:=by simp;omega
 unfold compP
 rw [List.set_append_right _ _ (by omega),hl,Nat.sub_self,List.take_add_one,hf,show cs.length - j = (cs.length - (j + 1)) + 1 by omega,List.replicate_succ]
 simp
abbrev zPlan : Ob:=.cells 7 [[AV.i IntKind.i64 0,AV.i IntKind.i64 0,AV.i IntKind.i64 0,AV.i IntKind.i64 0,AV.s ByteArray.empty,AV.own 1 [],AV.own 7 []]]
theorem projected_spec (p k : PlanD) (h5 : p.kind = 5) (hk : p.kids = [k]) (h0 : 0 ≤ widthR p) (hp : p.Sm) : ACallsD Tryz.prog 69 [.agg p.cells] (.agg (projectedF p).cells):=by
 obtain ⟨bi,i5,g,ik,ig0,ilen,icase,icin⟩:=bet_inner h0 h5 hk
 have hk0 : 0 ≤ widthR k:=width_kid h0 k (by rw [hk];simp)
 have hl12:=(widthR_le p).2
 have hks : k.Sm:=hp.kid k (by rw [hk];simp)
 have hgs : g.Sm:=by
  rcases icase with ⟨_,rfl,_⟩ | ⟨_,hg,_⟩
  ·exact hks
  ·exact hks.kid g (by rw [hg];simp)
 have hpin : (p.cols.length : Int) ≤ 12 ∧ (∀ c ∈ p.cols,0 ≤ c ∧ c < widthR k):=by
  cases node_of h0 with
  | rel e=>omega
  | all e=>omega
  | pick a e=>omega
  | join a b e=>omega
  | two a b e=>omega
  | project a e hk' h1 hw hin=>rw [hk] at hk';cases hk';exact ⟨by omega,hin⟩
 have hwg:=width_spec g hgs ig0
 have il : ∀ l : List Int,(ints l).length = l.length:=fun l=>by simp [ints]
 have f1 : ∀ {q a : PlanD},q.kids = [a] → (plans q.kids).length = 1 ∧ (plans q.kids).getD 0 [] = [.i .i64 a.kind,.i .i64 a.width,.i .i64 a.i,.i .i64 a.j,.s a.name,.sl 1 (ints a.cols),.sl 7 (plans a.kids)]:=fun {q a} e=>by
  rw [e];exact ⟨rfl,by simp [plans,PlanD.cells_eq]⟩
 obtain ⟨g1,g2⟩:=f1 hk
 rw [p.cells_eq]
 rw [g.cells_eq] at hwg
 refine ACalls_of' (n:=70) (rs:=[.cell 2 25]) (show Tryz.prog.funcs[69]? = some Tryz.f69 by kernel_rfl) rfl rfl rfl (by simp) (by decide +kernel) ?_
 repeat (first | refine nav ?_ | refine bo ?_)
 (refine wr fun K R hK hR=>?_;simp only [go_sem];(try go_ints);(repeat refine And.intro side ?_);(first|refine hK _ ?_|refine hR _ _ ?_);clear hK hR K R)
 repeat (first | refine nav ?_ | refine bo ?_)
 (refine wr fun K R hK hR=>?_;simp only [go_sem,g1,g2];(try go_ints);(try simp only [go_sem,g1,g2]);(repeat refine And.intro side ?_);(first|refine hK _ ?_|refine hR _ _ ?_);clear hK hR K R)
 repeat (first | refine nav ?_ | refine bo ?_)
 (refine wr fun K R hK hR=>?_;simp only [go_sem];(try go_ints);(repeat refine And.intro side ?_);(first|refine hK _ ?_|refine hR _ _ ?_);clear hK hR K R)
 repeat (first | with_reducible refine seqQ_normal ?_ | with_reducible refine W_seq ?_)
 obtain ⟨q,hq⟩ : ∃ q,q = innerF p:=⟨_,rfl⟩
 refine W_meet (fun s=>okO s.o = true ∧ s.o[0]? = some (boxP q) ∧ s.o[1]? = some zPlan ∧ s.t 1 = .ptr 0 0 0 ∧ s.t 2 = .ptr 1 0 0) ?_ ?_
 ·by_cases hk5 : k.kind = 5
  ·have hcase : k.kids = [g] ∧ innerF p = projP g (p.cols.map fun c=>k.cols.getD c.toNat 0):=by
    rcases icase with ⟨h,_⟩ | ⟨_,h⟩
    ·exact absurd hk5 h
    ·exact h
   obtain ⟨hkg,hi⟩:=hcase
   obtain ⟨g3,g4⟩:=f1 hkg
   have hkw : widthR k = k.cols.length:=by
    cases node_of hk0 with
    | rel e=>omega
    | all e=>omega
    | pick a e=>omega
    | join a b e=>omega
    | two a b e=>omega
    | project a e hk' h1 hw hin=>exact hw
   have hpc:=hpin.1
   refine W_cond (b:=true) (by simp only [go_sem,hk5]<;>rfl) (fun _=>?_) (fun hb=>by cases hb)
   repeat (first | refine nav ?_ | refine bo ?_)
   (refine wr fun K R hK hR=>?_;simp only [go_sem,il];(try go_ints);(try simp only [go_sem,il]);(repeat refine And.intro side ?_);(first|refine hK _ ?_|refine hR _ _ ?_);clear hK hR K R)
   repeat (first | refine nav ?_ | refine bo ?_)
   (refine wr fun K R hK hR=>?_;simp only [go_sem,il];(try go_ints);(try simp only [go_sem,il]);(repeat refine And.intro side ?_);(first|refine hK _ ?_|refine hR _ _ ?_);clear hK hR K R)
   repeat (first | refine nav ?_ | refine bo ?_)
   have e0 : List.replicate p.cols.length [AV.i .i64 0] = ints (compP p.cols k.cols 0):=by rw [compP_zero];simp [ints]
   rw [e0]
   refine W_for 23 37 [5,6] (fun m t o=>∃ j : Nat,[boxP p,zPlan,boxP k,Ob.cells 1 (ints (compP p.cols k.cols j))] = o ∧ t 23 = .i .i64 j ∧ m = p.cols.length - j ∧ j ≤ p.cols.length) p.cols.length ⟨0,rfl,by simp only [go_sem]<;>rfl,by omega,by omega⟩ ?_
   rintro m t o ⟨j,rfl,h23,rfl,hj⟩
   repeat (first | refine nav ?_ | refine bo ?_)
   (refine wr fun K R hK hR=>?_;simp only [go_sem,h23];(try go_ints);(try simp only [go_sem,h23]);(repeat refine And.intro side ?_);(first|refine hK _ ?_|refine hR _ _ ?_);clear hK hR K R)
   repeat (first | refine nav ?_ | refine bo ?_)
   refine W_cond (by simp only [go_sem]<;>exact rfl) (fun hb=>?_) (fun hb=>?_)
   ·have hb1 : j < p.cols.length:=by simpa using hb
    obtain ⟨c,hcj⟩ : ∃ c,p.cols[j]? = some c:=⟨_,List.getElem?_eq_getElem hb1⟩
    obtain ⟨c0,c1⟩:=hpin.2 c (List.mem_of_getElem? hcj)
    have c1' : c < k.cols.length:=by omega
    obtain ⟨v,hv1⟩ : ∃ v,k.cols[c.toNat]? = some v:=⟨_,List.getElem?_eq_getElem (by omega)⟩
    have hgv : k.cols.getD c.toNat 0 = v:=by simp [hv1]
    have hpl:=compP_len p.cols k.cols j hj
    obtain ⟨z,hz⟩ : ∃ z,(compP p.cols k.cols j)[j]? = some z:=⟨_,List.getElem?_eq_getElem (by omega)⟩
    have hst:=compP_set p.cols k.cols j c hcj
    rw [hgv] at hst
    repeat (first | refine nav ?_ | refine bo ?_)
    (refine wr fun K R hK hR=>?_;simp only [go_sem,h23,ints_get hcj,il];(try go_ints);(try simp only [go_sem,h23,ints_get hcj,il]);(repeat refine And.intro side ?_);(first|refine hK _ ?_|refine hR _ _ ?_);clear hK hR K R)
    repeat (first | refine nav ?_ | refine bo ?_)
    (refine wr fun K R hK hR=>?_;simp only [go_sem,ints_get hv1,ints_get hz,il,hpl,ints_set,hst];(try go_ints);(try simp only [go_sem,ints_get hv1,ints_get hz,il,hpl,ints_set,hst]);(repeat refine And.intro side ?_);(first|refine hK _ ?_|refine hR _ _ ?_);clear hK hR K R)
    repeat (first | refine nav ?_ | refine bo ?_)
    (refine wr fun K R hK hR=>?_;simp only [go_sem,h23];(try go_ints);(try simp only [go_sem,h23]);(repeat refine And.intro side ?_);(first|refine hK _ ?_|refine hR _ _ ?_);clear hK hR K R)
    refine forQ_normal (p.cols.length - (j + 1)) (by omega) ⟨j + 1,rfl,by simp only [go_sem]<;>rfl,rfl,hb1⟩
   ·simp at hb
    obtain hje : j = p.cols.length:=by omega
    rw [hje,compP_full]
    obtain ⟨cs,hcs⟩ : ∃ cs,cs = p.cols.map fun c=>k.cols.getD c.toNat 0:=⟨_,rfl⟩
    have hcl : cs.length = p.cols.length:=by rw [hcs];simp
    have hclI : (ints cs).length = p.cols.length:=by rw [il,hcl]
    have htk : List.take p.cols.length (ints cs) = ints cs:=List.take_of_length_le (by omega)
    rw [← hcs] at hi ⊢
    have hpr:=proj_spec g cs
    rw [g.cells_eq,← hi,(innerF p).cells_eq] at hpr
    repeat (first | refine nav ?_ | refine bo ?_)
    refine W_frz 3 (rows:=ints cs) (by simp [okO,Ob.ltk,ints,AV.ltk]) rfl (by simp [ints,AV.dat,AV.ltk,AV.plain]) fun o3 v1 v2 v3 v4=>?_
    rw [show (ints cs).map (fun r=>r.map AV.dat) = ints cs from by simp [ints,Function.comp_def,AV.dat]] at v3 v4 ⊢
    have w0:=v3 0 _ (by decide) rfl
    have w1:=v3 1 _ (by decide) rfl
    have w2:=v3 2 _ (by decide) rfl
    simp only [Ob.unref,AV.unref,List.map_cons,List.map_nil] at w0 w1 w2
    refine W_tab [(1,.ptr 0 0 0),(2,.ptr 1 0 0),(3,.ptr 2 0 0),(4,.sl 1 (ints cs))] (fun y hy=>?_) ?_
    ·simp only [List.mem_cons,List.not_mem_nil,or_false] at hy
     rcases hy with rfl | rfl | rfl | rfl
     ·simp only [go_sem,AV.unref]<;>exact Le.refl _
     ·simp only [go_sem,AV.unref]<;>exact Le.refl _
     ·simp only [go_sem,AV.unref]<;>exact Le.refl _
     ·simp only [go_sem,AV.unref,hclI,Nat.le_refl,and_self,↓reduceIte,List.drop_zero,htk]<;>exact Le.refl _
    clear v3 v4
    (refine wr fun K R hK hR=>?_;simp only [go_sem,w2,g3,g4];(try go_ints);(try simp only [go_sem,w2,g3,g4]);(repeat refine And.intro side ?_);(first|refine hK _ ?_|refine hR _ _ ?_);clear hK hR K R)
    refine RL_callF (hpr) rfl rfl rfl (by first | (simp only [go_sem]<;>first | exact LeA.refl _ | exact Le.refl _) | exact LeA.refl _) rfl rfl ?_
    (refine rr fun K R hK hR=>?_;simp only [go_sem,w0];(try go_ints);(try simp only [go_sem,w0]);(repeat refine And.intro side ?_);(first|refine hK _ ?_|refine hR _ _ ?_);clear hK hR K R)
    repeat (first | refine nav ?_ | refine bo ?_)
    have w0l:=(List.getElem?_eq_some_iff.1 w0).1
    have w1l:=(List.getElem?_eq_some_iff.1 w1).1
    refine ⟨okO_set' v1 rfl,?_,?_,by simp only [go_sem],by simp only [go_sem]⟩
    ·show (o3.set 0 _)[0]? = _
     rw [List.getElem?_set_self w0l,hq]
    ·show (o3.set 0 _)[1]? = _
     rw [List.getElem?_set_ne (by decide),w1]
  ·have hi : innerF p = p:=by
    rcases icase with ⟨_,_,h⟩ | ⟨h,_⟩
    ·exact h
    ·exact absurd h hk5
   refine W_cond (b:=false) (by simp only [go_sem]<;>simp [hk5]) (fun hb=>by cases hb) (fun _=>?_)
   repeat (first | refine nav ?_ | refine bo ?_)
   rw [hq,hi]
   exact ⟨rfl,rfl,rfl,by simp only [go_sem],by simp only [go_sem]⟩
 ·rintro ⟨t,o⟩ ⟨hok,u0,u1,h1,h2⟩
  simp only at hok u0 u1 h1 h2
  rw [← hq] at ik i5 icin ilen
  obtain ⟨g5,g6⟩:=f1 ik
  have hqo : projectedF p = outerF q:=by rw [hq];rfl
  rw [hqo]
  have hql : (q.cols.length : Int) ≤ 12:=by omega
  have fin : ∀ (r : PlanD) (t' : Nat → AV) (o' : List Ob),o'[1]? = some (boxP r) → t' 2 = .ptr 1 0 0 → (outerF q = r) → endQ Tryz.prog [ResultVar.cell 2 25] ([] : List Ob).length (fun r' o'=>r' = .agg (outerF q).cells ∧ o' = []) Exit.ret ⟨t',o'⟩:=by
   intro r t' o' e1 e2 e4
   refine endQ_data (by simp only [go_sem,e1,e2]<;>exact rfl) (Le.of_eq ?_) (by rw [PlanD.cells_eq];rfl)
   rw [e4,r.cells_eq]
  have u1l:=(List.getElem?_eq_some_iff.1 u1).1
  repeat (first | refine nav ?_ | refine bo ?_)
  (refine W_dreg (by decide +kernel) [] [0,1,2,3,4,5,6,7,8] [[],[0],[0,1],[],[3],[3,4],[4,3,5],[5,3,4,6],[6,4,3,5,7,1,0,2]] (by decide +kernel) rfl fun K R hK hR=>?_;simp only [List.filterMap_cons,List.filterMap_nil,List.getElem?_cons_zero,List.getElem?_cons_succ,List.cons_append,List.nil_append];simp only [go_sem,h1,u0,g5,g6,il];(try go_ints);(try simp only [go_sem,h1,u0,g5,g6,il]);(repeat refine And.intro side ?_);(first|refine hK _ ?_|refine hR _ _ ?_);clear hK hR K R)
  refine D_callD (hwg) rfl rfl rfl (by first | (simp only [go_sem]<;>first | exact LeA.refl _ | exact Le.refl _) | exact LeA.refl _) rfl rfl rfl rfl ?_
  (refine D_reg fun K R hK hR=>?_;simp only [go_sem];(try go_ints);(repeat refine And.intro side ?_);(first|refine hK _ ?_|refine hR _ _ ?_);clear hK hR K R)
  repeat (first | refine nav ?_ | refine bo ?_)
  refine W_cond (b:=decide ((q.cols.length : Int) ≠ widthR g)) (by simp only [go_sem];simp [bne];rw [Bool.eq_iff_iff];simp) (fun hd=>?_) (fun hd=>?_)
  ·have ho : outerF q = q:=by unfold outerF;rw [ik];simp only;rw [if_pos (by simpa using hd)]
   repeat (first | refine nav ?_ | refine bo ?_)
   (refine wr fun K R hK hR=>?_;simp only [go_sem,h1,h2,u0,u1];(try go_ints);(try simp only [go_sem,h1,h2,u0,u1]);(repeat refine And.intro side ?_);(first|refine hK _ ?_|refine hR _ _ ?_);clear hK hR K R)
   repeat (first | refine nav ?_ | refine bo ?_)
   refine fin q _ _ (by show (o.set 1 _)[1]? = _;rw [List.getElem?_set_self u1l]) (by simp only [go_sem,h2]) ho
  ·have hw : (q.cols.length : Int) = widthR g:=by simpa using hd
   have ho : outerF q = if idC q.cols = true then g else q:=by unfold outerF;rw [ik];simp only;rw [if_neg (by omega)]
   repeat (first | refine nav ?_ | refine bo ?_)
   (refine wr fun K R hK hR=>?_;simp only [go_sem,h1,u0,il];(try go_ints);(try simp only [go_sem,h1,u0,il]);(repeat refine And.intro side ?_);(first|refine hK _ ?_|refine hR _ _ ?_);clear hK hR K R)
   repeat (first | refine nav ?_ | refine bo ?_)
   refine W_for 56 66 [7,8] (fun m t2 o2=>∃ j : Nat,o = o2 ∧ t2 56 = .i .i64 j ∧ m = q.cols.length - j ∧ j ≤ q.cols.length ∧ ∀ i < j,q.cols[i]? = some (i : Int)) q.cols.length ⟨0,rfl,by simp only [go_sem]<;>rfl,by omega,by omega,by simp⟩ ?_
   rintro m t2 o2 ⟨j,rfl,h56,rfl,hj,hji⟩
   repeat (first | refine nav ?_ | refine bo ?_)
   (refine wr fun K R hK hR=>?_;simp only [go_sem,h56];(try go_ints);(try simp only [go_sem,h56]);(repeat refine And.intro side ?_);(first|refine hK _ ?_|refine hR _ _ ?_);clear hK hR K R)
   repeat (first | refine nav ?_ | refine bo ?_)
   refine W_cond (by simp only [go_sem]<;>exact rfl) (fun hb=>?_) (fun hb=>?_)
   ·have hb1 : j < q.cols.length:=by simpa using hb
    obtain ⟨c,hcj⟩ : ∃ c,q.cols[j]? = some c:=⟨_,List.getElem?_eq_getElem hb1⟩
    repeat (first | refine nav ?_ | refine bo ?_)
    (refine wr fun K R hK hR=>?_;simp only [go_sem,h56,ints_get hcj,il];(try go_ints);(try simp only [go_sem,h56,ints_get hcj,il]);(repeat refine And.intro side ?_);(first|refine hK _ ?_|refine hR _ _ ?_);clear hK hR K R)
    repeat (first | refine nav ?_ | refine bo ?_)
    (refine wr fun K R hK hR=>?_;simp only [go_sem];(try go_ints);(repeat refine And.intro side ?_);(first|refine hK _ ?_|refine hR _ _ ?_);clear hK hR K R)
    repeat (first | refine nav ?_ | refine bo ?_)
    refine W_cond (by simp only [go_sem]<;>exact rfl) (fun hb=>?_) (fun hb=>?_)
    ·have hne : (j : Int) ≠ c:=by simpa [bne] using hb
     have hid : idC q.cols = false:=by
      unfold idC
      rw [decide_eq_false_iff_not]
      intro e
      have h3:=congrArg (fun l : List Int=>l[j]?) e
      simp only [List.getElem?_map,List.getElem?_range hb1,hcj,Option.map_some,Option.some.injEq] at h3
      exact hne h3.symm
     rw [hid,if_neg (by decide)] at ho
     repeat (first | refine nav ?_ | refine bo ?_)
     (refine wr fun K R hK hR=>?_;simp only [go_sem,h1,h2,u0,u1];(try go_ints);(try simp only [go_sem,h1,h2,u0,u1]);(repeat refine And.intro side ?_);(first|refine hK _ ?_|refine hR _ _ ?_);clear hK hR K R)
     repeat (first | refine nav ?_ | refine bo ?_)
     refine fin q _ _ (by show (o.set 1 _)[1]? = _;rw [List.getElem?_set_self u1l]) (by simp only [go_sem,h2]) ho
    ·have heq : (j : Int) = c:=by simpa [bne] using hb
     repeat (first | refine nav ?_ | refine bo ?_)
     (refine wr fun K R hK hR=>?_;simp only [go_sem,h56];(try go_ints);(try simp only [go_sem,h56]);(repeat refine And.intro side ?_);(first|refine hK _ ?_|refine hR _ _ ?_);clear hK hR K R)
     refine forQ_normal (q.cols.length - (j + 1)) (by omega) ⟨j + 1,rfl,by simp only [go_sem]<;>rfl,rfl,hb1,fun i hij=>?_⟩
     rcases Nat.lt_succ_iff_lt_or_eq.1 hij with h | rfl
     ·exact hji i h
     ·rw [hcj,heq]
   ·simp at hb
    obtain hje : j = q.cols.length:=by omega
    have hid : idC q.cols = true:=by
     unfold idC
     rw [decide_eq_true_iff]
     apply List.ext_getElem?
     intro i
     by_cases hi : i < q.cols.length
     ·rw [hji i (by omega),List.getElem?_map,List.getElem?_range hi];rfl
     ·rw [List.getElem?_eq_none (by omega),List.getElem?_eq_none (by simpa using hi)]
    rw [if_pos hid] at ho
    repeat (first | refine nav ?_ | refine bo ?_)
    (refine wr fun K R hK hR=>?_;simp only [go_sem,h1,h2,u0,u1,g5,g6];(try go_ints);(try simp only [go_sem,h1,h2,u0,u1,g5,g6]);(repeat refine And.intro side ?_);(first|refine hK _ ?_|refine hR _ _ ?_);clear hK hR K R)
    repeat (first | refine nav ?_ | refine bo ?_)
    refine fin g _ _ (by show (o.set 1 _)[1]? = _;rw [List.getElem?_set_self u1l]) (by simp only [go_sem,h2]) ho
end Go.AW
namespace Go.AW
open Go Go.Proofs TyTryz Go.IntWalk
set_option linter.unusedSimpArgs false
set_option linter.unusedVariables false
set_option maxRecDepth 10000
set_option maxHeartbeats 8000000
theorem sm_ok : ∀ (p : PlanD),p.Sm → p.Ok :=
 PlanD.ind fun p ih h=>⟨p,by have:=h.name;omega,by have:=h.cols;omega,by have:=h.len;omega,fun k hk=>ih k hk (h.kid k hk)⟩
theorem better_sm : ∀ (p : PlanD),p.Sm → 0 ≤ widthR p → (betterF p).Sm :=
 PlanD.ind fun p ih hp h0=>by
  have hkid:=fun q hq=>ih q hq (hp.kid q hq) (width_kid h0 q hq)
  rw [betterF_eq]
  obtain ⟨o,ho⟩ : ∃ o,o = p.withKids (p.kids.map betterF):=⟨_,rfl⟩
  have hos : o.Sm:=by
   rw [ho]
   refine ⟨_,hp.name,hp.cols,?_,fun k hk=>?_⟩
   ·rw [wk_kids,List.length_map];exact hp.len
   ·rw [wk_kids] at hk
    obtain ⟨q,hq,rfl⟩:=List.mem_map.1 hk
    exact hkid q hq
  have hop : (projectedF o).Sm:=by
   have hin : (innerF o).Sm:=by
    unfold innerF
    split
    ·exact hos
    ·rename_i k r hk
     split
     ·split
      ·exact hos
      ·rename_i g r2 hg
       refine ⟨_,by show (0 : Nat) ≤ _;omega,?_,by simp [projP,PlanD.kids],fun x hx=>?_⟩
       ·show (List.map _ o.cols).length ≤ _
        rw [List.length_map];exact hos.cols
       ·simp only [projP,PlanD.kids,List.mem_singleton] at hx
        subst hx
        exact (hos.kid k (by rw [hk];simp)).kid x (by rw [hg];simp)
     ·exact hos
   unfold projectedF outerF
   split
   ·exact hin
   ·rename_i k r hk
    split
    ·exact hin
    ·split
     ·exact hin.kid k (by rw [hk];simp)
     ·exact hin
  rw [← ho]
  unfold topF
  split
  ·rename_i a b r hk
   split
   ·exact hos.kid a (by rw [hk];simp)
   ·split
    ·exact hop
    ·exact hos
  ·split
   ·exact hop
   ·exact hos
theorem plans_dat (l : List PlanD) : (plans l).map (fun r=>r.map AV.dat) = plans l:=by
 conv=>rhs;rw [← List.map_id (plans l)]
 refine List.map_congr_left fun r hr=>?_
 unfold plans at hr
 obtain ⟨q,hq,rfl⟩:=List.mem_map.1 hr
 rw [q.cells_eq];rfl
theorem plans_plain (l : List PlanD) : ((plans l).all fun r=>r.all fun c=>c.dat.ltk 0 && c.dat.plain) = true:=by
 rw [List.all_eq_true]
 intro r hr
 unfold plans at hr
 obtain ⟨q,hq,rfl⟩:=List.mem_map.1 hr
 rw [q.cells_eq];rfl
theorem plans_ltk (l : List PlanD) (k : Nat) : (Ob.cells 7 (plans l)).ltk k = true:=by
 simp only [Ob.ltk]
 rw [List.all_eq_true]
 intro r hr
 unfold plans at hr
 obtain ⟨q,hq,rfl⟩:=List.mem_map.1 hr
 rw [q.cells_eq];rfl
theorem cols_le {p : PlanD} (h : 0 ≤ widthR p) : p.cols.length ≤ 12:=by
 by_cases h5 : p.kind = 5
 ·have hl:=(widthR_le p).2
  cases node_of h with
  | project a e hk h1 hw hin=>omega
  | rel e hk hn hw=>omega
  | all e hk hw=>omega
  | pick a e hk=>omega
  | join a b e hk=>omega
  | two a b e hk=>omega
 ·rcases Nat.eq_zero_or_pos p.cols.length with h0 | h0
  ·omega
  ·exfalso
   rw [widthR_eq] at h
   split at h
   ·omega
   ·rename_i l _
    have ho : outF p l = -1:=by
     unfold outF
     rw [decide_eq_true (show ((p.cols.length : Int) > 0) by omega),show (p.kind == 5) = false from by simpa using h5]
     simp
    rw [ho] at h
    simp [capW] at h
theorem plans_app (a : List PlanD) (x : PlanD) : plans a ++ [[.i .i64 x.kind,.i .i64 x.width,.i .i64 x.i,.i .i64 x.j,.s x.name,.sl 1 (ints x.cols),.sl 7 (plans x.kids)]] = plans (a ++ [x]):=by
 simp [plans,x.cells_eq]
abbrev zPlanN : Ob:=.cells 7 [[AV.i IntKind.i64 0,AV.i IntKind.i64 0,AV.i IntKind.i64 0,AV.i IntKind.i64 0,AV.s ByteArray.empty,AV.nsl,AV.nsl]]
theorem better_spec : ∀ (p : PlanD),p.Sm → 0 ≤ widthR p → ACallsD Tryz.prog 39 [.agg p.cells] (.agg (betterF p).cells) :=
 PlanD.ind fun p ih hp h0=>by
  have hkid:=fun q hq=>ih q hq (hp.kid q hq) (width_kid h0 q hq)
  have hksm:=fun q hq=>better_sm q (hp.kid q hq) (width_kid h0 q hq)
  have hkl2 : p.kids.length ≤ 2:=by
   cases node_of h0 with
   | rel e hk=>rw [hk];simp
   | all e hk=>rw [hk];simp
   | pick a e hk=>rw [hk];simp
   | join a b e hk=>rw [hk];simp
   | project a e hk=>rw [hk];simp
   | two a b e hk=>rw [hk];simp
  have hwl:=(widthR_le p).2
  have hcl:=clone_spec p.cols (by have:=cols_le h0;omega)
  have hbe:=betterF_eq p
  obtain ⟨ks,hks⟩ : ∃ ks,ks = p.kids.map betterF:=⟨_,rfl⟩
  have hkl : ks.length = p.kids.length:=by rw [hks];simp
  rw [← hks] at hbe
  rw [p.cells_eq]
  refine ACalls_of' (n:=61) (rs:=[.cell 2 25]) (show Tryz.prog.funcs[39]? = some Tryz.f39 by kernel_rfl) rfl rfl rfl (by simp) (by decide +kernel) ?_
  repeat (first | refine nav ?_ | refine bo ?_)
  (refine W_reg [1000000] fun K R hK hR=>?_;simp only [go_sem];(try go_ints);(repeat refine And.intro side ?_);(first|refine hK _ ?_|refine hR _ _ ?_);clear hK hR K R)
  repeat (first | refine nav ?_ | refine bo ?_)
  (refine W_dreg (by decide +kernel) [1000000] [0,1,2,3,4,5,6,7,8,9,10,11,12,13,14,15] [[],[0],[],[2],[],[4],[],[6],[],[8],[],[10],[10,11],[11,10,12,8,9,6,7,4,5,2,3,0,1],[],[1,0,3,2,5,4,7,6,9,8,12,10,11,13,14]] (by decide +kernel) rfl fun K R hK hR=>?_;simp only [List.filterMap_cons,List.filterMap_nil,List.getElem?_cons_zero,List.getElem?_cons_succ,List.cons_append,List.nil_append];simp only [go_sem];(try go_ints);(repeat refine And.intro side ?_);(first|refine hK _ ?_|refine hR _ _ ?_);clear hK hR K R)
  refine D_callD (hcl) rfl rfl rfl (by first | (simp only [go_sem]<;>first | exact LeA.refl _ | exact Le.refl _) | exact LeA.refl _) rfl rfl rfl rfl ?_
  (refine D_reg fun K R hK hR=>?_;simp only [go_sem];(try go_ints);(repeat refine And.intro side ?_);(first|refine hK _ ?_|refine hR _ _ ?_);clear hK hR K R)
  repeat (first | refine nav ?_ | refine bo ?_)
  (refine wr fun K R hK hR=>?_;simp only [go_sem];(try go_ints);(repeat refine And.intro side ?_);(first|refine hK _ ?_|refine hR _ _ ?_);clear hK hR K R)
  repeat (first | refine nav ?_ | refine bo ?_)
  refine W_weak (s':=⟨mix 23 35 [5] (tab [(23,.i .i64 0)]) (tab [(1,.ptr 0 0 0),(2,.ptr 1 0 0),(3,.ptr 2 0 0),(21,.sl 7 (plans p.kids)),(22,.i .i64 p.kids.length)]),[boxP p,zPlanN,.cells 7 [[AV.i .i64 p.kind,.i .i64 p.width,.i .i64 p.i,.i .i64 p.j,.s p.name,.sl 1 (ints p.cols),.nsl]]]⟩) (tab_mix (fun x hx=>?_) (fun x hx=>?_)) rfl ?_
  ·simp only [List.mem_cons,List.not_mem_nil,or_false] at hx
   rcases hx with rfl
   rfl
  ·simp only [List.mem_cons,List.not_mem_nil,or_false] at hx
   rcases hx with rfl | rfl | rfl | rfl | rfl
   all_goals (simp only [go_sem,plans_len]<;>rfl)
  refine W_forM 23 35 [5] (fun m t o=>∃ (k : Nat) (v : AV),okO o = true ∧ o[0]? = some (boxP p) ∧ o[1]? = some zPlanN ∧ o[2]? = some (.cells 7 [[AV.i .i64 p.kind,.i .i64 p.width,.i .i64 p.i,.i .i64 p.j,.s p.name,.sl 1 (ints p.cols),v]]) ∧ t 23 = .i .i64 k ∧ (v = .nsl ∧ k = 0 ∨ ∃ K,2 < K ∧ 0 < k ∧ v = .ref K 0 k ∧ o[K]? = some (.cells 7 (plans (ks.take k)))) ∧ m = p.kids.length - k ∧ k ≤ p.kids.length) p.kids.length ⟨0,.nsl,rfl,rfl,rfl,rfl,by simp only [go_sem]<;>rfl,.inl ⟨rfl,rfl⟩,by omega,by omega⟩ ?_
  rintro m t o ⟨k,v,hok,u0,u1,u2,h23,hv,rfl,hk⟩
  have hl0:=(List.getElem?_eq_some_iff.1 u2).1
  repeat (first | refine nav ?_ | refine bo ?_)
  (refine wr fun K R hK hR=>?_;simp only [go_sem,h23];(try go_ints);(try simp only [go_sem,h23]);(repeat refine And.intro side ?_);(first|refine hK _ ?_|refine hR _ _ ?_);clear hK hR K R)
  repeat (first | refine nav ?_ | refine bo ?_)
  refine W_cond (by simp only [go_sem]<;>exact rfl) (fun hb=>?_) (fun hb=>?_)
  ·have hb1 : k < p.kids.length:=by simpa using hb
   obtain ⟨x,hx⟩ : ∃ x,p.kids[k]? = some x:=⟨_,List.getElem?_eq_getElem hb1⟩
   have hbx:=hkid x (List.mem_of_getElem? hx)
   have hkx : ks[k]? = some (betterF x):=by rw [hks,List.getElem?_map,hx];rfl
   obtain ⟨y,hy⟩ : ∃ y,y = betterF x:=⟨_,rfl⟩
   rw [← hy] at hbx hkx
   rw [x.cells_eq,y.cells_eq] at hbx
   have hro : rowsOk false [[AV.i .i64 y.kind,.i .i64 y.width,.i .i64 y.i,.i .i64 y.j,.s y.name,.sl 1 (ints y.cols),.sl 7 (plans y.kids)]] = true:=by rfl
   have hka : plans (ks.take (k + 1)) = plans (ks.take k) ++ [[.i .i64 y.kind,.i .i64 y.width,.i .i64 y.i,.i .i64 y.j,.s y.name,.sl 1 (ints y.cols),.sl 7 (plans y.kids)]]:=by
    rw [List.take_add_one,hkx,plans_app];rfl
   have u2':=fun l=>app_get l u2
   rcases hv with ⟨rfl,rfl⟩ | ⟨K,hK2,hkp,rfl,hK⟩
   ·repeat (first | refine nav ?_ | refine bo ?_)
    (refine wr fun K R hK hR=>?_;simp only [go_sem,h23,plans_get hx];(try go_ints);(try simp only [go_sem,h23,plans_get hx]);(repeat refine And.intro side ?_);(first|refine hK _ ?_|refine hR _ _ ?_);clear hK hR K R)
    repeat (first | refine nav ?_ | refine bo ?_)
    (refine W_dreg (by decide +kernel) [1000000] [0,1,2,3,4,5,6,7] [[],[0],[],[2],[2,3],[3,2,4,0,1],[5,4,3,2,1,0],[0,1,2,3,4,5,6]] (by decide +kernel) rfl fun K R hK hR=>?_;simp only [List.filterMap_cons,List.filterMap_nil,List.getElem?_cons_zero,List.getElem?_cons_succ,List.cons_append,List.nil_append];simp only [go_sem,u2'];(try go_ints);(try simp only [go_sem,u2']);(repeat refine And.intro side ?_);(first|refine hK _ ?_|refine hR _ _ ?_);clear hK hR K R)
    refine D_callD (hbx) rfl rfl rfl (by first | (simp only [go_sem]<;>first | exact LeA.refl _ | exact Le.refl _) | exact LeA.refl _) rfl rfl rfl rfl ?_
    (refine D_reg fun K R hK hR=>?_;simp only [go_sem,u2',hro];(try go_ints);(try simp only [go_sem,u2',hro]);(repeat refine And.intro side ?_);(first|refine hK _ ?_|refine hR _ _ ?_);clear hK hR K R)
    repeat (first | refine nav ?_ | refine bo ?_)
    (refine wr fun K R hK hR=>?_;simp only [go_sem,h23];(try go_ints);(try simp only [go_sem,h23]);(repeat refine And.intro side ?_);(first|refine hK _ ?_|refine hR _ _ ?_);clear hK hR K R)
    refine forQ_normal (p.kids.length - (0 + 1)) (by omega) ⟨0 + 1,.ref (o.length + 2) 0 1,okO_set' (okO_app hok rfl) (by simp [Ob.ltk,AV.ltk]),?_,?_,?_,by simp only [go_sem]<;>rfl,.inr ⟨o.length + 2,by omega,by omega,rfl,?_⟩,rfl,hb1⟩
    ·rw [List.getElem?_set_ne (by decide)];exact app_get _ u0
    ·rw [List.getElem?_set_ne (by decide)];exact app_get _ u1
    ·rw [List.getElem?_set_self (by simp)]
    ·rw [List.getElem?_set_ne (by omega),app_len2,hka];rfl
   ·have hKl:=(List.getElem?_eq_some_iff.1 hK).1
    obtain ⟨acc,hacc⟩ : ∃ acc,acc = ks.take k:=⟨_,rfl⟩
    have hal : acc.length = k:=by rw [hacc,List.length_take];omega
    have hat : List.take k (plans acc) = plans acc:=List.take_of_length_le (by rw [plans_len];omega)
    have hpa : ((plans acc).all fun r=>r.all fun c=>!c.isOwn && c.plain) = true:=by
     rw [List.all_eq_true]
     intro r hr
     unfold plans at hr
     obtain ⟨q,hq,rfl⟩:=List.mem_map.1 hr
     rw [q.cells_eq];rfl
    rw [← hacc] at hK hka
    have hK':=fun l=>app_get l hK
    have hpa':=hpa
    simp only [go_sem] at hpa'
    have u2s : ∀ (l : List Ob) (X : Ob) (l' : List Ob),((o ++ l).set K X ++ l')[2]? = some (.cells 7 [[AV.i .i64 p.kind,.i .i64 p.width,.i .i64 p.i,.i .i64 p.j,.s p.name,.sl 1 (ints p.cols),.ref K 0 k]]):=fun l X l'=>app_get _ (by rw [List.getElem?_set_ne (by omega)];exact app_get _ u2)
    repeat (first | refine nav ?_ | refine bo ?_)
    (refine wr fun K R hK hR=>?_;simp only [go_sem,h23,plans_get hx];(try go_ints);(try simp only [go_sem,h23,plans_get hx]);(repeat refine And.intro side ?_);(first|refine hK _ ?_|refine hR _ _ ?_);clear hK hR K R)
    repeat (first | refine nav ?_ | refine bo ?_)
    (refine W_dreg (by decide +kernel) [1000000] [0,1,2,3,4,5,6,7] [[],[0],[],[2],[2,3],[3,2,4,0,1],[5,4,3,2,1,0],[0,1,2,3,4,5,6]] (by decide +kernel) rfl fun K R hK hR=>?_;simp only [List.filterMap_cons,List.filterMap_nil,List.getElem?_cons_zero,List.getElem?_cons_succ,List.cons_append,List.nil_append];simp only [go_sem,u2'];(try go_ints);(try simp only [go_sem,u2']);(repeat refine And.intro side ?_);(first|refine hK _ ?_|refine hR _ _ ?_);clear hK hR K R)
    refine D_callD (hbx) rfl rfl rfl (by first | (simp only [go_sem]<;>first | exact LeA.refl _ | exact Le.refl _) | exact LeA.refl _) rfl rfl rfl rfl ?_
    (refine D_reg fun K R hK hR=>?_;simp only [go_sem,u2',u2s,hro,hK',plans_len,hat,hpa',hal];(try go_ints);(try simp only [go_sem,u2',u2s,hro,hK',plans_len,hat,hpa',hal]);(repeat refine And.intro side ?_);(first|refine hK _ ?_|refine hR _ _ ?_);clear hK hR K R)
    repeat (first | refine nav ?_ | refine bo ?_)
    (refine wr fun K R hK hR=>?_;simp only [go_sem,h23];(try go_ints);(try simp only [go_sem,h23]);(repeat refine And.intro side ?_);(first|refine hK _ ?_|refine hR _ _ ?_);clear hK hR K R)
    have hlen2 : ((o ++ [Ob.cells 7 [[AV.i .i64 x.kind,.i .i64 x.width,.i .i64 x.i,.i .i64 x.j,.s x.name,.sl 1 (ints x.cols),.sl 7 (plans x.kids)]],Ob.cells 7 [[AV.i .i64 y.kind,.i .i64 y.width,.i .i64 y.i,.i .i64 y.j,.s y.name,.sl 1 (ints y.cols),.sl 7 (plans y.kids)]]]).set K Ob.dead).length = o.length + 2:=by simp
    refine forQ_normal (p.kids.length - (k + 1)) (by omega) ⟨k + 1,.ref (o.length + 2) 0 (k + 1),okO_set' (okO_app (okO_set' (okO_app hok rfl) rfl) ?_) (by simp [Ob.ltk,AV.ltk]),?_,?_,?_,by simp only [go_sem]<;>rfl,.inr ⟨o.length + 2,by omega,by omega,rfl,?_⟩,rfl,hb1⟩
    ·rw [← hka];simp only [List.all_cons,List.all_nil,Bool.and_true];exact plans_ltk _ _
    ·rw [List.getElem?_set_ne (by decide)];exact app_get _ (by rw [List.getElem?_set_ne (by omega)];exact app_get _ u0)
    ·rw [List.getElem?_set_ne (by decide)];exact app_get _ (by rw [List.getElem?_set_ne (by omega)];exact app_get _ u1)
    ·rw [List.getElem?_set_self (by simp)]
    ·rw [List.getElem?_set_ne (by omega),List.getElem?_append_right (by omega),hlen2,Nat.sub_self,hka];rfl
  ·have hke : k = p.kids.length:=by have : ¬ k < p.kids.length:=(by simpa using hb);omega
   have fin : ∀ (r : AV) (t' : Nat → AV) (o' : List Ob) (c : List AV),o'[1]? = some (.cells 7 [c]) → c.length = 7 → t' 2 = .ptr 1 0 0 → Le (.agg (c.map AV.dat)) (.agg (betterF p).cells) → endQ Tryz.prog [ResultVar.cell 2 25] ([] : List Ob).length (fun r' o'=>r' = .agg (betterF p).cells ∧ o' = []) Exit.ret ⟨t',o'⟩:=by
    intro r t' o' c e1 e2 e3 e4
    match c,e2 with
    | [c0,c1,c2,c3,c4,c5,c6],_ =>
     refine endQ_data (by simp only [go_sem,e1,e3]<;>exact rfl) ?_ (by rw [PlanD.cells_eq];rfl)
     simpa [AV.dat] using e4
   rcases hv with ⟨rfl,rfl⟩ | ⟨K,hK2,hkp,rfl,hK⟩
   ·have hk00 : p.kids = []:=List.length_eq_zero_iff.1 hke.symm
    have hks0 : ks = []:=by rw [hks,hk00];rfl
    have u1l:=(List.getElem?_eq_some_iff.1 u1).1
    have hcl2 : p.kind = 0 ∨ p.kind = 1:=by
     cases node_of h0 with
     | rel e hk=>exact .inl e
     | all e hk=>exact .inr e
     | pick a e hk=>rw [hk00] at hk;cases hk
     | join a b e hk=>rw [hk00] at hk;cases hk
     | project a e hk=>rw [hk00] at hk;cases hk
     | two a b e hk=>rw [hk00] at hk;cases hk
    have hbp : betterF p = p:=by
     have hw : p.withKids [] = p:=by rw [← hk00];exact wk_self p
     rw [hbe,hks0,hw]
     unfold topF
     rw [hk00]
     simp only
     rw [if_neg (by omega)]
    repeat (first | refine nav ?_ | refine bo ?_)
    have hg6 : (p.kind == 6) = false:=by rcases hcl2 with e | e<;>rw [e]<;>rfl
    have hg5 : (p.kind == 5) = false:=by rcases hcl2 with e | e<;>rw [e]<;>rfl
    (refine W_dreg (by decide +kernel) [] [0,1,2,3,4,5,6,7,8,9,10,11,12,13,14] [[],[0],[0,1],[1,0,2],[2,0,1,3],[3,1,0,2,4],[4,2,0,1,3,5],[5,3,1,0,2,4,6],[2,0,1,3],[3,1,0,2,8],[8,2,0,1,3,9],[9,3,1,0,2,8,10],[10,8,9,11,6,4,2,0,1,3,5,7],[7,5,4,6,11,9,8,10,12,2,0,1,3],[3,1,0,2,12,10,8,9,11,6,4,5,7,13]] (by decide +kernel) rfl fun K R hK hR=>?_;simp only [List.filterMap_cons,List.filterMap_nil,List.getElem?_cons_zero,List.getElem?_cons_succ,List.cons_append,List.nil_append];simp only [go_sem,u0,u2,hg6];(try go_ints);(try simp only [go_sem,u0,u2,hg6]);(repeat refine And.intro side ?_);(first|refine hK _ ?_|refine hR _ _ ?_);clear hK hR K R)
    refine D_skip rfl rfl (by simp only [go_sem]<;>exact rfl) rfl rfl rfl ?_
    (refine D_reg fun K R hK hR=>?_;simp only [go_sem];(try go_ints);(repeat refine And.intro side ?_);(first|refine hK _ ?_|refine hR _ _ ?_);clear hK hR K R)
    repeat (first | refine nav ?_ | refine bo ?_)
    refine W_cond (b:=false) (by simp only [go_sem]) (fun hb=>by cases hb) (fun _=>?_)
    repeat (first | refine nav ?_ | refine bo ?_)
    (refine wr fun K R hK hR=>?_;simp only [go_sem,u0,hg5];(try go_ints);(try simp only [go_sem,u0,hg5]);(repeat refine And.intro side ?_);(first|refine hK _ ?_|refine hR _ _ ?_);clear hK hR K R)
    repeat (first | refine nav ?_ | refine bo ?_)
    refine W_cond (b:=false) (by simp only [go_sem]) (fun hb=>by cases hb) (fun _=>?_)
    repeat (first | refine nav ?_ | refine bo ?_)
    (refine wr fun K R hK hR=>?_;simp only [go_sem,u2,u1];(try go_ints);(try simp only [go_sem,u2,u1]);(repeat refine And.intro side ?_);(first|refine hK _ ?_|refine hR _ _ ?_);clear hK hR K R)
    repeat (first | refine nav ?_ | refine bo ?_)
    refine fin .any _ _ [.i .i64 p.kind,.i .i64 p.width,.i .i64 p.i,.i .i64 p.j,.s p.name,.sl 1 (ints p.cols),.own 7 []] (by show (o.set 1 _)[1]? = _;rw [List.getElem?_set_self u1l]) rfl (by simp only [go_sem]) ?_
    rw [hbp,p.cells_eq,hk00]
    exact Le.refl _
   ·rw [List.take_of_length_le (by omega)] at hK
    repeat (first | refine nav ?_ | refine bo ?_)
    refine W_frz K hok hK (plans_plain _) fun o3 v1 v2 v3 v4=>?_
    rw [plans_dat] at v3 v4 ⊢
    have w0:=v3 0 _ (by omega) u0
    have w1:=v3 1 _ (by omega) u1
    have w2:=v3 2 _ (by omega) u2
    have hkl3 : (plans ks).length = k:=by rw [plans_len];omega
    have htk : List.take k (plans ks) = plans ks:=List.take_of_length_le (by omega)
    simp only [Ob.unref,AV.unref,List.map_cons,List.map_nil,hkl3,Nat.zero_add,Nat.le_refl,and_self,↓reduceIte,List.drop_zero,htk] at w0 w1 w2
    refine W_tab [(1,.ptr 0 0 0),(2,.ptr 1 0 0),(3,.ptr 2 0 0)] (fun y hy=>?_) ?_
    ·simp only [List.mem_cons,List.not_mem_nil,or_false] at hy
     rcases hy with rfl | rfl | rfl
     all_goals (simp only [go_sem,AV.unref]<;>exact Le.refl _)
    clear v3 v4 h23 hK u0 u1 u2
    have w1l:=(List.getElem?_eq_some_iff.1 w1).1
    have f1 : ∀ {a : PlanD},ks = [a] → (plans ks).length = 1 ∧ (plans ks).getD 0 [] = [.i .i64 a.kind,.i .i64 a.width,.i .i64 a.i,.i .i64 a.j,.s a.name,.sl 1 (ints a.cols),.sl 7 (plans a.kids)]:=fun {a} e=>by
     rw [e];exact ⟨rfl,by simp [plans,PlanD.cells_eq]⟩
    have f2 : ∀ {a b : PlanD},ks = [a,b] → (plans ks).length = 2 ∧ (plans ks).getD 0 [] = [.i .i64 a.kind,.i .i64 a.width,.i .i64 a.i,.i .i64 a.j,.s a.name,.sl 1 (ints a.cols),.sl 7 (plans a.kids)] ∧ (plans ks).getD 1 [] = [.i .i64 b.kind,.i .i64 b.width,.i .i64 b.i,.i .i64 b.j,.s b.name,.sl 1 (ints b.cols),.sl 7 (plans b.kids)]:=fun {a b} e=>by
     rw [e];exact ⟨rfl,by simp [plans,PlanD.cells_eq],by simp [plans,PlanD.cells_eq]⟩
    by_cases h6 : p.kind = 6
    ·obtain ⟨a,b,hkk,ha,hbk⟩ : ∃ a b,ks = [a,b] ∧ a.Sm ∧ b.Sm:=by
      cases node_of h0 with
      | two x y e hk=>exact ⟨betterF x,betterF y,by rw [hks,hk];rfl,hksm x (by rw [hk];simp),hksm y (by rw [hk];simp)⟩
      | rel e hk=>omega
      | all e hk=>omega
      | pick a e hk=>omega
      | join a b e hk=>omega
      | project a e hk=>omega
     obtain ⟨g1,g2,g3⟩:=f2 hkk
     have hs:=same_spec a ha b hbk
     rw [a.cells_eq,b.cells_eq] at hs
     (refine W_dreg (by decide +kernel) [] [0,1,2,3,4,5,6,7,8,9,10,11,12,13,14] [[],[0],[0,1],[1,0,2],[2,0,1,3],[3,1,0,2,4],[4,2,0,1,3,5],[5,3,1,0,2,4,6],[2,0,1,3],[3,1,0,2,8],[8,2,0,1,3,9],[9,3,1,0,2,8,10],[10,8,9,11,6,4,2,0,1,3,5,7],[7,5,4,6,11,9,8,10,12,2,0,1,3],[3,1,0,2,12,10,8,9,11,6,4,5,7,13]] (by decide +kernel) rfl fun K R hK hR=>?_;simp only [List.filterMap_cons,List.filterMap_nil,List.getElem?_cons_zero,List.getElem?_cons_succ,List.cons_append,List.nil_append];simp only [go_sem,w0,w2,h6,g1,g2,g3];(try go_ints);(try simp only [go_sem,w0,w2,h6,g1,g2,g3]);(repeat refine And.intro side ?_);(first|refine hK _ ?_|refine hR _ _ ?_);clear hK hR K R)
     refine D_callDg rfl (by simp only [go_sem]<;>exact rfl) (fun e=>hs) rfl rfl rfl (fun e=>by (try simp only [go_sem] at e);simp only [go_sem,e]<;>(try simp only [go_sem])<;>first | exact LeA.refl _ | exact Le.refl _) rfl rfl rfl rfl ?_
     (refine D_reg fun K R hK hR=>?_;simp only [go_sem];(try go_ints);(repeat refine And.intro side ?_);(first|refine hK _ ?_|refine hR _ _ ?_);clear hK hR K R)
     repeat (first | refine nav ?_ | refine bo ?_)
     refine W_cond (b:=sameF a b) (by simp only [go_sem]) (fun hd=>?_) (fun hd=>?_)
     ·have hbp : betterF p = a:=by
       rw [hbe];unfold topF;rw [wk_kids,hkk];simp only;rw [if_pos ⟨h6,hd⟩]
      repeat (first | refine nav ?_ | refine bo ?_)
      (refine wr fun K R hK hR=>?_;simp only [go_sem,w2,w1,g1,g2];(try go_ints);(try simp only [go_sem,w2,w1,g1,g2]);(repeat refine And.intro side ?_);(first|refine hK _ ?_|refine hR _ _ ?_);clear hK hR K R)
      repeat (first | refine nav ?_ | refine bo ?_)
      refine fin .any _ _ [.i .i64 a.kind,.i .i64 a.width,.i .i64 a.i,.i .i64 a.j,.s a.name,.sl 1 (ints a.cols),.sl 7 (plans a.kids)] (by show (o3.set 1 _)[1]? = _;rw [List.getElem?_set_self w1l]) rfl (by simp only [go_sem]) ?_
      rw [hbp,a.cells_eq];exact Le.refl _
     ·have hbp : betterF p = p.withKids ks:=by
       rw [hbe];unfold topF;rw [wk_kids,hkk];simp only;rw [if_neg (fun h=>by rw [hd] at h;cases h.2),if_neg (by rw [wk_kind];omega)]
      repeat (first | refine nav ?_ | refine bo ?_)
      (refine wr fun K R hK hR=>?_;simp only [go_sem,w0,h6];(try go_ints);(try simp only [go_sem,w0,h6]);(repeat refine And.intro side ?_);(first|refine hK _ ?_|refine hR _ _ ?_);clear hK hR K R)
      repeat (first | refine nav ?_ | refine bo ?_)
      refine W_cond (b:=false) (by simp only [go_sem]<;>rfl) (fun hb=>by cases hb) (fun _=>?_)
      repeat (first | refine nav ?_ | refine bo ?_)
      (refine wr fun K R hK hR=>?_;simp only [go_sem,w2,w1];(try go_ints);(try simp only [go_sem,w2,w1]);(repeat refine And.intro side ?_);(first|refine hK _ ?_|refine hR _ _ ?_);clear hK hR K R)
      repeat (first | refine nav ?_ | refine bo ?_)
      refine fin .any _ _ [.i .i64 p.kind,.i .i64 p.width,.i .i64 p.i,.i .i64 p.j,.s p.name,.sl 1 (ints p.cols),.sl 7 (plans ks)] (by show (o3.set 1 _)[1]? = _;rw [List.getElem?_set_self w1l,h6]) rfl (by simp only [go_sem]) ?_
      rw [hbp,PlanD.cells_eq];exact Le.refl _
    ·have hg6 : (p.kind == 6) = false:=by simpa using h6
     (refine W_dreg (by decide +kernel) [] [0,1,2,3,4,5,6,7,8,9,10,11,12,13,14] [[],[0],[0,1],[1,0,2],[2,0,1,3],[3,1,0,2,4],[4,2,0,1,3,5],[5,3,1,0,2,4,6],[2,0,1,3],[3,1,0,2,8],[8,2,0,1,3,9],[9,3,1,0,2,8,10],[10,8,9,11,6,4,2,0,1,3,5,7],[7,5,4,6,11,9,8,10,12,2,0,1,3],[3,1,0,2,12,10,8,9,11,6,4,5,7,13]] (by decide +kernel) rfl fun K R hK hR=>?_;simp only [List.filterMap_cons,List.filterMap_nil,List.getElem?_cons_zero,List.getElem?_cons_succ,List.cons_append,List.nil_append];simp only [go_sem,w0,w2,hg6];(try go_ints);(try simp only [go_sem,w0,w2,hg6]);(repeat refine And.intro side ?_);(first|refine hK _ ?_|refine hR _ _ ?_);clear hK hR K R)
     refine D_skip rfl rfl (by simp only [go_sem]<;>exact rfl) rfl rfl rfl ?_
     (refine D_reg fun K R hK hR=>?_;simp only [go_sem];(try go_ints);(repeat refine And.intro side ?_);(first|refine hK _ ?_|refine hR _ _ ?_);clear hK hR K R)
     repeat (first | refine nav ?_ | refine bo ?_)
     refine W_cond (b:=false) (by simp only [go_sem]) (fun hb=>by cases hb) (fun _=>?_)
     by_cases h5 : p.kind = 5
     ·obtain ⟨a,hkk,ha⟩ : ∃ a,ks = [a] ∧ ∃ x,p.kids = [x] ∧ a = betterF x:=by
       cases node_of h0 with
       | project x e hk=>exact ⟨betterF x,by rw [hks,hk];rfl,x,hk,rfl⟩
       | rel e hk=>omega
       | all e hk=>omega
       | pick a e hk=>omega
       | join a b e hk=>omega
       | two a b e hk=>omega
      have hbp : betterF p = projectedF (p.withKids ks):=by
       rw [hbe];unfold topF;rw [wk_kids,hkk];simp only;rw [if_pos (by rw [wk_kind];exact h5)]
      have hbd:=(better_spec0 p h0).1
      have hw0 : 0 ≤ widthR (p.withKids ks):=by
       rw [width_with h0]
       ·exact h0
       ·rw [hks,List.map_map]
        exact List.map_congr_left fun q hq=>(better_spec0 q (width_kid h0 q hq)).1.width
      have hsmo : (p.withKids ks).Sm:=by
       refine ⟨_,hp.name,hp.cols,?_,fun q hq=>?_⟩
       ·rw [wk_kids,hkl];exact hp.len
       ·rw [wk_kids,hks] at hq
        obtain ⟨x,hx,rfl⟩:=List.mem_map.1 hq
        exact hksm x hx
      have hpj:=projected_spec (p.withKids ks) a h5 hkk hw0 hsmo
      rw [← hbp,(betterF p).cells_eq,(p.withKids ks).cells_eq] at hpj
      repeat (first | refine nav ?_ | refine bo ?_)
      (refine wr fun K R hK hR=>?_;simp only [go_sem,w0,h5];(try go_ints);(try simp only [go_sem,w0,h5]);(repeat refine And.intro side ?_);(first|refine hK _ ?_|refine hR _ _ ?_);clear hK hR K R)
      repeat (first | refine nav ?_ | refine bo ?_)
      refine W_cond (b:=true) (by simp only [go_sem]<;>rfl) (fun _=>?_) (fun hb=>by cases hb)
      repeat (first | refine nav ?_ | refine bo ?_)
      (refine wr fun K R hK hR=>?_;simp only [go_sem,w2];(try go_ints);(try simp only [go_sem,w2]);(repeat refine And.intro side ?_);(first|refine hK _ ?_|refine hR _ _ ?_);clear hK hR K R)
      refine RL_callF (hpj) rfl rfl rfl (by first | (simp only [go_sem]<;>first | exact LeA.refl _ | exact Le.refl _) | exact LeA.refl _) rfl rfl ?_
      (refine rr fun K R hK hR=>?_;simp only [go_sem,w1];(try go_ints);(try simp only [go_sem,w1]);(repeat refine And.intro side ?_);(first|refine hK _ ?_|refine hR _ _ ?_);clear hK hR K R)
      repeat (first | refine nav ?_ | refine bo ?_)
      refine fin .any _ _ [.i .i64 (betterF p).kind,.i .i64 (betterF p).width,.i .i64 (betterF p).i,.i .i64 (betterF p).j,.s (betterF p).name,.sl 1 (ints (betterF p).cols),.sl 7 (plans (betterF p).kids)] (by show (o3.set 1 _)[1]? = _;rw [List.getElem?_set_self w1l]) rfl (by simp only [go_sem]) ?_
      rw [(betterF p).cells_eq];exact Le.refl _
     ·have hg5 : (p.kind == 5) = false:=by simpa using h5
      have hbp : betterF p = p.withKids ks:=by
       rw [hbe];unfold topF
       split
       ·rw [if_neg (fun h=>h6 h.1),if_neg (by rw [wk_kind];exact h5)]
       ·rw [if_neg (by rw [wk_kind];exact h5)]
      repeat (first | refine nav ?_ | refine bo ?_)
      (refine wr fun K R hK hR=>?_;simp only [go_sem,w0,hg5];(try go_ints);(try simp only [go_sem,w0,hg5]);(repeat refine And.intro side ?_);(first|refine hK _ ?_|refine hR _ _ ?_);clear hK hR K R)
      repeat (first | refine nav ?_ | refine bo ?_)
      refine W_cond (b:=false) (by simp only [go_sem]<;>rfl) (fun hb=>by cases hb) (fun _=>?_)
      repeat (first | refine nav ?_ | refine bo ?_)
      (refine wr fun K R hK hR=>?_;simp only [go_sem,w2,w1];(try go_ints);(try simp only [go_sem,w2,w1]);(repeat refine And.intro side ?_);(first|refine hK _ ?_|refine hR _ _ ?_);clear hK hR K R)
      repeat (first | refine nav ?_ | refine bo ?_)
      refine fin .any _ _ [.i .i64 p.kind,.i .i64 p.width,.i .i64 p.i,.i .i64 p.j,.s p.name,.sl 1 (ints p.cols),.sl 7 (plans ks)] (by show (o3.set 1 _)[1]? = _;rw [List.getElem?_set_self w1l]) rfl (by simp only [go_sem]) ?_
      rw [hbp,PlanD.cells_eq];exact Le.refl _
def zeroP : PlanD:=.mk 0 0 0 0 ByteArray.empty [] []
theorem pbetter_spec (p : PlanD) (hp : p.Sm) : ACallsD Tryz.prog 11 [.agg p.cells] (.tup [.agg (if validR p = true then betterF p else zeroP).cells,.i .i64 (if validR p = true then 0 else 1)]):=by
 have hv:=pvalid_spec p hp
 rw [walk_valid] at hv
 have hb:=fun h=>better_spec p hp h
 rw [p.cells_eq] at hv ⊢
 simp only [p.cells_eq] at hb
 refine ACalls_of' (n:=10) (rs:=[.cell 2 25,.tmp 3]) (show Tryz.prog.funcs[11]? = some Tryz.f11 by kernel_rfl) rfl rfl rfl (by simp) (by decide +kernel) ?_
 repeat (first | refine nav ?_ | refine bo ?_)
 (refine wr fun K R hK hR=>?_;simp only [go_sem];(try go_ints);(repeat refine And.intro side ?_);(first|refine hK _ ?_|refine hR _ _ ?_);clear hK hR K R)
 repeat (first | refine nav ?_ | refine bo ?_)
 (refine wr fun K R hK hR=>?_;simp only [go_sem];(try go_ints);(repeat refine And.intro side ?_);(first|refine hK _ ?_|refine hR _ _ ?_);clear hK hR K R)
 refine RL_callF (hv) rfl rfl rfl (by first | (simp only [go_sem]<;>first | exact LeA.refl _ | exact Le.refl _) | exact LeA.refl _) rfl rfl ?_
 (refine rr fun K R hK hR=>?_;simp only [go_sem];(try go_ints);(repeat refine And.intro side ?_);(first|refine hK _ ?_|refine hR _ _ ?_);clear hK hR K R)
 repeat (first | refine nav ?_ | refine bo ?_)
 refine W_cond (b:=!validR p) (by simp only [go_sem]) (fun hd=>?_) (fun hd=>?_)
 ·have hv0 : validR p = false:=by simpa using hd
  rw [hv0]
  repeat (first | refine nav ?_ | refine bo ?_)
  (refine wr fun K R hK hR=>?_;simp only [go_sem];(try go_ints);(repeat refine And.intro side ?_);(first|refine hK _ ?_|refine hR _ _ ?_);clear hK hR K R)
  repeat (first | refine nav ?_ | refine bo ?_)
  refine endQ_data (by simp only [go_sem]<;>exact rfl) (Le.of_eq ?_) rfl
  rfl
 ·have hv0 : validR p = true:=by simpa using hd
  have h0 : 0 ≤ widthR p:=by unfold validR at hv0;simp at hv0;omega
  replace hb:=hb h0
  rw [(betterF p).cells_eq] at hb
  rw [hv0]
  repeat (first | refine nav ?_ | refine bo ?_)
  (refine wr fun K R hK hR=>?_;simp only [go_sem];(try go_ints);(repeat refine And.intro side ?_);(first|refine hK _ ?_|refine hR _ _ ?_);clear hK hR K R)
  refine RL_callF (hb) rfl rfl rfl (by first | (simp only [go_sem]<;>first | exact LeA.refl _ | exact Le.refl _) | exact LeA.refl _) rfl rfl ?_
  (refine rr fun K R hK hR=>?_;simp only [go_sem];(try go_ints);(repeat refine And.intro side ?_);(first|refine hK _ ?_|refine hR _ _ ?_);clear hK hR K R)
  repeat (first | refine nav ?_ | refine bo ?_)
  refine endQ_data (by simp only [go_sem]<;>exact rfl) (Le.of_eq ?_) (by simp only [if_true];rw [PlanD.cells_eq];rfl)
  simp only [if_true]
  rw [(betterF p).cells_eq]
end Go.AW
namespace Go.AW
open Go Go.Proofs TyTryz Go.IntWalk
set_option linter.unusedSimpArgs false
set_option linter.unusedVariables false
set_option maxRecDepth 10000
set_option maxHeartbeats 4000000
theorem oneW_sub {l r : Names} (h : ∀ x ∈ r,x ∈ l) (hl : oneW l = true) : oneW r = true:=by
 rw [oneW_iff] at hl ⊢
 have key : ∀ x ∈ l,∀ y ∈ l,x.1 = y.1 → x.2 = y.2:=by
  intro x hx y hy e
  obtain ⟨i,hi⟩:=List.getElem?_of_mem hx
  obtain ⟨j,hj⟩:=List.getElem?_of_mem hy
  obtain ⟨hi1,rfl⟩:=List.getElem?_eq_some_iff.1 hi
  obtain ⟨hj1,rfl⟩:=List.getElem?_eq_some_iff.1 hj
  have hp:=List.pairwise_iff_getElem.1 hl
  rcases Nat.lt_trichotomy i j with h | rfl | h
  ·exact hp i j hi1 hj1 h e
  ·rfl
  ·exact (hp j i hj1 hi1 h e.symm).symm
 rw [List.pairwise_iff_getElem]
 intro i j hi hj _ e
 exact key _ (h _ (List.getElem_mem hi)) _ (h _ (List.getElem_mem hj)) e
theorem valid_better {p : PlanD} (h : validR p = true) : validR (betterF p) = true:=by
 have h0 : 0 ≤ widthR p:=by unfold validR at h;simp at h;omega
 obtain ⟨b,_⟩:=better_spec0 p h0
 unfold validR at h ⊢
 simp only [Bool.and_eq_true,decide_eq_true_eq] at h ⊢
 have:=b.cnt
 have:=b.deep
 have:=b.width
 exact ⟨⟨⟨by omega,by omega⟩,by omega⟩,oneW_sub b.syms h.2⟩
theorem fewer_better {p : PlanD} (h0 : 0 ≤ widthR p) : fewerF (symsF (betterF p)) (symsF p) = true:=by
 obtain ⟨b,_⟩:=better_spec0 p h0
 unfold fewerF
 rw [List.all_eq_true]
 intro x hx
 rw [List.any_eq_true]
 exact ⟨x,b.syms x hx,by simp⟩
theorem check_better {p : PlanD} {s : StrD} (h : checkF p s = 0) : checkF (betterF p) s = 0 ∧ valF s (betterF p) = valF s p:=by
 have hok:=(okRun_iff p s).2 h
 obtain ⟨n,hf⟩:=okRun_fine hok
 simp only [okRun,Bool.and_eq_true,Bool.not_eq_true'] at hok
 obtain ⟨⟨⟨h1,h2⟩,h3⟩,h4⟩:=hok
 obtain ⟨b,_⟩:=better_spec0 p hf.w0
 refine ⟨(okRun_iff _ s).1 ?_,b.val s n hf.size hf.n1 hf.rel hf.named⟩
 unfold okRun
 rw [valid_better h1,h2]
 have h5 : fitsF (symsF (betterF p)) s = true:=by
  unfold fitsF at h3 ⊢
  rw [List.all_eq_true] at h3 ⊢
  exact fun x hx=>h3 x (b.syms x hx)
 have h6 : largeB s.size.toNat (betterF p) = false:=by
  unfold largeB at h4 ⊢
  rw [decide_eq_false_iff_not] at h4 ⊢
  have hw:=b.widest
  have:=Nat.pow_le_pow_right (show s.size.toNat > 0 by have:=hf.size;have:=hf.n1;omega) (show (widestF (betterF p)).toNat ≤ (widestF p).toNat by omega)
  omega
 rw [h5,h6];rfl
theorem zeroP_le : Le (.agg [.i .i64 0,.i .i64 0,.i .i64 0,.i .i64 0,.s ByteArray.empty,.nsl,.nsl]) (.agg [.i .i64 zeroP.kind,.i .i64 zeroP.width,.i .i64 zeroP.i,.i .i64 zeroP.j,.s zeroP.name,.sl 1 (ints zeroP.cols),.sl 7 (plans zeroP.kids)]) :=
 Le.agg (LeL.cons (fun _ _ _ _ h=>h) (LeL.cons (fun _ _ _ _ h=>h) (LeL.cons (fun _ _ _ _ h=>h) (LeL.cons (fun _ _ _ _ h=>h) (LeL.cons (fun _ _ _ _ h=>h) (LeL.cons (fun w Y m v h=>(Le.nsl 1).v w Y m v h) (LeL.cons (fun w Y m v h=>(Le.nsl 7).v w Y m v h) LeL.nil)))))))
theorem planBetter_spec (p : PlanD) (hp : p.Ok) (s : StrD) (hs : s.Wide) : ACallsD Tryz.prog 4 [.agg p.cells,.agg s.cells] (.b true):=by
 have hck:=cheap_spec p hp s hs 800
 have hsm:=sm_of_weigh (most:=300) (by decide) p 0
 have hcnt:=weighF_cnt p 0 300
 have hal:=alive_spec
 have hcx:=p.cells_eq
 rw [hcx,show ((800 : Nat) : Int) = 800 from rfl] at hck
 have tl:=tups_len'
 have hbs:=fun h=>pbetter_spec p h
 have hrv:=rvalid_spec p hp
 have hrw:=rwidth_spec p hp
 have hct:=count_spec p hp
 have hrs:=fun h=>(rsyms_spec p hp [] .nsl (.inl ⟨rfl,rfl⟩) h).le (Le.dat _ _)
 have hchk:=fun h1 h2=>check_spec p hp h1 s h2
 have hrr:=fun h1 h2 h3=>rRun_spec (s:=s) h1 hp h2 h3
 simp only [hcx] at hbs hrv hrw hct hrs hchk hrr
 rw [hcx]
 unfold StrD.cells at *
 refine ACalls_of' (n:=97) (rs:=[.tmp 4]) (show Tryz.prog.funcs[4]? = some Tryz.f4 by kernel_rfl) rfl rfl rfl (by simp) (by decide +kernel) ?_
 repeat (first | refine nav ?_ | refine bo ?_)
 (refine wr fun K R hK hR=>?_;simp only [go_sem];(try go_ints);(repeat refine And.intro side ?_);(first|refine hK _ ?_|refine hR _ _ ?_);clear hK hR K R)
 repeat (first | refine nav ?_ | refine bo ?_)
 (refine wr fun K R hK hR=>?_;simp only [go_sem];(try go_ints);(repeat refine And.intro side ?_);(first|refine hK _ ?_|refine hR _ _ ?_);clear hK hR K R)
 refine RL_callF (hck) rfl rfl rfl (by first | (simp only [go_sem]<;>first | exact LeA.refl _ | exact Le.refl _) | exact LeA.refl _) rfl rfl ?_
 (refine rr fun K R hK hR=>?_;simp only [go_sem];(try go_ints);(repeat refine And.intro side ?_);(first|refine hK _ ?_|refine hR _ _ ?_);clear hK hR K R)
 repeat (first | refine nav ?_ | refine bo ?_)
 refine W_cond (b:=!cheapF p s 800) (by simp only [go_sem]) (fun hb=>?_) (fun hb=>?_)
 ·repeat (first | refine nav ?_ | refine bo ?_)
  (refine wr fun K R hK hR=>?_;simp only [go_sem];(try go_ints);(repeat refine And.intro side ?_);(first|refine hK _ ?_|refine hR _ _ ?_);clear hK hR K R)
  refine RL_callF (hal) rfl rfl rfl (by first | (simp only [go_sem]<;>first | exact LeA.refl _ | exact Le.refl _) | exact LeA.refl _) rfl rfl ?_
  (refine rr fun K R hK hR=>?_;simp only [go_sem];(try go_ints);(repeat refine And.intro side ?_);(first|refine hK _ ?_|refine hR _ _ ?_);clear hK hR K R)
  repeat (first | refine nav ?_ | refine bo ?_)
  refine endQ_data (by simp only [go_sem]<;>exact rfl) (Le.of_eq ?_) rfl
  rfl
 ·obtain ⟨hw,hfw⟩:=cheap_true (by simpa using hb)
  obtain ⟨hso,hs12⟩:=fewS_ok hfw
  have hc:=hcnt hw
  have hpsm:=hsm hw
  replace hbs:=hbs hpsm
  replace hrv:=hrv (by omega)
  replace hrw:=hrw (by omega)
  replace hct:=hct (by omega)
  replace hrs:=hrs (by simp;omega)
  replace hchk:=hchk (by omega) hso
  replace hrr:=hrr hso (by omega)
  obtain ⟨q,hq⟩ : ∃ q,q = if validR p = true then betterF p else zeroP:=⟨_,rfl⟩
  rw [← hq,q.cells_eq] at hbs
  repeat (first | refine nav ?_ | refine bo ?_)
  (refine wr fun K R hK hR=>?_;simp only [go_sem];(try go_ints);(repeat refine And.intro side ?_);(first|refine hK _ ?_|refine hR _ _ ?_);clear hK hR K R)
  refine RL_callF (hbs) rfl rfl rfl (by first | (simp only [go_sem]<;>first | exact LeA.refl _ | exact Le.refl _) | exact LeA.refl _) rfl rfl ?_
  (refine rr fun K R hK hR=>?_;simp only [go_sem];(try go_ints);(repeat refine And.intro side ?_);(first|refine hK _ ?_|refine hR _ _ ?_);clear hK hR K R)
  repeat (first | refine nav ?_ | refine bo ?_)
  (refine wr fun K R hK hR=>?_;simp only [go_sem];(try go_ints);(repeat refine And.intro side ?_);(first|refine hK _ ?_|refine hR _ _ ?_);clear hK hR K R)
  refine RL_callF (hrv) rfl rfl rfl (by first | (simp only [go_sem]<;>first | exact LeA.refl _ | exact Le.refl _) | exact LeA.refl _) rfl rfl ?_
  (refine rr fun K R hK hR=>?_;simp only [go_sem];(try go_ints);(repeat refine And.intro side ?_);(first|refine hK _ ?_|refine hR _ _ ?_);clear hK hR K R)
  repeat (first | refine nav ?_ | refine bo ?_)
  cases hvp : validR p with
  | false =>
   rw [hvp] at hq
   have hqz : q = zeroP:=by rw [hq];rfl
   have hzs : zeroP.Sm:=⟨_,by decide,by decide,by decide,fun k hk=>by cases hk⟩
   have hsame:=rsame_spec zeroP hzs zeroP hzs
   rw [show sameF zeroP zeroP = true from by simp [sameF,zeroP,sameL,PlanD.kids,PlanD.kind,PlanD.width,PlanD.i,PlanD.j,PlanD.name,PlanD.cols]] at hsame
   rw [zeroP.cells_eq] at hsame
   refine W_cond (b:=true) (by simp only [go_sem]<;>rfl) (fun _=>?_) (fun hb=>by cases hb)
   rw [hqz]
   repeat (first | refine nav ?_ | refine bo ?_)
   (refine wr fun K R hK hR=>?_;simp only [go_sem,Bool.false_eq_true,if_false];(try go_ints);(try simp only [go_sem,Bool.false_eq_true,if_false]);(repeat refine And.intro side ?_);(first|refine hK _ ?_|refine hR _ _ ?_);clear hK hR K R)
   refine RL_callDg rfl (by simp only [go_sem]<;>exact rfl) (fun e=>hsame) rfl rfl rfl (fun e=>by (try simp only [go_sem] at e);simp only [go_sem,e];exact zeroP_le) rfl rfl ?_
   (refine rr fun K R hK hR=>?_;simp only [go_sem];(try go_ints);(repeat refine And.intro side ?_);(first|refine hK _ ?_|refine hR _ _ ?_);clear hK hR K R)
   refine RL_callDg rfl (by simp only [go_sem]<;>exact rfl) (fun e=>hal) rfl rfl rfl (fun e=>by (try simp only [go_sem] at e);simp only [go_sem,e]<;>(try simp only [go_sem])<;>first | exact LeA.refl _ | exact Le.refl _) rfl rfl ?_
   (refine rr fun K R hK hR=>?_;simp only [go_sem];(try go_ints);(repeat refine And.intro side ?_);(first|refine hK _ ?_|refine hR _ _ ?_);clear hK hR K R)
   repeat (first | refine nav ?_ | refine bo ?_)
   refine endQ_data (by simp only [go_sem]<;>exact rfl) (Le.of_eq ?_) rfl
   rfl
  | true =>
   rw [hvp,if_pos rfl] at hq
   subst hq
   have h0 : 0 ≤ widthR p:=by unfold validR at hvp;simp at hvp;omega
   obtain ⟨bb,gg⟩:=better_spec0 p h0
   have hqs:=better_sm p hpsm h0
   have hqo:=sm_ok _ hqs
   have hqc:=bb.cnt
   have hqw : 0 ≤ widthR (betterF p):=by rw [bb.width];exact h0
   have hqv:=rvalid_spec (betterF p) hqo (by omega)
   rw [valid_better hvp] at hqv
   have hqrw:=rwidth_spec (betterF p) hqo (by omega)
   rw [bb.width] at hqrw
   have hqg:=rgood_spec (betterF p) hqs hqo (by omega) hqw
   rw [gg] at hqg
   have hqsy:=(rsyms_spec (betterF p) hqo [] .nsl (.inl ⟨rfl,rfl⟩) (by simp;omega)).le (Le.dat _ _)
   have hl1:=symsF_len p
   have hl2:=symsF_len (betterF p)
   have hfe:=fewer_spec (symsF (betterF p)) (symsF p) (by omega) (by omega)
   rw [fewer_better h0] at hfe
   have hqct:=count_spec (betterF p) hqo (by omega)
   have hqws:=widest_spec (betterF p) hqo (by omega)
   have hqrr:=fun h3=>rRun_spec (s:=s) hso hqo (by omega) h3
   unfold StrD.cells at hqrr
   rw [(betterF p).cells_eq] at hqv hqrw hqg hqsy hqct hqws
   simp only [(betterF p).cells_eq] at hqrr
   rw [List.nil_append] at hqsy hrs
   refine W_cond (b:=false) (by simp only [go_sem]<;>rfl) (fun hb=>by cases hb) (fun _=>?_)
   repeat (first | refine nav ?_ | refine bo ?_)
   (refine W_dreg (by decide +kernel) [] [0,1,2,3,4,5,6,7,8,9,10,11,12,13,14,15,16,17,18,19,20,21,22,23,24,25,26] [[],[0],[0,1],[1,0,2],[2,0,1,3],[3,1,0,2,4],[4,3,5,1,0,2],[2,0,1,5,3,4,6],[6,4,3,5,1,0,2,7],[7,2,0,1,5,3,4,6,8],[6,4,3,5,1,0,2,7],[8,9,7,2,0,1,5,3,4,6,10],[10,11,8,6,4,3,5,1,0,2,7,9],[9,8,11,10,12,6,4,3,5,1,0,2,7],[7,2,0,1,5,3,4,6,12,10,11,8,9,13],[13,9,8,11,10,12,6,4,3,5,1,0,2,7,14],[14,7,2,0,1,5,3,4,6,12,10,11,8,9,13,15],[15,13,9,8,11,10,12,6,4,3,5,1,0,2,7,14,16],[16,15,17,13,9,8,11,10,12,6,4,3,5,1,0,2,7,14],[14,7,2,0,1,5,3,4,6,12,10,11,8,9,13,17,15,16,18],[18,16,15,17,13,9,8,11,10,12,6,4,3,5,1,0,2,7,14,19],[19,14,7,2,0,1,5,3,4,6,12,10,11,8,9,13,17,15,16,18,20],[18,16,15,17,13,9,8,11,10,12,6,4,3,5,1,0,2,7,14,19],[20,21,19,14,7,2,0,1,5,3,4,6,12,10,11,8,9,13,17,15,16,18,22],[22,23,20,18,16,15,17,13,9,8,11,10,12,6,4,3,5,1,0,2,7,14,19,21],[21,19,14,7,2,0,1,5,3,4,6,12,10,11,8,9,13,17,15,16,18,20,23,22,24],[24,22,23,20,21,25,18,16,15,17,13,9,8,11,10,12,6,4,3,5,1,0,2,7,14,19]] (by decide +kernel) rfl fun K R hK hR=>?_;simp only [List.filterMap_cons,List.filterMap_nil,List.getElem?_cons_zero,List.getElem?_cons_succ,List.cons_append,List.nil_append];simp only [go_sem,if_true];(try go_ints);(try simp only [go_sem,if_true]);(repeat refine And.intro side ?_);(first|refine hK _ ?_|refine hR _ _ ?_);clear hK hR K R)
   refine D_callDg rfl (by simp only [go_sem]<;>exact rfl) (fun e=>hqv) rfl rfl rfl (fun e=>by (try simp only [go_sem] at e);simp only [go_sem,e]<;>(try simp only [go_sem])<;>first | exact LeA.refl _ | exact Le.refl _) rfl rfl rfl rfl ?_
   (refine D_reg fun K R hK hR=>?_;simp only [go_sem];(try go_ints);(repeat refine And.intro side ?_);(first|refine hK _ ?_|refine hR _ _ ?_);clear hK hR K R)
   refine D_callDg rfl (by simp only [go_sem]<;>exact rfl) (fun e=>hqrw) rfl rfl rfl (fun e=>by (try simp only [go_sem] at e);simp only [go_sem,e]<;>(try simp only [go_sem])<;>first | exact LeA.refl _ | exact Le.refl _) rfl rfl rfl rfl ?_
   (refine D_reg fun K R hK hR=>?_;simp only [go_sem];(try go_ints);(repeat refine And.intro side ?_);(first|refine hK _ ?_|refine hR _ _ ?_);clear hK hR K R)
   refine D_callDg rfl (by simp only [go_sem]<;>exact rfl) (fun e=>hrw) rfl rfl rfl (fun e=>by (try simp only [go_sem] at e);simp only [go_sem,e]<;>(try simp only [go_sem])<;>first | exact LeA.refl _ | exact Le.refl _) rfl rfl rfl rfl ?_
   (refine D_reg fun K R hK hR=>?_;simp only [go_sem];(try go_ints);(repeat refine And.intro side ?_);(first|refine hK _ ?_|refine hR _ _ ?_);clear hK hR K R)
   refine D_callDg rfl (by simp only [go_sem]<;>exact rfl) (fun e=>hqg) rfl rfl rfl (fun e=>by (try simp only [go_sem] at e);simp only [go_sem,e]<;>(try simp only [go_sem])<;>first | exact LeA.refl _ | exact Le.refl _) rfl rfl rfl rfl ?_
   (refine D_reg fun K R hK hR=>?_;simp only [go_sem];(try go_ints);(repeat refine And.intro side ?_);(first|refine hK _ ?_|refine hR _ _ ?_);clear hK hR K R)
   refine D_callDg rfl (by simp only [go_sem]<;>exact rfl) (fun e=>hqsy) rfl rfl rfl (fun e=>by (try simp only [go_sem] at e);simp only [go_sem,e]<;>(try simp only [go_sem])<;>first | exact LeA.refl _ | exact Le.refl _) rfl rfl rfl rfl ?_
   (refine D_reg fun K R hK hR=>?_;simp only [go_sem];(try go_ints);(repeat refine And.intro side ?_);(first|refine hK _ ?_|refine hR _ _ ?_);clear hK hR K R)
   refine D_callDg rfl (by simp only [go_sem]<;>exact rfl) (fun e=>hrs) rfl rfl rfl (fun e=>by (try simp only [go_sem] at e);simp only [go_sem,e]<;>(try simp only [go_sem])<;>first | exact LeA.refl _ | exact Le.refl _) rfl rfl rfl rfl ?_
   (refine D_reg fun K R hK hR=>?_;simp only [go_sem];(try go_ints);(repeat refine And.intro side ?_);(first|refine hK _ ?_|refine hR _ _ ?_);clear hK hR K R)
   refine D_callDg rfl (by simp only [go_sem]<;>exact rfl) (fun e=>hfe) rfl rfl rfl (fun e=>by (try simp only [go_sem] at e);simp only [go_sem,e]<;>(try simp only [go_sem])<;>first | exact LeA.refl _ | exact Le.refl _) rfl rfl rfl rfl ?_
   (refine D_reg fun K R hK hR=>?_;simp only [go_sem];(try go_ints);(repeat refine And.intro side ?_);(first|refine hK _ ?_|refine hR _ _ ?_);clear hK hR K R)
   repeat (first | refine nav ?_ | refine bo ?_)
   refine W_cond (b:=false) (by simp only [go_sem]<;>first | rfl | simp) (fun hb=>by cases hb) (fun _=>?_)
   repeat (first | refine nav ?_ | refine bo ?_)
   (refine wr fun K R hK hR=>?_;simp only [go_sem];(try go_ints);(repeat refine And.intro side ?_);(first|refine hK _ ?_|refine hR _ _ ?_);clear hK hR K R)
   refine RL_callF (hct) rfl rfl rfl (by first | (simp only [go_sem]<;>first | exact LeA.refl _ | exact Le.refl _) | exact LeA.refl _) rfl rfl ?_
   (refine rr fun K R hK hR=>?_;simp only [go_sem];(try go_ints);(repeat refine And.intro side ?_);(first|refine hK _ ?_|refine hR _ _ ?_);clear hK hR K R)
   repeat (first | refine nav ?_ | refine bo ?_)
   (refine wr fun K R hK hR=>?_;simp only [go_sem];(try go_ints);(repeat refine And.intro side ?_);(first|refine hK _ ?_|refine hR _ _ ?_);clear hK hR K R)
   refine RL_callF (hqct) rfl rfl rfl (by first | (simp only [go_sem]<;>first | exact LeA.refl _ | exact Le.refl _) | exact LeA.refl _) rfl rfl ?_
   (refine rr fun K R hK hR=>?_;simp only [go_sem];(try go_ints);(repeat refine And.intro side ?_);(first|refine hK _ ?_|refine hR _ _ ?_);clear hK hR K R)
   repeat (first | refine nav ?_ | refine bo ?_)
   (refine wr fun K R hK hR=>?_;simp only [go_sem];(try go_ints);(repeat refine And.intro side ?_);(first|refine hK _ ?_|refine hR _ _ ?_);clear hK hR K R)
   repeat (first | refine nav ?_ | refine bo ?_)
   refine W_cond (b:=false) (by simp only [go_sem];rw [decide_eq_false (by omega)]) (fun hb=>by cases hb) (fun _=>?_)
   by_cases hce : checkF p s = 0
   ·rw [hce] at hchk
    replace hrr:=hrr hce
    obtain ⟨hcq,hval⟩:=check_better hce
    replace hqrr:=hqrr hcq
    rw [hval] at hqrr
    have hok:=(okRun_iff p s).2 hce
    obtain ⟨n,hf⟩:=okRun_fine hok
    have hwb:=widest_bd (betterF p)
    have hwb1:=widest_bd p
    obtain ⟨w,hw'⟩ : ∃ w : Nat,widestF (betterF p) = w:=⟨(widestF (betterF p)).toNat,by omega⟩
    have hps:=pow_spec n w (by have:=hf.n1;omega) (by have:=hf.n2;omega) (by omega) (by omega)
    rw [← hf.size] at hps
    rw [hw'] at hqws
    have hlen:=hf.len
    have hel : ∀ t ∈ valF s p,t.length ≤ 1000000:=fun t ht=>by
     have:=(hf.tab.el t ht).1
     have:=(widthR_le p).2
     omega
    have hsame:=sameT_spec (valF s p) (valF s p) (by omega) (by omega) hel
    rw [decide_eq_true rfl] at hsame
    repeat (first | refine nav ?_ | refine bo ?_)
    (refine W_dreg (by decide +kernel) [] [0,1,2,3,4,5,6,7,8,9,10,11] [[],[],[1,0],[0,1,2],[2,1,0,3],[3,0,1,2,4],[4,2,1,0,3,5],[3,0,1,2,4],[4,2,1,0,3,7],[7,8,5,3,0,1,2,4,6],[6,4,2,1,0,3,5,8,7,9],[9,7,8,5,6,10,3,0,1,2,4]] (by decide +kernel) rfl fun K R hK hR=>?_;simp only [List.filterMap_cons,List.filterMap_nil,List.getElem?_cons_zero,List.getElem?_cons_succ,List.cons_append,List.nil_append];simp only [go_sem];(try go_ints);(repeat refine And.intro side ?_);(first|refine hK _ ?_|refine hR _ _ ?_);clear hK hR K R)
    refine D_callD (hchk) rfl rfl rfl (by first | (simp only [go_sem]<;>first | exact LeA.refl _ | exact Le.refl _) | exact LeA.refl _) rfl rfl rfl rfl ?_
    (refine D_reg fun K R hK hR=>?_;simp only [go_sem];(try go_ints);(repeat refine And.intro side ?_);(first|refine hK _ ?_|refine hR _ _ ?_);clear hK hR K R)
    refine D_callDg rfl (by simp only [go_sem]<;>exact rfl) (fun e=>hqws) rfl rfl rfl (fun e=>by (try simp only [go_sem] at e);simp only [go_sem,e]<;>(try simp only [go_sem])<;>first | exact LeA.refl _ | exact Le.refl _) rfl rfl rfl rfl ?_
    (refine D_reg fun K R hK hR=>?_;simp only [go_sem];(try go_ints);(repeat refine And.intro side ?_);(first|refine hK _ ?_|refine hR _ _ ?_);clear hK hR K R)
    refine D_callDg rfl (by simp only [go_sem]<;>exact rfl) (fun e=>hps) rfl rfl rfl (fun e=>by (try simp only [go_sem] at e);simp only [go_sem,e]<;>(try simp only [go_sem])<;>first | exact LeA.refl _ | exact Le.refl _) rfl rfl rfl rfl ?_
    (refine D_reg fun K R hK hR=>?_;simp only [go_sem];(try go_ints);(repeat refine And.intro side ?_);(first|refine hK _ ?_|refine hR _ _ ?_);clear hK hR K R)
    repeat (first | refine nav ?_ | refine bo ?_)
    refine W_cond (by simp only [go_sem]<;>exact rfl) (fun hb=>?_) (fun hb=>?_)
    ·repeat (first | refine nav ?_ | refine bo ?_)
     (refine wr fun K R hK hR=>?_;simp only [go_sem];(try go_ints);(repeat refine And.intro side ?_);(first|refine hK _ ?_|refine hR _ _ ?_);clear hK hR K R)
     refine RL_callF (hal) rfl rfl rfl (by first | (simp only [go_sem]<;>first | exact LeA.refl _ | exact Le.refl _) | exact LeA.refl _) rfl rfl ?_
     (refine rr fun K R hK hR=>?_;simp only [go_sem];(try go_ints);(repeat refine And.intro side ?_);(first|refine hK _ ?_|refine hR _ _ ?_);clear hK hR K R)
     repeat (first | refine nav ?_ | refine bo ?_)
     refine endQ_data (by simp only [go_sem]<;>exact rfl) (Le.of_eq ?_) rfl
     rfl
    ·repeat (first | refine nav ?_ | refine bo ?_)
     (refine W_dreg (by decide +kernel) [] [0,1,2,3,4,5,6,7,8,9,10] [[],[],[1,0],[],[],[0,1,2,4,3],[3,4,5,0,1,2],[2,1,0,5,4,3,6],[6,3,4,5,0,1,2,7],[8,6,3,4,5,0,1,2,7],[7,2,1,0,5,4,3,6,8,9]] (by decide +kernel) rfl fun K R hK hR=>?_;simp only [List.filterMap_cons,List.filterMap_nil,List.getElem?_cons_zero,List.getElem?_cons_succ,List.cons_append,List.nil_append];simp only [go_sem];(try go_ints);(repeat refine And.intro side ?_);(first|refine hK _ ?_|refine hR _ _ ?_);clear hK hR K R)
     refine D_callD (hrr) rfl rfl rfl (by first | (simp only [go_sem]<;>first | exact LeA.refl _ | exact Le.refl _) | exact LeA.refl _) rfl rfl rfl rfl ?_
     (refine D_reg fun K R hK hR=>?_;simp only [go_sem];(try go_ints);(repeat refine And.intro side ?_);(first|refine hK _ ?_|refine hR _ _ ?_);clear hK hR K R)
     refine D_callD (hqrr) rfl rfl rfl (by first | (simp only [go_sem]<;>first | exact LeA.refl _ | exact Le.refl _) | exact LeA.refl _) rfl rfl rfl rfl ?_
     (refine D_reg fun K R hK hR=>?_;simp only [go_sem];(try go_ints);(repeat refine And.intro side ?_);(first|refine hK _ ?_|refine hR _ _ ?_);clear hK hR K R)
     refine D_callD (hsame) rfl rfl rfl (by first | (simp only [go_sem]<;>first | exact LeA.refl _ | exact Le.refl _) | exact LeA.refl _) rfl rfl rfl rfl ?_
     (refine D_reg fun K R hK hR=>?_;simp only [go_sem];(try go_ints);(repeat refine And.intro side ?_);(first|refine hK _ ?_|refine hR _ _ ?_);clear hK hR K R)
     refine D_callDg rfl (by simp only [go_sem]<;>exact rfl) (fun e=>hal) rfl rfl rfl (fun e=>by (try simp only [go_sem] at e);simp only [go_sem,e]<;>(try simp only [go_sem])<;>first | exact LeA.refl _ | exact Le.refl _) rfl rfl rfl rfl ?_
     (refine D_reg fun K R hK hR=>?_;simp only [go_sem];(try go_ints);(repeat refine And.intro side ?_);(first|refine hK _ ?_|refine hR _ _ ?_);clear hK hR K R)
     repeat (first | refine nav ?_ | refine bo ?_)
     refine endQ_data (by simp only [go_sem]<;>exact rfl) (Le.of_eq ?_) rfl
     rfl
   ·have hne : (checkF p s != 0) = true:=by simp [bne,hce]
    repeat (first | refine nav ?_ | refine bo ?_)
    (refine W_dreg (by decide +kernel) [] [0,1,2,3,4,5,6,7,8,9,10,11] [[],[],[1,0],[0,1,2],[2,1,0,3],[3,0,1,2,4],[4,2,1,0,3,5],[3,0,1,2,4],[4,2,1,0,3,7],[7,8,5,3,0,1,2,4,6],[6,4,2,1,0,3,5,8,7,9],[9,7,8,5,6,10,3,0,1,2,4]] (by decide +kernel) rfl fun K R hK hR=>?_;simp only [List.filterMap_cons,List.filterMap_nil,List.getElem?_cons_zero,List.getElem?_cons_succ,List.cons_append,List.nil_append];simp only [go_sem];(try go_ints);(repeat refine And.intro side ?_);(first|refine hK _ ?_|refine hR _ _ ?_);clear hK hR K R)
    refine D_callD (hchk) rfl rfl rfl (by first | (simp only [go_sem]<;>first | exact LeA.refl _ | exact Le.refl _) | exact LeA.refl _) rfl rfl rfl rfl ?_
    (refine D_reg fun K R hK hR=>?_;simp only [go_sem,hne];(try go_ints);(try simp only [go_sem,hne]);(repeat refine And.intro side ?_);(first|refine hK _ ?_|refine hR _ _ ?_);clear hK hR K R)
    refine D_skip rfl rfl (by simp only [go_sem]<;>exact rfl) rfl rfl rfl ?_
    (refine D_reg fun K R hK hR=>?_;simp only [go_sem];(try go_ints);(repeat refine And.intro side ?_);(first|refine hK _ ?_|refine hR _ _ ?_);clear hK hR K R)
    refine D_skip rfl rfl (by simp only [go_sem]<;>exact rfl) rfl rfl rfl ?_
    (refine D_reg fun K R hK hR=>?_;simp only [go_sem];(try go_ints);(repeat refine And.intro side ?_);(first|refine hK _ ?_|refine hR _ _ ?_);clear hK hR K R)
    repeat (first | refine nav ?_ | refine bo ?_)
    refine W_cond (b:=true) (by simp only [go_sem]<;>first | rfl | simp) (fun _=>?_) (fun hb=>by cases hb)
    repeat (first | refine nav ?_ | refine bo ?_)
    (refine wr fun K R hK hR=>?_;simp only [go_sem];(try go_ints);(repeat refine And.intro side ?_);(first|refine hK _ ?_|refine hR _ _ ?_);clear hK hR K R)
    refine RL_callF (hal) rfl rfl rfl (by first | (simp only [go_sem]<;>first | exact LeA.refl _ | exact Le.refl _) | exact LeA.refl _) rfl rfl ?_
    (refine rr fun K R hK hR=>?_;simp only [go_sem];(try go_ints);(repeat refine And.intro side ?_);(first|refine hK _ ?_|refine hR _ _ ?_);clear hK hR K R)
    repeat (first | refine nav ?_ | refine bo ?_)
    refine endQ_data (by simp only [go_sem]<;>exact rfl) (Le.of_eq ?_) rfl
    rfl
end Go.AW
