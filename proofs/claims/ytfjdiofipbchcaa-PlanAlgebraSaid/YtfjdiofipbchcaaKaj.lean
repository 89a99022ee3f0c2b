/-
The document's Valid.
-/
import Derived.Test.YtfjdiofipbchcaaKai
import Derived.Test.YtfjdiofipbchcaaKag
import Derived.Test.YtfjdiofipbchcaaKaf
import Derived.Test.YtfjdiofipbchcaaKah
namespace Go.AW
open Go Go.Proofs TyTry Go.IntWalk
set_option linter.unusedSimpArgs false
set_option linter.unusedVariables false
set_option maxRecDepth 10000
set_option maxHeartbeats 1000000
def validR (p : PlanD) : Bool:=decide (cntF p ≤ 4000) && decide (deepF p ≤ 1000) && decide (0 ≤ widthR p) && oneW (symsF p)
theorem rvalid_spec (p : PlanD) (hp : p.Ok) (hc : cntF p ≤ 50000) : ACallsD Try.prog 10 [.agg p.cells] (.b (validR p)):=by
 have hcs:=count_spec p hp (by omega)
 have hws:=rwidth_spec p hp (by omega)
 have hss:=rsyms_spec p hp [] .nsl (.inl ⟨rfl,rfl⟩) (by simp;omega)
 have hwl:=widthR_le p
 have hdl:=deepF_le p
 have hsl:=symsF_len p
 rw [List.nil_append] at hss
 rw [PlanD.cells_eq] at hcs hws hss ⊢
 refine ACalls_of' (n:=61) (rs:=[.tmp 2]) (show Try.prog.funcs[10]? = some Try.f10 by kernel_rfl) rfl rfl rfl (by simp) (by decide +kernel) ?_
 repeat (first | refine nav ?_ | refine bo ?_)
 (refine wr fun K R hK hR=>?_;simp only [go_sem];(try go_ints);(repeat refine And.intro side ?_);(first|refine hK _ ?_|refine hR _ _ ?_);clear hK hR K R)
 repeat (first | refine nav ?_ | refine bo ?_)
 (refine wr fun K R hK hR=>?_;simp only [go_sem];(try go_ints);(repeat refine And.intro side ?_);(first|refine hK _ ?_|refine hR _ _ ?_);clear hK hR K R)
 refine RL_callF (hcs) rfl rfl rfl (by first | (simp only [go_sem]<;>first | exact LeA.refl _ | exact Le.refl _) | exact LeA.refl _) rfl rfl ?_
 (refine rr fun K R hK hR=>?_;simp only [go_sem];(try go_ints);(repeat refine And.intro side ?_);(first|refine hK _ ?_|refine hR _ _ ?_);clear hK hR K R)
 repeat (first | refine nav ?_ | refine bo ?_)
 (refine wr fun K R hK hR=>?_;simp only [go_sem];(try go_ints);(repeat refine And.intro side ?_);(first|refine hK _ ?_|refine hR _ _ ?_);clear hK hR K R)
 refine RL_callDg rfl (by simp only [go_sem]<;>exact rfl) (fun e=>hws) rfl rfl rfl (fun e=>by (try simp only [go_sem] at e);simp only [go_sem,e]<;>(try simp only [go_sem])<;>first | exact LeA.refl _ | exact Le.refl _) rfl rfl ?_
 (refine rr fun K R hK hR=>?_;simp only [go_sem];(try go_ints);(repeat refine And.intro side ?_);(first|refine hK _ ?_|refine hR _ _ ?_);clear hK hR K R)
 repeat (first | refine nav ?_ | refine bo ?_)
 refine W_cond (by simp only [go_sem]<;>exact rfl) (fun hb=>?_) (fun hb=>?_)
 ·repeat (first | refine nav ?_ | refine bo ?_)
  (refine wr fun K R hK hR=>?_;simp only [go_sem];(try go_ints);(repeat refine And.intro side ?_);(first|refine hK _ ?_|refine hR _ _ ?_);clear hK hR K R)
  repeat (first | refine nav ?_ | refine bo ?_)
  refine endQ_data (by simp only [go_sem]<;>exact rfl) (Le.of_eq ?_) rfl
  unfold validR
  have : ¬ (cntF p ≤ 4000 ∧ deepF p ≤ 1000 ∧ 0 ≤ widthR p):=by
   simp only [Bool.or_eq_true,decide_eq_true_eq] at hb;omega
  simp only [AV.b.injEq]
  symm
  simp only [Bool.and_eq_false_iff,decide_eq_false_iff_not]
  omega
 ·have hh : cntF p ≤ 4000 ∧ deepF p ≤ 1000 ∧ 0 ≤ widthR p:=by
   simp only [Bool.or_eq_false_iff,decide_eq_false_iff_not] at hb;omega
  have hv : validR p = oneW (symsF p):=by unfold validR;simp [hh]
  rw [hv]
  repeat (first | refine nav ?_ | refine bo ?_)
  (refine wr fun K R hK hR=>?_;simp only [go_sem];(try go_ints);(repeat refine And.intro side ?_);(first|refine hK _ ?_|refine hR _ _ ?_);clear hK hR K R)
  refine RL_callF (hss) rfl rfl rfl (by first | (simp only [go_sem]<;>first | exact LeA.refl _ | exact Le.refl _) | exact LeA.refl _) rfl rfl ?_
  (refine rr fun K R hK hR=>?_;simp only [go_sem];(try go_ints);(repeat refine And.intro side ?_);(first|refine hK _ ?_|refine hR _ _ ?_);clear hK hR K R)
  repeat (first | refine nav ?_ | refine bo ?_)
  (refine wr fun K R hK hR=>?_;simp only [go_sem];(try go_ints);(repeat refine And.intro side ?_);(first|refine hK _ ?_|refine hR _ _ ?_);clear hK hR K R)
  generalize symsF p = l at *
  repeat (first | refine nav ?_ | refine bo ?_)
  refine W_for 26 61 [6,7] (fun m t o=>∃ (i : Nat),[Ob.cells 7 [[AV.i .i64 p.kind,.i .i64 p.width,.i .i64 p.i,.i .i64 p.j,.s p.name,.sl 1 (ints p.cols),.sl 7 (plans p.kids)]]] = o ∧ t 6 = .i .i64 i ∧ m = l.length - i ∧ i ≤ l.length ∧ ∀ i' < i,∀ k < i',clash l i' k = false) l.length
   ⟨0,rfl,by simp only [go_sem]<;>rfl,by omega,by omega,by simp⟩ ?_
  rintro m t o ⟨i,rfl,h6,rfl,hil,hi⟩
  repeat (first | refine nav ?_ | refine bo ?_)
  (refine wr fun K R hK hR=>?_;simp only [go_sem,h6];(try go_ints);(try simp only [go_sem,h6]);(repeat refine And.intro side ?_);(first|refine hK _ ?_|refine hR _ _ ?_);clear hK hR K R)
  repeat (first | refine nav ?_ | refine bo ?_)
  refine W_cond (by simp only [go_sem]<;>exact rfl) (fun hb=>?_) (fun hb=>?_)
  ·have hil2 : i < l.length:=by simpa using hb
   obtain ⟨x,hx⟩ : ∃ x,l[i]? = some x:=⟨_,List.getElem?_eq_getElem hil2⟩
   repeat (first | refine nav ?_ | refine bo ?_)
   (refine wr fun K R hK hR=>?_;simp only [go_sem];(try go_ints);(repeat refine And.intro side ?_);(first|refine hK _ ?_|refine hR _ _ ?_);clear hK hR K R)
   repeat (first | refine nav ?_ | refine bo ?_)
   refine W_for 32 61 [7] (fun m t o=>∃ (k : Nat),[Ob.cells 7 [[AV.i .i64 p.kind,.i .i64 p.width,.i .i64 p.i,.i .i64 p.j,.s p.name,.sl 1 (ints p.cols),.sl 7 (plans p.kids)]]] = o ∧ t 7 = .i .i64 k ∧ m = i - k ∧ k ≤ i ∧ ∀ k' < k,clash l i k' = false) i
    ⟨0,rfl,by simp only [go_sem]<;>rfl,by omega,by omega,by simp⟩ ?_
   rintro m t1 o ⟨k,rfl,h7,rfl,hk,hkk⟩
   repeat (first | refine nav ?_ | refine bo ?_)
   (refine wr fun K R hK hR=>?_;simp only [go_sem,h6,h7];(try go_ints);(try simp only [go_sem,h6,h7]);(repeat refine And.intro side ?_);(first|refine hK _ ?_|refine hR _ _ ?_);clear hK hR K R)
   repeat (first | refine nav ?_ | refine bo ?_)
   refine W_cond (by simp only [go_sem]<;>exact rfl) (fun hb=>?_) (fun hb=>?_)
   ·have hki : k < i:=by simpa using hb
    obtain ⟨y,hy⟩ : ∃ y,l[k]? = some y:=⟨_,List.getElem?_eq_getElem (by omega)⟩
    have hcl : clash l i k = (y.1.toList == x.1.toList && y.2 != x.2):=by unfold clash;simp [hx,hy]
    repeat (first | refine nav ?_ | refine bo ?_)
    (refine W_dreg (by decide +kernel) [] [0,1,2,3,4,5,6,7,8,9,10,11,12,13,14,15,16,17,18,19,20,21,22,23] [[],[],[1,0],[0,1,2],[2,1,0,3],[],[],[6,5],[5,6,7],[7,6,5,8],[8,5,6,7,9,3,0,1,2,4],[4,2,1,0,3,9,7,6,5,8,10],[10,8,5,6,7,9,3,0,1,2,4,11],[10,8,5,6,7,9,3,0,1,2,4,11],[13,11,4,2,1,0,3,9,7,6,5,8,10,12],[12,10,8,5,6,7,9,3,0,1,2,4,11,13,14],[14,13,11,4,2,1,0,3,9,7,6,5,8,10,12,15],[10,8,5,6,7,9,3,0,1,2,4,11],[10,8,5,6,7,9,3,0,1,2,4,11],[18,11,4,2,1,0,3,9,7,6,5,8,10,17],[17,10,8,5,6,7,9,3,0,1,2,4,11,18,19],[19,18,11,4,2,1,0,3,9,7,6,5,8,10,17,20],[20,17,18,19,21,15,12,10,8,5,6,7,9,3,0,1,2,4,11,13,14,16],[16,14,13,12,15,21,19,18,17,20,22,10,8,5,6,7,9,3,0,1,2,4,11]] (by decide +kernel) rfl fun K R hK hR=>?_;simp only [List.filterMap_cons,List.filterMap_nil,List.getElem?_cons_zero,List.getElem?_cons_succ,List.cons_append,List.nil_append];simp only [go_sem,h6,h7,nsyms_get hx,nsyms_get hy];(try go_ints);(try simp only [go_sem,h6,h7,nsyms_get hx,nsyms_get hy]);(repeat refine And.intro side ?_);(first|refine hK _ ?_|refine hR _ _ ?_);clear hK hR K R)
    repeat (first | refine nav ?_ | refine bo ?_)
    refine W_cond (by simp only [go_sem]<;>exact rfl) (fun hc=>?_) (fun hc=>?_)
    ·repeat (first | refine nav ?_ | refine bo ?_)
     (refine wr fun K R hK hR=>?_;simp only [go_sem];(try go_ints);(repeat refine And.intro side ?_);(first|refine hK _ ?_|refine hR _ _ ?_);clear hK hR K R)
     repeat (first | refine nav ?_ | refine bo ?_)
     refine endQ_data (by simp only [go_sem]<;>exact rfl) (Le.of_eq ?_) rfl
     rw [oneW_false hil2 hki (by rw [hcl];exact hc)]
    ·repeat (first | refine nav ?_ | refine bo ?_)
     (refine wr fun K R hK hR=>?_;simp only [go_sem,h7];(try go_ints);(try simp only [go_sem,h7]);(repeat refine And.intro side ?_);(first|refine hK _ ?_|refine hR _ _ ?_);clear hK hR K R)
     refine forQ_normal (i - (k + 1)) (by omega) ⟨k + 1,?_⟩
     ((try simp only [go_sem]);(repeat' refine And.intro ?_ ?_)<;>(try first | with_reducible rfl | omega | with_reducible assumption | (simp;done)))
     intro k' hk'
     rcases Nat.lt_succ_iff_lt_or_eq.1 hk' with h | rfl
     ·exact hkk k' h
     ·rw [hcl];exact hc
   ·have hki : k = i:=by
     have : ¬ k < i:=by simpa using hb
     omega
    subst hki
    repeat (first | refine nav ?_ | refine bo ?_)
    rw [mix_mix rfl]
    (refine wr fun K R hK hR=>?_;simp only [go_sem,h6];(try go_ints);(try simp only [go_sem,h6]);(repeat refine And.intro side ?_);(first|refine hK _ ?_|refine hR _ _ ?_);clear hK hR K R)
    repeat (first | refine nav ?_ | refine bo ?_)
    refine forQ_normal (l.length - (k + 1)) (by omega) ⟨k + 1,?_⟩
    ((try simp only [go_sem]);(repeat' refine And.intro ?_ ?_)<;>(try first | with_reducible rfl | omega | with_reducible assumption | (simp;done)))
    intro i' hi'
    rcases Nat.lt_succ_iff_lt_or_eq.1 hi' with h | rfl
    ·exact hi i' h
    ·exact hkk
  ·have hil2 : i = l.length:=by
    have : ¬ i < l.length:=by simpa using hb
    omega
   subst hil2
   repeat (first | refine nav ?_ | refine bo ?_)
   (refine wr fun K R hK hR=>?_;simp only [go_sem];(try go_ints);(repeat refine And.intro side ?_);(first|refine hK _ ?_|refine hR _ _ ?_);clear hK hR K R)
   repeat (first | refine nav ?_ | refine bo ?_)
   refine endQ_data (by simp only [go_sem]<;>exact rfl) (Le.of_eq ?_) rfl
   rw [oneW_true hi]
end Go.AW
namespace Go.AW
open Go Go.Proofs TyTry Go.IntWalk
set_option linter.unusedSimpArgs false
set_option linter.unusedVariables false
set_option maxRecDepth 10000
set_option maxHeartbeats 1000000
theorem modify_mid {α : Type} : ∀ (a b : List α) (x : α) (f : α → α),(a ++ x :: b).modify a.length f = a ++ f x :: b
 | [],b,x,f=>rfl
 | y :: a,b,x,f=>by simp [modify_mid a b x f]
def allT (n k : Nat) : List (List Int):=(List.range (n ^ k)).map (digs n k)
theorem all_meth {s : StrD} {q : PlanD} {n k : Nat} (hk1 : q.kind = 1) (hn : s.size = n) (hn1 : 1 ≤ n) (hn2 : n ≤ 64) (hw : q.width = k) (hk : k ≤ 12) (hp : n ^ k ≤ 4096) : Meth s q [] (allT n k):=by
 intro oc E ho he
 have hm : methF q.kind = 58:=by rw [hk1];rfl
 have hel:=(List.getElem?_eq_some_iff.1 he.m).1
 rw [hm,q.cells_eq]
 have he':=fun l=>app_get l he.e
 have hpw : powerF n k = (((n ^ k : Nat) : Int),0):=by
  unfold powerF
  rw [if_neg (by omega),Int.toNat_natCast,powL_one n hn1,if_pos hp,if_neg (by omega)]
 have hps:=power2_spec n k
 rw [hpw] at hps
 simp only at hps
 rw [hw]
 refine ACalls_of' (n:=46) (rs:=[.tmp 6]) (show Try.prog.funcs[58]? = some Try.f58 by kernel_rfl) rfl rfl rfl (by simp) (by decide +kernel) ?_
 repeat (first | refine nav ?_ | refine bo ?_)
 (refine wr fun K R hK hR=>?_;simp only [go_sem];(try go_ints);(repeat refine And.intro side ?_);(first|refine hK _ ?_|refine hR _ _ ?_);clear hK hR K R)
 repeat (first | refine nav ?_ | refine bo ?_)
 rw [hn] at he'
 generalize hN : n ^ k = M at *
 (refine W_dreg (by decide +kernel) [] [0,1,2,3,4,5,6,7,8,9,10,11,12] [[],[0],[0,1],[1,0,2],[2,0,1,3],[],[5],[5,6,3,1,0,2,4],[4,2,0,1,3,6,5,7],[7,5,6,3,1,0,2,4,8],[7,5,6,3,1,0,2,4,8],[8,4,2,0,1,3,6,5,7,9],[9,11,8,4,2,0,1,3,6,5,7,10]] (by decide +kernel) rfl fun K R hK hR=>?_;simp only [List.filterMap_cons,List.filterMap_nil,List.getElem?_cons_zero,List.getElem?_cons_succ,List.cons_append,List.nil_append];simp only [go_sem,he'];(try go_ints);(try simp only [go_sem,he']);(repeat refine And.intro side ?_);(first|refine hK _ ?_|refine hR _ _ ?_);clear hK hR K R)
 refine D_callD (hps) rfl rfl rfl (by first | (simp only [go_sem]<;>first | exact LeA.refl _ | exact Le.refl _) | exact LeA.refl _) rfl rfl rfl rfl ?_
 (refine D_reg fun K R hK hR=>?_;simp only [go_sem];(try go_ints);(repeat refine And.intro side ?_);(first|refine hK _ ?_|refine hR _ _ ?_);clear hK hR K R)
 repeat (first | refine nav ?_ | refine bo ?_)
 (refine wr fun K R hK hR=>?_;simp only [go_sem];(try go_ints);(repeat refine And.intro side ?_);(first|refine hK _ ?_|refine hR _ _ ?_);clear hK hR K R)
 repeat (first | refine nav ?_ | refine bo ?_)
 (refine wr fun K R hK hR=>?_;simp only [go_sem];(try go_ints);(repeat refine And.intro side ?_);(first|refine hK _ ?_|refine hR _ _ ?_);clear hK hR K R)
 repeat (first | refine nav ?_ | refine bo ?_)
 have hal : (allT n k).length = M:=by simp [allT,hN]
 have o1 : ∀ l,(oc ++ [boxQ q,l])[oc.length]? = some (boxQ q):=fun l=>by simp
 have ee:=fun a b=>he' [a,b]
 have hqb : (Ob.cells 7 [[AV.i IntKind.i64 q.kind,AV.i IntKind.i64 k,AV.i IntKind.i64 q.i,AV.i IntKind.i64 q.j,AV.s q.name,AV.sl 1 (ints q.cols),AV.sl 7 (plans q.kids)]]) = boxQ q:=by unfold boxQ;rw [hw]
 refine W_weak (s':=⟨tab [(0,.ptr E 0 0),(4,.ptr oc.length 0 0),(9,.ref (oc.length + 1) 0 M),(25,.i .i64 M),(26,.i .i64 0)],oc ++ [boxQ q,.cells 1 (List.replicate M [.nsl])]⟩) (tab_le fun y hy=>?_) (by rw [hqb]) ?_
 ·simp only [List.mem_cons,List.not_mem_nil,or_false] at hy
  rcases hy with rfl | rfl | rfl | rfl | rfl
  all_goals rfl
 refine W_for 26 46 [10,29] (fun m t o=>∃ j : Nat,o = oc ++ [boxQ q,.cells 1 (tups ((allT n k).take j) ++ List.replicate (M - j) [.nsl])] ∧ t 26 = .i .i64 j ∧ m = M - j ∧ j ≤ M) M ⟨0,by simp [tups],by simp only [go_sem]<;>rfl,by omega,by omega⟩ ?_
 rintro m t o ⟨j,rfl,h26,rfl,hj⟩
 repeat (first | refine nav ?_ | refine bo ?_)
 (refine wr fun K R hK hR=>?_;simp only [go_sem,h26];(try go_ints);(try simp only [go_sem,h26]);(repeat refine And.intro side ?_);(first|refine hK _ ?_|refine hR _ _ ?_);clear hK hR K R)
 repeat (first | refine nav ?_ | refine bo ?_)
 refine W_cond (by simp only [go_sem]<;>exact rfl) (fun hb=>?_) (fun hb=>?_)
 ·simp at hb
  obtain ⟨u,hu⟩ : ∃ u,(allT n k)[j]? = some u:=⟨_,List.getElem?_eq_getElem (by omega)⟩
  have hud : u = digs n k j:=by
   simp only [allT,List.getElem?_map,Option.map_eq_some_iff] at hu
   obtain ⟨x,hx,rfl⟩:=hu
   rw [List.getElem?_range (by omega)] at hx
   cases hx;rfl
  have hjl : (tups ((allT n k).take j)).length = j:=by rw [tups_len'];simp [hal];omega
  have hts:=tuple_spec n k j hn1 hn2 hk (by rw [powL_one n hn1,hN,if_pos hp];omega)
  rw [← hud] at hts
  have hget : (tups ((allT n k).take j) ++ List.replicate (M - j) [AV.nsl]).getD j [] = [.nsl]:=by
   rw [List.getD_eq_getElem?_getD,List.getElem?_append_right (by omega),hjl,List.getElem?_replicate_of_lt (by omega)];rfl
  have hset : (tups ((allT n k).take j) ++ List.replicate (M - j) [AV.nsl]).modify j (fun row=>row.set 0 (.sl 1 (ints u))) = tups ((allT n k).take (j + 1)) ++ List.replicate (M - (j + 1)) [.nsl]:=by
   rw [show M - j = (M - (j + 1)) + 1 by omega,List.replicate_succ,List.take_add_one,hu]
   have:=modify_mid (tups ((allT n k).take j)) (List.replicate (M - (j + 1)) [AV.nsl]) [AV.nsl] (fun row=>row.set 0 (.sl 1 (ints u)))
   rw [hjl] at this
   rw [this]
   simp [tups]
  have hlen : (tups ((allT n k).take j) ++ List.replicate (M - j) [AV.nsl]).length = M:=by simp [hjl];omega
  repeat (first | refine nav ?_ | refine bo ?_)
  (refine wr fun K R hK hR=>?_;simp only [go_sem,h26];(try go_ints);(try simp only [go_sem,h26]);(repeat refine And.intro side ?_);(first|refine hK _ ?_|refine hR _ _ ?_);clear hK hR K R)
  repeat (first | refine nav ?_ | refine bo ?_)
  (refine W_dreg (by decide +kernel) [] [0,1,2,3,4,5,6,7,8,9,10,11,12,13,14,15] [[],[],[],[2],[2,3],[3,2,4],[4,2,3,5],[],[7],[],[9,7,8,5,3,2,4,6],[6,4,2,3,5,8,7,9,10],[10,9,7,8,5,3,2,4,6,11],[10,9,7,8,5,3,2,4,6,11],[12,11,10,9,8,7,6,5,4,3,2,1,0],[0,1,2,3,4,5,6,7,8,9,10,11,12,14]] (by decide +kernel) rfl fun K R hK hR=>?_;simp only [List.filterMap_cons,List.filterMap_nil,List.getElem?_cons_zero,List.getElem?_cons_succ,List.cons_append,List.nil_append];simp only [go_sem,ee,o1,boxQ,hw];(try go_ints);(try simp only [go_sem,ee,o1,boxQ,hw]);(repeat refine And.intro side ?_);(first|refine hK _ ?_|refine hR _ _ ?_);clear hK hR K R)
  refine D_callD (hts) rfl rfl rfl (by first | (simp only [go_sem]<;>first | exact LeA.refl _ | exact Le.refl _) | exact LeA.refl _) rfl rfl rfl rfl ?_
  (refine D_reg fun K R hK hR=>?_;simp only [go_sem,hget,hset,hlen];(try go_ints);(try simp only [go_sem,hget,hset,hlen]);(repeat refine And.intro side ?_);(first|refine hK _ ?_|refine hR _ _ ?_);clear hK hR K R)
  repeat (first | refine nav ?_ | refine bo ?_)
  (refine wr fun K R hK hR=>?_;simp only [go_sem,h26];(try go_ints);(try simp only [go_sem,h26]);(repeat refine And.intro side ?_);(first|refine hK _ ?_|refine hR _ _ ?_);clear hK hR K R)
  refine forQ_normal (M - (j + 1)) (by omega) ⟨j + 1,?_,by simp only [go_sem]<;>rfl,rfl,by omega⟩
  show oc ++ [_,_] = _
  rw [hqb]
 ·simp at hb
  obtain rfl : j = M:=by omega
  repeat (first | refine nav ?_ | refine bo ?_)
  (refine wr fun K R hK hR=>?_;simp only [go_sem];(try go_ints);(repeat refine And.intro side ?_);(first|refine hK _ ?_|refine hR _ _ ?_);clear hK hR K R)
  rw [List.take_of_length_le (by omega),Nat.sub_self,List.replicate_zero,List.append_nil]
  have hoe : ∀ X,oc ++ [boxQ q,X] = (oc ++ [boxQ q]) ++ [X]:=fun X=>by simp
  rw [hoe]
  have hid : ((tups (allT n k)).map fun r=>r.map AV.dat) = tups (allT n k):=by simp [tups,Function.comp_def,AV.dat]
  change W Try.prog 46 Code.ret _ _
  refine W_freeze (oc.length + 1) (sz:=1) (rows:=tups (allT n k)) (by rw [List.getElem?_append_right (by simp)];simp) (by simp [tups,AV.dat,AV.ltk,AV.plain]) ?_
  refine W_weak (s':=⟨tab [(6,.sl 1 (tups (allT n k)))],oc ++ [boxQ q] ++ [.frz 1 (tups (allT n k))]⟩) (tab_le fun y hy=>?_) ?_ ?_
  ·simp only [List.mem_cons,List.not_mem_nil,or_false] at hy
   subst hy
   show AV.unref (oc.length + 1) 1 ((tups (allT n k)).map fun r=>r.map AV.dat) (.ref (oc.length + 1) 0 j) = _
   rw [hid]
   unfold AV.unref
   rw [if_pos ⟨rfl,by rw [tups_len'];omega⟩,List.drop_zero,List.take_of_length_le (by rw [tups_len'];omega)]
  ·have:=frS_last (o:=oc ++ [boxQ q]) (t:=fun _=>AV.any) (rows:=tups (allT n k)) (okO_app ho rfl) hid
   rw [List.length_append] at this
   exact (congrArg St.o this).symm
  rw [List.append_assoc]
  repeat (first | refine nav ?_ | refine bo ?_)
  refine endQ_quiet (by simp only [go_sem]<;>exact rfl) (Le.of_eq rfl) ho rfl
end Go.AW
namespace Go.AW
open Go
set_option linter.unusedSimpArgs false
set_option linter.unusedVariables false
def Up (l : List (List Int)) : Prop:=l.Pairwise fun x y=>cmpL x y < 0
def InT (n k : Nat) (t : List Int) : Prop:=t.length = k ∧ ∀ x ∈ t,0 ≤ x ∧ x < n
structure Tab (n k : Nat) (l : List (List Int)) : Prop where
 up : Up l
 el : ∀ t ∈ l,InT n k t
theorem Up.rise {l : List (List Int)} (h : Up l) : Rise l:=h.imp fun h=>Int.le_of_lt h
theorem cmpL_snoc : ∀ (a b : List Int) (x y : Int),a.length = b.length → cmpL (a ++ [x]) (b ++ [y]) = if cmpL a b ≠ 0 then cmpL a b else cmpF x y
 | [],[],x,y,_=>by
  simp only [List.nil_append,cmpL]
  by_cases h : cmpF x y = 0
  ·simp [h]
  ·simp [h]
 | a :: l,b :: r,x,y,h=>by
  have ih:=cmpL_snoc l r x y (by simpa using h)
  simp only [List.cons_append,cmpL]
  by_cases h0 : cmpF a b = 0
  ·simp only [h0,ne_eq,not_true,if_false];rw [ih]
  ·simp only [ne_eq,h0,not_false_eq_true,if_true]
theorem digs_in (n : Nat) (hn : 1 ≤ n) : ∀ k r,InT n k (digs n k r)
 | 0,r=>⟨rfl,fun x hx=>by cases hx⟩
 | k + 1,r=>by
  have ih:=digs_in n hn k (r / n)
  refine ⟨by simp [digs,ih.1],fun x hx=>?_⟩
  simp only [digs,List.mem_append,List.mem_singleton] at hx
  rcases hx with hx | rfl
  ·exact ih.2 x hx
  ·have:=Nat.mod_lt r (show n > 0 by omega)
   omega
theorem digs_lt (n : Nat) (hn : 1 ≤ n) : ∀ k r r',r < r' → r' < n ^ k → cmpL (digs n k r) (digs n k r') < 0
 | 0,r,r',h,h'=>by simp at h';omega
 | k + 1,r,r',h,h'=>by
  simp only [digs]
  rw [cmpL_snoc _ _ _ _ (by rw [digs_len,digs_len])]
  have hd : r / n ≤ r' / n:=Nat.div_le_div_right (Nat.le_of_lt h)
  rcases Nat.lt_or_eq_of_le hd with hd | hd
  ·have:=digs_lt n hn k (r / n) (r' / n) hd (by rw [Nat.div_lt_iff_lt_mul (by omega)];rw [Nat.pow_succ] at h';exact h')
   rw [if_pos (by omega)];exact this
  ·rw [hd,cmpL_self]
   simp only [ne_eq,not_true,if_false]
   have h1:=Nat.div_add_mod r n
   have h2:=Nat.div_add_mod r' n
   rw [hd] at h1
   unfold cmpF
   rw [if_pos (by omega)]
   decide
theorem allT_up (n k : Nat) (hn : 1 ≤ n) : Up (allT n k):=by
 unfold Up allT
 rw [List.pairwise_map]
 refine (List.pairwise_lt_range (n:=n ^ k)).imp_of_mem fun {a b} ha hb h=>?_
 exact digs_lt n hn k a b h (by simpa using hb)
theorem digs_surj (n : Nat) (hn : 1 ≤ n) : ∀ k (t : List Int),InT n k t → ∃ r,r < n ^ k ∧ digs n k r = t
 | 0,t,h=>⟨0,by simp,by rw [List.length_eq_zero_iff.1 h.1];rfl⟩
 | k + 1,t,h=>by
  have hne : t ≠ []:=by rintro rfl;have:=h.1;simp at this
  obtain ⟨a,x,rfl⟩ : ∃ a x,t = a ++ [x]:=⟨t.dropLast,t.getLast hne,(List.dropLast_concat_getLast hne).symm⟩
  have hl : a.length = k:=by have:=h.1;simp at this;exact this
  obtain ⟨r,hr,hd⟩:=digs_surj n hn k a ⟨hl,fun y hy=>h.2 y (by simp [hy])⟩
  have hx:=h.2 x (by simp)
  obtain ⟨m,rfl⟩:=Int.eq_ofNat_of_zero_le hx.1
  have hm : m < n:=by omega
  refine ⟨r * n + m,?_,?_⟩
  ·rw [Nat.pow_succ]
   have : (r + 1) * n ≤ n ^ k * n:=Nat.mul_le_mul_right n hr
   rw [Nat.add_mul] at this
   omega
  ·have e1 : (r * n + m) / n = r:=by
    rw [Nat.mul_comm,Nat.mul_add_div (by omega),Nat.div_eq_of_lt hm,Nat.add_zero]
   have e2 : (r * n + m) % n = m:=by rw [Nat.mul_comm,Nat.mul_add_mod,Nat.mod_eq_of_lt hm]
   simp only [digs]
   rw [e1,e2,hd]
theorem mem_allT (n k : Nat) (hn : 1 ≤ n) (t : List Int) : t ∈ allT n k ↔ InT n k t:=by
 unfold allT
 rw [List.mem_map]
 constructor
 ·rintro ⟨r,_,rfl⟩;exact digs_in n hn k r
 ·intro h
  obtain ⟨r,hr,hd⟩:=digs_surj n hn k t h
  exact ⟨r,by simpa using hr,hd⟩
theorem allT_tab (n k : Nat) (hn : 1 ≤ n) : Tab n k (allT n k):=⟨allT_up n k hn,fun t h=>(mem_allT n k hn t).1 h⟩
theorem allT_len (n k : Nat) : (allT n k).length = n ^ k:=by simp [allT]
theorem up_ext : ∀ {a b : List (List Int)},Up a → Up b → (∀ t,t ∈ a ↔ t ∈ b) → a = b
 | [],[],_,_,_=>rfl
 | [],y :: b,_,_,h=>by have:=(h y).2 (by simp);simp at this
 | x :: a,[],_,_,h=>by have:=(h x).1 (by simp);simp at this
 | x :: a,y :: b,ha,hb,h=>by
  have ha':=List.pairwise_cons.1 ha
  have hb':=List.pairwise_cons.1 hb
  have irr : ∀ t : List Int,¬ cmpL t t < 0:=fun t=>by rw [cmpL_self];decide
  have asym : ∀ {s t : List Int},cmpL s t < 0 → ¬ cmpL t s < 0:=fun {s t} h k=>irr s (cmpL_trans h k)
  have hxy : x = y:=by
   rcases List.mem_cons.1 ((h x).1 (by simp)) with e | hx
   ·exact e
   ·rcases List.mem_cons.1 ((h y).2 (by simp)) with e | hy
    ·exact e.symm
    ·exact absurd (ha'.1 y hy) (asym (hb'.1 x hx))
  subst hxy
  rw [up_ext ha'.2 hb'.2 fun t=>?_]
  constructor
  ·intro ht
   rcases List.mem_cons.1 ((h t).1 (by simp [ht])) with rfl | h'
   ·exact absurd (ha'.1 t ht) (irr t)
   ·exact h'
  ·intro ht
   rcases List.mem_cons.1 ((h t).2 (by simp [ht])) with rfl | h'
   ·exact absurd (hb'.1 t ht) (irr t)
   ·exact h'
theorem Up.filter {l : List (List Int)} (h : Up l) (p : List Int → Bool) : Up (l.filter p):=List.Pairwise.filter p h
theorem Tab.eq {n k : Nat} {l : List (List Int)} (hn : 1 ≤ n) (h : Tab n k l) : l = (allT n k).filter fun t=>decide (t ∈ l):=by
 refine up_ext h.up ((allT_up n k hn).filter _) fun t=>?_
 rw [List.mem_filter,mem_allT n k hn,decide_eq_true_iff]
 exact ⟨fun ht=>⟨h.el t ht,ht⟩,fun ht=>ht.2⟩
theorem Tab.len {n k : Nat} {l : List (List Int)} (hn : 1 ≤ n) (h : Tab n k l) : l.length ≤ n ^ k:=by
 rw [h.eq hn,← allT_len n k]
 exact List.length_filter_le _ _
theorem Tab.filter {n k : Nat} {l : List (List Int)} (h : Tab n k l) (p : List Int → Bool) : Tab n k (l.filter p) :=
 ⟨h.up.filter p,fun t ht=>h.el t (List.mem_filter.1 ht).1⟩
theorem ddN_mem (l : List (List Int)) : ∀ m,m ≤ l.length → ∀ t,t ∈ ddN l m ↔ t ∈ l.take m
 | 0,_,t=>by simp [ddN]
 | m + 1,hm,t=>by
  have ih:=ddN_mem l m (by omega)
  obtain ⟨x,hx⟩ : ∃ x,l[m]? = some x:=⟨_,List.getElem?_eq_getElem (by omega)⟩
  have hg : l.getD m [] = x:=by simp [hx]
  simp only [ddN]
  rw [List.take_add_one,hx,hg]
  split
  ·rename_i hc
   rw [ih t]
   simp only [Option.toList_some,List.mem_append,List.mem_singleton]
   constructor
   ·exact .inl
   ·rintro (h | rfl)
    ·exact h
    ·obtain ⟨y,hy⟩ : ∃ y,l[m - 1]? = some y:=⟨_,List.getElem?_eq_getElem (by omega)⟩
     have hg2 : l.getD (m - 1) [] = y:=by simp [hy]
     rw [hg2] at hc
     rw [hc.2]
     exact List.mem_of_getElem? (i:=m - 1) (by rw [List.getElem?_take,if_pos (by omega)];exact hy)
  ·simp only [List.mem_append,List.mem_singleton,Option.toList_some,ih t]
theorem ddN_up {l : List (List Int)} (h : Rise l) : ∀ m,m ≤ l.length → Up (ddN l m)
 | 0,_=>List.Pairwise.nil
 | m + 1,hm=>by
  have ih:=ddN_up h m (by omega)
  obtain ⟨x,hx⟩ : ∃ x,l[m]? = some x:=⟨_,List.getElem?_eq_getElem (by omega)⟩
  have hg : l.getD m [] = x:=by simp [hx]
  simp only [ddN]
  rw [hg]
  split
  ·exact ih
  ·rename_i hc
   unfold Up
   rw [List.pairwise_append]
   refine ⟨ih,by simp,fun a ha b hb=>?_⟩
   obtain rfl:=List.mem_singleton.1 hb
   rw [ddN_mem l m (by omega)] at ha
   obtain ⟨j,hj,hja⟩:=mem_take_ex ha
   have h1:=h.get (i:=j) (j:=m) (by omega) hja hx
   rcases Int.lt_or_eq_of_le h1 with h1 | h1
   ·exact h1
   ·exfalso
    have e1:=cmpL_zero h1
    subst e1
    obtain ⟨y,hy⟩ : ∃ y,l[m - 1]? = some y:=⟨_,List.getElem?_eq_getElem (by omega)⟩
    have hg2 : l.getD (m - 1) [] = y:=by simp [hy]
    rw [hg2] at hc
    have h2:=h.get (i:=j) (j:=m - 1) (by omega) hja hy
    have h3:=h.get (i:=m - 1) (j:=m) (by omega) hy hx
    have h4:=cmpL_swap y a
    exact hc ⟨by omega,(cmpL_zero (by omega)).symm⟩
theorem sortT_mem (l : List (List Int)) (t : List Int) : t ∈ sortT l ↔ t ∈ l:=by
 unfold sortT
 rw [ddN_mem _ _ (Nat.le_refl _),List.take_length]
 exact (sortL_perm l).mem_iff
theorem sortT_up (l : List (List Int)) : Up (sortT l):=ddN_up (sortL_pw l) _ (Nat.le_refl _)
theorem sortT_tab {n k : Nat} {l : List (List Int)} (h : ∀ t ∈ l,InT n k t) : Tab n k (sortT l):=⟨sortT_up l,fun t ht=>h t ((sortT_mem l t).1 ht)⟩
theorem cmpL_append : ∀ (a b u v : List Int),a.length = b.length → cmpL (a ++ u) (b ++ v) = if cmpL a b ≠ 0 then cmpL a b else cmpL u v
 | [],[],u,v,_=>by simp [cmpL]
 | a :: l,b :: r,u,v,h=>by
  have ih:=cmpL_append l r u v (by simpa using h)
  simp only [List.cons_append,cmpL]
  by_cases h0 : cmpF a b = 0
  ·simp only [h0,ne_eq,not_true,if_false];rw [ih]
  ·simp only [ne_eq,h0,not_false_eq_true,if_true]
theorem joinF_tab {n i j : Nat} {a b : List (List Int)} (ha : Tab n i a) (hb : Tab n j b) : Tab n (i + j) (joinF a b):=by
 constructor
 ·unfold Up joinF
  have : ∀ l : List (List Int),Up l → (∀ t ∈ l,InT n i t) → Up (l.flatMap fun t=>b.map fun u=>t ++ u):=by
   intro l
   induction l with
   | nil=>intro _ _;exact List.Pairwise.nil
   | cons x l ih =>
    intro hu hel
    have hu':=List.pairwise_cons.1 hu
    rw [List.flatMap_cons]
    unfold Up
    rw [List.pairwise_append]
    refine ⟨?_,ih hu'.2 fun t ht=>hel t (by simp [ht]),?_⟩
    ·rw [List.pairwise_map]
     refine hb.up.imp fun {u v} h=>?_
     rw [cmpL_append _ _ _ _ rfl,cmpL_self];simpa using h
    ·intro p hp q hq
     obtain ⟨u,hu1,rfl⟩:=List.mem_map.1 hp
     obtain ⟨y,hy,hq⟩:=List.mem_flatMap.1 hq
     obtain ⟨v,hv,rfl⟩:=List.mem_map.1 hq
     have hxy:=hu'.1 y hy
     rw [cmpL_append _ _ _ _ (by rw [(hel x (by simp)).1,(hel y (by simp [hy])).1]),if_pos (by omega)]
     exact hxy
  exact this a ha.up ha.el
 ·intro t ht
  unfold joinF at ht
  obtain ⟨x,hx,ht⟩:=List.mem_flatMap.1 ht
  obtain ⟨u,hu,rfl⟩:=List.mem_map.1 ht
  have h1:=ha.el x hx
  have h2:=hb.el u hu
  refine ⟨by rw [List.length_append,h1.1,h2.1],fun y hy=>?_⟩
  rcases List.mem_append.1 hy with hy | hy
  ·exact h1.2 y hy
  ·exact h2.2 y hy
theorem places_in {n k : Nat} {cs : List Int} {t : List Int} (ht : InT n k t) (hc : ∀ c ∈ cs,0 ≤ c ∧ c < k) : InT n cs.length (placesF cs t):=by
 refine ⟨by simp [placesF],fun x hx=>?_⟩
 unfold placesF at hx
 obtain ⟨c,hcm,rfl⟩:=List.mem_map.1 hx
 have:=hc c hcm
 have hl : c.toNat < t.length:=by rw [ht.1];omega
 have : t.getD c.toNat 0 = t[c.toNat]:=by simp [hl]
 rw [this]
 exact ht.2 _ (List.getElem_mem hl)
end Go.AW
namespace Go.AW
open Go
set_option linter.unusedSimpArgs false
set_option linter.unusedVariables false
end Go.AW
namespace Go.AW
open Go Go.Proofs TyTry Go.IntWalk
set_option linter.unusedSimpArgs false
set_option linter.unusedVariables false
set_option maxRecDepth 10000
set_option maxHeartbeats 1000000
theorem sameT_spec (a b : List (List Int)) (ha : a.length ≤ 1000000) (hb' : b.length ≤ 1000000) (hal : ∀ t ∈ a,t.length ≤ 1000000) : ACallsD Try.prog 32 [.sl 1 (tups a),.sl 1 (tups b)] (.b (decide (a = b))):=by
 have tl:=tups_len'
 refine ACalls_of' (n:=27) (rs:=[.tmp 4]) (show Try.prog.funcs[32]? = some Try.f32 by kernel_rfl) rfl rfl rfl (by simp) (by decide +kernel) ?_
 repeat (first | refine nav ?_ | refine bo ?_)
 (refine wr fun K R hK hR=>?_;simp only [go_sem];(try go_ints);(repeat refine And.intro side ?_);(first|refine hK _ ?_|refine hR _ _ ?_);clear hK hR K R)
 repeat (first | refine nav ?_ | refine bo ?_)
 (refine wr fun K R hK hR=>?_;simp only [go_sem,tl];(try go_ints);(try simp only [go_sem,tl]);(repeat refine And.intro side ?_);(first|refine hK _ ?_|refine hR _ _ ?_);clear hK hR K R)
 repeat (first | refine nav ?_ | refine bo ?_)
 refine W_cond (by simp only [go_sem]<;>exact rfl) (fun hb=>?_) (fun hb=>?_)
 ·repeat (first | refine nav ?_ | refine bo ?_)
  (refine wr fun K R hK hR=>?_;simp only [go_sem];(try go_ints);(repeat refine And.intro side ?_);(first|refine hK _ ?_|refine hR _ _ ?_);clear hK hR K R)
  repeat (first | refine nav ?_ | refine bo ?_)
  refine endQ_data (by simp only [go_sem]<;>exact rfl) (Le.of_eq ?_) rfl
  rw [decide_eq_false]
  rintro rfl
  simp at hb
 ·have hl : a.length = b.length:=by simp at hb;omega
  repeat (first | refine nav ?_ | refine bo ?_)
  (refine wr fun K R hK hR=>?_;simp only [go_sem];(try go_ints);(repeat refine And.intro side ?_);(first|refine hK _ ?_|refine hR _ _ ?_);clear hK hR K R)
  repeat (first | refine nav ?_ | refine bo ?_)
  refine W_for 11 27 [5] (fun m t o=>∃ k : Nat,[] = o ∧ t 5 = .i .i64 k ∧ m = a.length - k ∧ k ≤ a.length ∧ (a.drop k = b.drop k ↔ a = b)) a.length ⟨0,rfl,by simp only [go_sem]<;>rfl,by omega,Nat.zero_le _,Iff.rfl⟩ ?_
  rintro m t o ⟨k,rfl,h5,rfl,hk,hi⟩
  repeat (first | refine nav ?_ | refine bo ?_)
  (refine wr fun K R hK hR=>?_;simp only [go_sem,h5,tl];(try go_ints);(try simp only [go_sem,h5,tl]);(repeat refine And.intro side ?_);(first|refine hK _ ?_|refine hR _ _ ?_);clear hK hR K R)
  repeat (first | refine nav ?_ | refine bo ?_)
  refine W_cond (by simp only [go_sem]<;>exact rfl) (fun hb=>?_) (fun hb=>?_)
  ·simp at hb
   obtain ⟨x,hx⟩ : ∃ x,a[k]? = some x:=⟨_,List.getElem?_eq_getElem hb⟩
   obtain ⟨y,hy⟩ : ∃ y,b[k]? = some y:=⟨_,List.getElem?_eq_getElem (by omega)⟩
   have hxl:=hal x (List.mem_of_getElem? hx)
   rw [drop_cons hx,drop_cons hy,List.cons.injEq] at hi
   repeat (first | refine nav ?_ | refine bo ?_)
   (refine W_dreg (by decide +kernel) [] [0,1,2,3,4,5,6,7,8,9] [[],[],[1,0],[0,1,2],[],[],[5,4],[4,5,6],[6,5,4,7,2,1,0,3],[3,0,1,2,7,4,5,6,8]] (by decide +kernel) rfl fun K R hK hR=>?_;simp only [List.filterMap_cons,List.filterMap_nil,List.getElem?_cons_zero,List.getElem?_cons_succ,List.cons_append,List.nil_append];simp only [go_sem,h5,tups_get hx,tups_get hy,tl];(try go_ints);(try simp only [go_sem,h5,tups_get hx,tups_get hy,tl]);(repeat refine And.intro side ?_);(first|refine hK _ ?_|refine hR _ _ ?_);clear hK hR K R)
   refine D_callD (equal_spec x y (by omega)) rfl rfl rfl (by first | (simp only [go_sem]<;>first | exact LeA.refl _ | exact Le.refl _) | exact LeA.refl _) rfl rfl rfl rfl ?_
   (refine D_reg fun K R hK hR=>?_;simp only [go_sem];(try go_ints);(repeat refine And.intro side ?_);(first|refine hK _ ?_|refine hR _ _ ?_);clear hK hR K R)
   repeat (first | refine nav ?_ | refine bo ?_)
   refine W_cond (by simp only [go_sem]<;>exact rfl) (fun hd=>?_) (fun hd=>?_)
   ·repeat (first | refine nav ?_ | refine bo ?_)
    (refine wr fun K R hK hR=>?_;simp only [go_sem];(try go_ints);(repeat refine And.intro side ?_);(first|refine hK _ ?_|refine hR _ _ ?_);clear hK hR K R)
    repeat (first | refine nav ?_ | refine bo ?_)
    refine endQ_data (by simp only [go_sem]<;>exact rfl) (Le.of_eq ?_) rfl
    have hd : x ≠ y:=by simpa using hd
    rw [decide_eq_false]
    exact fun h=>hd (hi.2 h).1
   ·have hd : x = y:=by simpa using hd
    repeat (first | refine nav ?_ | refine bo ?_)
    (refine wr fun K R hK hR=>?_;simp only [go_sem,h5];(try go_ints);(try simp only [go_sem,h5]);(repeat refine And.intro side ?_);(first|refine hK _ ?_|refine hR _ _ ?_);clear hK hR K R)
    refine forQ_normal (a.length - (k + 1)) (by omega) ⟨k + 1,?_⟩
    ((try simp only [go_sem]);(repeat' refine And.intro ?_ ?_)<;>(try first | with_reducible rfl | omega | with_reducible assumption | (simp;done)))
    exact ⟨fun h=>hi.1 ⟨hd,h⟩,fun h=>(hi.2 h).2⟩
  ·simp at hb
   have : k = a.length:=by omega
   subst this
   rw [List.drop_length,List.drop_eq_nil_of_le (by omega)] at hi
   repeat (first | refine nav ?_ | refine bo ?_)
   (refine wr fun K R hK hR=>?_;simp only [go_sem];(try go_ints);(repeat refine And.intro side ?_);(first|refine hK _ ?_|refine hR _ _ ?_);clear hK hR K R)
   repeat (first | refine nav ?_ | refine bo ?_)
   refine endQ_data (by simp only [go_sem]<;>exact rfl) (Le.of_eq ?_) rfl
   rw [decide_eq_true (hi.1 rfl)]
end Go.AW
namespace Go.AW
open Go Go.Proofs TyTry Go.IntWalk
set_option linter.unusedSimpArgs false
set_option linter.unusedVariables false
set_option maxRecDepth 10000
set_option maxHeartbeats 2000000
structure RelD.Wide (r : RelD) : Prop where
 name : r.name.size ≤ 1125899906842624
 len : r.tuples.length ≤ 1125899906842624
 tup : ∀ t ∈ r.tuples,t.length ≤ 1125899906842624
structure StrD.Wide (s : StrD) : Prop where
 len : s.rels.length ≤ 1125899906842624
 rel : ∀ r ∈ s.rels,r.Wide
def sumL (l : List (List Int)) : Nat:=(l.map List.length).sum
theorem sumL_take {l : List (List Int)} {j : Nat} {x : List Int} (h : l[j]? = some x) : sumL (l.take (j + 1)) = sumL (l.take j) + x.length:=by
 unfold sumL
 rw [List.take_add_one,h];simp
theorem sumL_le {l : List (List Int)} {B : Nat} (h : ∀ t ∈ l,t.length ≤ B) : sumL l ≤ l.length * B:=by
 induction l with
 | nil=>simp [sumL]
 | cons x l ih =>
  have h1:=h x (by simp)
  have h2:=ih fun t ht=>h t (by simp [ht])
  have : sumL (x :: l) = x.length + sumL l:=by simp [sumL]
  rw [this,List.length_cons,Nat.succ_mul];omega
theorem sumL_few {l : List (List Int)} {B : Nat} (h : ∀ t ∈ l,t.length ≤ B) (hl : l.length ≤ 1500) (j : Nat) : sumL (l.take j) ≤ 1500 * B:=by
 have h1:=sumL_le (l:=l.take j) (B:=B) fun t ht=>h t (List.mem_of_mem_take ht)
 have h2:=List.length_take_le' j l
 exact Nat.le_trans h1 (Nat.mul_le_mul_right _ (by omega))
def fewGo : List RelD → Nat → Nat → Option Nat
 | [],_,e=>some e
 | r :: l,n,e=>if 1500 < n + r.tuples.length ∨ 1000 < r.name.size then none else fewGo l (n + r.tuples.length) (e + sumL r.tuples)
def fewS (s : StrD) : Bool:=decide (s.rels.length ≤ 12) && (match fewGo s.rels 0 0 with | some e=>decide (e ≤ 20000) | none=>false)
theorem fewGo_ok : ∀ (l : List RelD) (n e : Nat) {x : Nat},fewGo l n e = some x → e ≤ x ∧ ∀ r ∈ l,r.tuples.length ≤ 1500 ∧ r.name.size ≤ 1000 ∧ sumL r.tuples ≤ x
 | [],n,e,x,h=>by
  simp only [fewGo,Option.some.injEq] at h
  exact ⟨by omega,fun r hr=>by cases hr⟩
 | r :: l,n,e,x,h=>by
  simp only [fewGo] at h
  split at h
  ·cases h
  ·rename_i hn
   obtain ⟨h1,h2⟩:=fewGo_ok l _ _ h
   refine ⟨by omega,fun q hq=>?_⟩
   rcases List.mem_cons.1 hq with rfl | hq
   ·exact ⟨by omega,by omega,by omega⟩
   ·exact h2 q hq
theorem sumL_mem {l : List (List Int)} {t : List Int} (h : t ∈ l) : t.length ≤ sumL l:=by
 induction l with
 | nil=>cases h
 | cons x l ih =>
  have : sumL (x :: l) = x.length + sumL l:=by simp [sumL]
  rw [this]
  rcases List.mem_cons.1 h with rfl | h
  ·omega
  ·have:=ih h;omega
theorem fewS_ok {s : StrD} (h : fewS s = true) : s.Ok ∧ s.rels.length ≤ 12:=by
 unfold fewS at h
 rw [Bool.and_eq_true,decide_eq_true_iff] at h
 obtain ⟨h1,h2⟩:=h
 cases hg : fewGo s.rels 0 0 with
 | none=>rw [hg] at h2;cases h2
 | some e =>
  rw [hg] at h2
  have h2 : e ≤ 20000:=by simpa using h2
  obtain ⟨_,h3⟩:=fewGo_ok _ _ _ hg
  refine ⟨⟨by omega,fun r hr=>?_⟩,h1⟩
  obtain ⟨a,b,c⟩:=h3 r hr
  exact ⟨by omega,by omega,fun t ht=>by have:=sumL_mem ht;omega⟩
theorem lfew_spec (s : StrD) (hs : s.Wide) : ACallsD Try.prog 6 [.sl 2 [[.i .i64 s.size,.sl 3 (rels s.rels)]]] (.b (fewS s)):=by
 have tl:=tups_len'
 have hl:=hs.len
 have rl : (rels s.rels).length = s.rels.length:=by simp [rels]
 have hg0 : ([[.i .i64 s.size,.sl 3 (rels s.rels)]] : List (List AV)).getD 0 [] = [.i .i64 s.size,.sl 3 (rels s.rels)]:=rfl
 refine ACalls_of' (n:=89) (rs:=[.tmp 2]) (show Try.prog.funcs[6]? = some Try.f6 by kernel_rfl) rfl rfl rfl (by simp) (by decide +kernel) ?_
 repeat (first | refine nav ?_ | refine bo ?_)
 (refine wr fun K R hK hR=>?_;simp only [go_sem];(try go_ints);(repeat refine And.intro side ?_);(first|refine hK _ ?_|refine hR _ _ ?_);clear hK hR K R)
 repeat (first | refine nav ?_ | refine bo ?_)
 (refine wr fun K R hK hR=>?_;simp only [go_sem];(try go_ints);(repeat refine And.intro side ?_);(first|refine hK _ ?_|refine hR _ _ ?_);clear hK hR K R)
 repeat (first | refine nav ?_ | refine bo ?_)
 (refine wr fun K R hK hR=>?_;simp only [go_sem];(try go_ints);(repeat refine And.intro side ?_);(first|refine hK _ ?_|refine hR _ _ ?_);clear hK hR K R)
 repeat (first | refine nav ?_ | refine bo ?_)
 refine W_for 8 87 [3,4,5,6,7] (fun m t o=>∃ (i e : Nat),[] = o ∧ t 5 = .i .i64 i ∧ t 4 = .i .i64 e ∧ m = 1 - i ∧ i ≤ 1 ∧ (i = 0 ∧ e = 0 ∧ t 3 = .i .i64 0 ∨ i = 1 ∧ fewS s = decide (e ≤ 20000))) 1 ⟨0,0,rfl,by simp only [go_sem]<;>rfl,by simp only [go_sem]<;>rfl,by omega,by omega,.inl ⟨rfl,rfl,by simp only [go_sem]<;>rfl⟩⟩ ?_
 rintro m t o ⟨i,e,rfl,h5,h4,rfl,hi1,hi⟩
 repeat (first | refine nav ?_ | refine bo ?_)
 (refine wr fun K R hK hR=>?_;simp only [go_sem,h5];(try go_ints);(try simp only [go_sem,h5]);(repeat refine And.intro side ?_);(first|refine hK _ ?_|refine hR _ _ ?_);clear hK hR K R)
 repeat (first | refine nav ?_ | refine bo ?_)
 rcases hi with ⟨rfl,rfl,h3⟩ | ⟨rfl,hf⟩
 ·refine W_cond (b:=true) (by simp only [go_sem]<;>first | rfl | simp) (fun _=>?_) (fun hd=>by cases hd)
  repeat (first | refine nav ?_ | refine bo ?_)
  (refine wr fun K R hK hR=>?_;simp only [go_sem,h5,rl];(try go_ints);(try simp only [go_sem,h5,rl]);(repeat refine And.intro side ?_);(first|refine hK _ ?_|refine hR _ _ ?_);clear hK hR K R)
  repeat (first | refine nav ?_ | refine bo ?_)
  refine W_cond (b:=decide (12 < s.rels.length)) (by simp only [go_sem];rw [decide_eq_decide];omega) (fun hd=>?_) (fun hd=>?_)
  ·repeat (first | refine nav ?_ | refine bo ?_)
   (refine wr fun K R hK hR=>?_;simp only [go_sem];(try go_ints);(repeat refine And.intro side ?_);(first|refine hK _ ?_|refine hR _ _ ?_);clear hK hR K R)
   repeat (first | refine nav ?_ | refine bo ?_)
   refine endQ_data (by simp only [go_sem]<;>exact rfl) (Le.of_eq ?_) rfl
   unfold fewS
   rw [decide_eq_false (by simpa using hd)];rfl
  ·have hd : s.rels.length ≤ 12:=by simpa using hd
   have hfs : fewS s = (match fewGo s.rels 0 0 with | some e=>decide (e ≤ 20000) | none=>false):=by unfold fewS;rw [decide_eq_true hd];rfl
   repeat (first | refine nav ?_ | refine bo ?_)
   (refine wr fun K R hK hR=>?_;simp only [go_sem];(try go_ints);(repeat refine And.intro side ?_);(first|refine hK _ ?_|refine hR _ _ ?_);clear hK hR K R)
   repeat (first | refine nav ?_ | refine bo ?_)
   refine W_for 21 87 [3,4,6,7] (fun m t2 o=>∃ (k n e : Nat),[] = o ∧ t2 6 = .i .i64 k ∧ t2 3 = .i .i64 n ∧ t2 4 = .i .i64 e ∧ m = s.rels.length - k ∧ k ≤ s.rels.length ∧ n ≤ 1500 ∧ e ≤ n * 1125899906842624 ∧ fewGo (s.rels.drop k) n e = fewGo s.rels 0 0) s.rels.length ⟨0,0,0,rfl,by simp only [go_sem]<;>rfl,by simp only [go_sem,h3]<;>rfl,by simp only [go_sem,h4]<;>rfl,by omega,by omega,by omega,by omega,rfl⟩ ?_
   rintro m t2 o ⟨k,n,e,rfl,h6,h3',h4',rfl,hk,hn,he,hgo⟩
   repeat (first | refine nav ?_ | refine bo ?_)
   (refine wr fun K R hK hR=>?_;simp only [go_sem,h6,h5,rl];(try go_ints);(try simp only [go_sem,h6,h5,rl]);(repeat refine And.intro side ?_);(first|refine hK _ ?_|refine hR _ _ ?_);clear hK hR K R)
   repeat (first | refine nav ?_ | refine bo ?_)
   refine W_cond (by simp only [go_sem]<;>exact rfl) (fun hb=>?_) (fun hb=>?_)
   ·simp at hb
    obtain ⟨r,hr⟩ : ∃ r,s.rels[k]? = some r:=⟨_,List.getElem?_eq_getElem hb⟩
    have hro:=hs.rel r (List.mem_of_getElem? hr)
    have hr1:=hro.len
    have hr2:=hro.name
    rw [drop_cons hr,fewGo] at hgo
    repeat (first | refine nav ?_ | refine bo ?_)
    (refine wr fun K R hK hR=>?_;simp only [go_sem,h6,h5,h3',rl,rels_get hr,tl];(try go_ints);(try simp only [go_sem,h6,h5,h3',rl,rels_get hr,tl]);(repeat refine And.intro side ?_);(first|refine hK _ ?_|refine hR _ _ ?_);clear hK hR K R)
    repeat (first | refine nav ?_ | refine bo ?_)
    (refine wr fun K R hK hR=>?_;simp only [go_sem,h6,h5,h3',rl,rels_get hr,tl];(try go_ints);(try simp only [go_sem,h6,h5,h3',rl,rels_get hr,tl]);(repeat refine And.intro side ?_);(first|refine hK _ ?_|refine hR _ _ ?_);clear hK hR K R)
    repeat (first | refine nav ?_ | refine bo ?_)
    refine W_cond (b:=decide (1500 < n + r.tuples.length) || decide (1000 < r.name.size)) (by simp only [go_sem];rw [show (decide ((n : Int) + (r.tuples.length : Int) > 1500)) = decide (1500 < n + r.tuples.length) from by rw [decide_eq_decide];omega,show (decide ((r.name.size : Int) > 1000)) = decide (1000 < r.name.size) from by rw [decide_eq_decide];omega]) (fun hd=>?_) (fun hd=>?_)
    ·rw [if_pos (by simpa using hd)] at hgo
     repeat (first | refine nav ?_ | refine bo ?_)
     (refine wr fun K R hK hR=>?_;simp only [go_sem];(try go_ints);(repeat refine And.intro side ?_);(first|refine hK _ ?_|refine hR _ _ ?_);clear hK hR K R)
     repeat (first | refine nav ?_ | refine bo ?_)
     refine endQ_data (by simp only [go_sem]<;>exact rfl) (Le.of_eq ?_) rfl
     rw [hfs,← hgo]
    ·have hd' : ¬ (1500 < n + r.tuples.length ∨ 1000 < r.name.size):=by simpa using hd
     rw [if_neg hd'] at hgo
     have hsum:=sumL_le hro.tup
     have hmul : (n + r.tuples.length) * 1125899906842624 = n * 1125899906842624 + r.tuples.length * 1125899906842624:=Nat.add_mul _ _ _
     repeat (first | refine nav ?_ | refine bo ?_)
     (refine wr fun K R hK hR=>?_;simp only [go_sem];(try go_ints);(repeat refine And.intro side ?_);(first|refine hK _ ?_|refine hR _ _ ?_);clear hK hR K R)
     repeat (first | refine nav ?_ | refine bo ?_)
     refine W_for 58 87 [4,7] (fun m t3 o=>∃ (j : Nat),[] = o ∧ t3 7 = .i .i64 j ∧ t3 4 = .i .i64 ((e + sumL (r.tuples.take j) : Nat) : Int) ∧ m = r.tuples.length - j ∧ j ≤ r.tuples.length) r.tuples.length ⟨0,rfl,by simp only [go_sem]<;>rfl,by simp only [go_sem,h4']<;>simp [sumL],by omega,by omega⟩ ?_
     rintro m t3 o ⟨j,rfl,h7,h43,rfl,hj⟩
     repeat (first | refine nav ?_ | refine bo ?_)
     (refine wr fun K R hK hR=>?_;simp only [go_sem,h7,h6,h5,rl,rels_get hr,tl];(try go_ints);(try simp only [go_sem,h7,h6,h5,rl,rels_get hr,tl]);(repeat refine And.intro side ?_);(first|refine hK _ ?_|refine hR _ _ ?_);clear hK hR K R)
     repeat (first | refine nav ?_ | refine bo ?_)
     refine W_cond (by simp only [go_sem]<;>exact rfl) (fun hb=>?_) (fun hb=>?_)
     ·simp at hb
      have hb2 : j + 1 ≤ r.tuples.length:=hb
      obtain ⟨x,hx⟩ : ∃ x,r.tuples[j]? = some x:=⟨_,List.getElem?_eq_getElem hb⟩
      have hst:=sumL_take hx
      have hxl:=hro.tup x (List.mem_of_getElem? hx)
      have hsj:=sumL_few hro.tup (by omega) j
      have il : (ints x).length = x.length:=by simp [ints]
      repeat (first | refine nav ?_ | refine bo ?_)
      (refine wr fun K R hK hR=>?_;simp only [go_sem,h7,h6,h5,h43,rl,rels_get hr,tl,tups_get hx,il];(try go_ints);(try simp only [go_sem,h7,h6,h5,h43,rl,rels_get hr,tl,tups_get hx,il]);(repeat refine And.intro side ?_);(first|refine hK _ ?_|refine hR _ _ ?_);clear hK hR K R)
      repeat (first | refine nav ?_ | refine bo ?_)
      (refine wr fun K R hK hR=>?_;simp only [go_sem,h7];(try go_ints);(try simp only [go_sem,h7]);(repeat refine And.intro side ?_);(first|refine hK _ ?_|refine hR _ _ ?_);clear hK hR K R)
      refine forQ_normal (r.tuples.length - (j + 1)) (by omega) ⟨j + 1,rfl,by simp only [go_sem]<;>rfl,?_,rfl,hb2⟩
      simp only [go_sem,hst]
      rw [show (e + (sumL (r.tuples.take j) + x.length) : Nat) = e + sumL (r.tuples.take j) + x.length from (Nat.add_assoc _ _ _).symm,Int.natCast_add (e + sumL (r.tuples.take j)) x.length]
     ·simp at hb
      obtain rfl : j = r.tuples.length:=by omega
      rw [List.take_length] at h43
      repeat (first | refine nav ?_ | refine bo ?_)
      (refine wr fun K R hK hR=>?_;simp only [go_sem,h6,mix_mix (lo:=58)];(try go_ints);(try simp only [go_sem,h6,mix_mix (lo:=58)]);(repeat refine And.intro side ?_);(first|refine hK _ ?_|refine hR _ _ ?_);clear hK hR K R)
      refine forQ_normal (s.rels.length - (k + 1)) (by omega) ⟨k + 1,n + r.tuples.length,e + sumL r.tuples,rfl,by simp only [go_sem]<;>rfl,by simp only [go_sem]<;>rfl,by simp only [go_sem,h43],rfl,by omega,by omega,by omega,hgo⟩
   ·simp at hb
    obtain rfl : k = s.rels.length:=by omega
    rw [List.drop_length,fewGo] at hgo
    repeat (first | refine nav ?_ | refine bo ?_)
    (refine wr fun K R hK hR=>?_;simp only [go_sem,h5,mix_mix (lo:=21)];(try go_ints);(try simp only [go_sem,h5,mix_mix (lo:=21)]);(repeat refine And.intro side ?_);(first|refine hK _ ?_|refine hR _ _ ?_);clear hK hR K R)
    refine forQ_normal (1 - (0 + 1)) (by omega) ⟨1,e,rfl,by simp only [go_sem]<;>rfl,by simp only [go_sem,h4'],rfl,by omega,.inr ⟨rfl,?_⟩⟩
    rw [hfs,← hgo]
 ·refine W_cond (b:=false) (by simp only [go_sem]<;>first | rfl | simp) (fun hd=>by cases hd) (fun _=>?_)
  have e1 : decide ((e : Int) ≤ 20000) = decide (e ≤ 20000):=by rw [decide_eq_decide];omega
  repeat (first | refine nav ?_ | refine bo ?_)
  (refine wr fun K R hK hR=>?_;simp only [go_sem,h4,e1];(try go_ints);(try simp only [go_sem,h4,e1]);(repeat refine And.intro side ?_);(first|refine hK _ ?_|refine hR _ _ ?_);clear hK hR K R)
  repeat (first | refine nav ?_ | refine bo ?_)
  refine endQ_data (by simp only [go_sem]<;>exact rfl) (Le.of_eq ?_) rfl
  rw [hf]
end Go.AW
namespace Go.AW
open Go Go.Proofs TyTry
set_option linter.unusedSimpArgs false
set_option linter.unusedVariables false
set_option maxRecDepth 10000
section
variable {H : Type} {w : World} {enc : TypeId × Value → H} {base : Nat} {spare : Nat → Bool} {held : Bool}
theorem read_rel {k : Nat} {cs : List Value} {d : DataW H} {ps : List MemPlace} (h : DataW.trod enc Try.prog w base spare held k 51 cs = some (d,ps)) (hw : Lite 51 d) : ∃ r : RelD,cellsAV Try.prog k 51 d = r.cells ∧ r.Wide:=by
 cases k with
 | zero=>simp [DataW.trod] at h
 | succ k =>
  obtain ⟨parts,h1,h2,h3⟩:=read_fields undRel h hw
  rw [fldsRel] at h1 h2 h3
  match parts,h2 with
  | [a,b,c],_ =>
   obtain ⟨⟨_,_,q0⟩,w0⟩:=h3 0 9 a rfl rfl
   obtain ⟨⟨_,_,q1⟩,w1⟩:=h3 1 3 b rfl rfl
   obtain ⟨⟨_,_,q2⟩,w2⟩:=h3 2 49 c rfl rfl
   obtain ⟨x,ex,bx⟩:=read_str q0 w0
   obtain ⟨n,en⟩:=read_int q1
   obtain ⟨l,el,bl,bt⟩:=read_tups q2 w2
   have hrb : reachBytes ≤ 1125899906842624:=by decide
   refine ⟨⟨x,n,l⟩,?_,⟨Nat.le_trans bx hrb,Nat.le_trans bl hrb,fun t ht=>Nat.le_trans (bt t ht) hrb⟩⟩
   rw [h1]
   simp only [List.zip_cons_cons,List.zip_nil_right,List.flatMap_cons,List.flatMap_nil,ex,en,el]
   rfl
theorem read_stru {k : Nat} {cs : List Value} {d : DataW H} {ps : List MemPlace} (h : DataW.trod enc Try.prog w base spare held k 25 cs = some (d,ps)) (hw : Lite 25 d) :
  ∃ s : StrD,cellsAV Try.prog k 25 d = [.i .i64 s.size,.sl 3 (rels s.rels)] ∧ s.Wide:=by
 cases k with
 | zero=>simp [DataW.trod] at h
 | succ k =>
  obtain ⟨parts,h1,h2,h3⟩:=read_fields undStru h hw
  rw [fldsStru] at h1 h2 h3
  match parts,h2 with
  | [a,b],_ =>
   obtain ⟨⟨_,_,q0⟩,w0⟩:=h3 0 3 a rfl rfl
   obtain ⟨⟨_,_,q1⟩,w1⟩:=h3 1 23 b rfl rfl
   obtain ⟨n,en⟩:=read_int q0
   cases k with
   | zero=>simp [DataW.trod] at q1
   | succ k =>
    obtain ⟨elems,g1,g2,g3⟩:=read_sl undRels (by decide +kernel) q1 w1
    obtain ⟨r,e1,e2,e3⟩:=read_map (F:=fun x=>cellsAV Try.prog k 51 x) (G:=RelD.cells) (Pr:=RelD.Wide) (l:=elems) fun x hx=>by
     obtain ⟨⟨cells,q,hq⟩,hl⟩:=g3 x hx
     exact read_rel hq hl
    have hrb : reachBytes ≤ 1125899906842624:=by decide
    refine ⟨⟨n,r⟩,?_,⟨by simp only;omega,fun q hq=>?_⟩⟩
    ·rw [h1]
     simp only [List.zip_cons_cons,List.zip_nil_right,List.flatMap_cons,List.flatMap_nil,en,g1,e1,sz51]
     rfl
    ·exact e3 q hq
end
end Go.AW
namespace Go.AW
open Go Go.Proofs TyTry
set_option linter.unusedSimpArgs false
set_option linter.unusedVariables false
set_option maxRecDepth 10000
theorem undU8 : Try.prog.underlying 5 = some (.int .u8):=by kernel_rfl
theorem undNum : Try.prog.underlying 27 = some (.struct (fldsOf Try.prog 27)):=by kernel_rfl
theorem fldsNum : (fldsOf Try.prog 27).toList.map (·.type) = [5,5,5,5]:=by kernel_rfl
section
variable {H : Type} {w : World} {enc : TypeId × Value → H} {base : Nat} {spare : Nat → Bool} {held : Bool}
theorem read_u8 {k : Nat} {cs : List Value} {d : DataW H} {ps : List MemPlace} (h : DataW.trod enc Try.prog w base spare held k 5 cs = some (d,ps)) : ∃ n,cellsAV Try.prog k 5 d = [.i .u8 n] ∧ 0 ≤ n ∧ n ≤ 255:=by
 cases k with
 | zero=>simp [DataW.trod] at h
 | succ k =>
  unfold DataW.trod at h
  rw [undU8] at h
  rcases cs with _ | ⟨v,_ | ⟨v2,r⟩⟩
  ·simp at h
  ·cases v<;>simp at h
   obtain ⟨⟨rfl,hb⟩,rfl,_⟩:=h
   simp only [Lit.wf,Bool.and_eq_true,decide_eq_true_eq] at hb
   refine ⟨_,by simp only [cellsAV,undU8];exact rfl,?_,?_⟩
   ·have h0 : IntKind.u8.min = 0:=by decide
    have:=hb.1;omega
   ·have h0 : IntKind.u8.max = 255:=by decide
    have:=hb.2;omega
  ·simp at h
theorem read_num {k : Nat} {cs : List Value} {d : DataW H} {ps : List MemPlace} (h : DataW.trod enc Try.prog w base spare held k 27 cs = some (d,ps)) (hw : Lite 27 d) :
  ∃ nA nB nC nD : Int,cellsAV Try.prog k 27 d = [.i .u8 nA,.i .u8 nB,.i .u8 nC,.i .u8 nD] ∧ (0 ≤ nA ∧ nA ≤ 255) ∧ (0 ≤ nB ∧ nB ≤ 255) ∧ (0 ≤ nC ∧ nC ≤ 255) ∧ (0 ≤ nD ∧ nD ≤ 255):=by
 cases k with
 | zero=>simp [DataW.trod] at h
 | succ k =>
  obtain ⟨parts,h1,h2,h3⟩:=read_fields undNum h hw
  rw [fldsNum] at h1 h2 h3
  match parts,h2 with
  | [a,b,c,d],_ =>
   obtain ⟨⟨_,_,q0⟩,_⟩:=h3 0 5 a rfl rfl
   obtain ⟨⟨_,_,q1⟩,_⟩:=h3 1 5 b rfl rfl
   obtain ⟨⟨_,_,q2⟩,_⟩:=h3 2 5 c rfl rfl
   obtain ⟨⟨_,_,q3⟩,_⟩:=h3 3 5 d rfl rfl
   obtain ⟨x0,e0,b0⟩:=read_u8 q0
   obtain ⟨x1,e1,b1⟩:=read_u8 q1
   obtain ⟨x2,e2,b2⟩:=read_u8 q2
   obtain ⟨x3,e3,b3⟩:=read_u8 q3
   refine ⟨x0,x1,x2,x3,?_,b0,b1,b2,b3⟩
   rw [h1]
   simp only [List.zip_cons_cons,List.zip_nil_right,List.flatMap_cons,List.flatMap_nil,e0,e1,e2,e3]
   rfl
theorem read_plans {k : Nat} {cs : List Value} {d : DataW H} {ps : List MemPlace} (h : DataW.trod enc Try.prog w base spare held k 22 cs = some (d,ps)) (hw : Lite 22 d) :
  ∃ l : List PlanD,cellsAV Try.prog k 22 d = [.sl 7 (plans l)] ∧ (∀ p ∈ l,p.Ok) ∧ l.length ≤ 1125899906842624:=by
 cases k with
 | zero=>simp [DataW.trod] at h
 | succ k =>
  obtain ⟨elems,g1,g2,g3⟩:=read_sl undPlans (by decide +kernel) h hw
  obtain ⟨r,f1,f2,f3⟩:=read_map (F:=fun x=>cellsAV Try.prog k 34 x) (G:=PlanD.cells) (Pr:=PlanD.Ok) (l:=elems) fun x hx=>by
   obtain ⟨⟨cells,q,hq⟩,hl⟩:=g3 x hx
   exact read_plan k hq hl
  have hrb : reachBytes ≤ 1125899906842624:=by decide
  exact ⟨r,by rw [g1,f1,sz34];rfl,f3,by omega⟩
end
theorem plainU8 (k : Nat) : plainT Try.prog k 5 = true:=by
 cases k with
 | zero=>rfl
 | succ k=>unfold plainT;rw [undU8];exact (by decide +kernel : decide (Try.prog.cellsOf 5 = 1) = true)
theorem plainNum (k : Nat) : plainT Try.prog k 27 = true:=plainStruct undNum (by decide +kernel) (fun k e he=>by
 rw [fldsNum] at he
 simp only [List.mem_cons,List.not_mem_nil,or_false] at he
 rcases he with rfl | rfl | rfl | rfl
 ·exact plainU8 k
 ·exact plainU8 k
 ·exact plainU8 k
 ·exact plainU8 k) k
end Go.AW
namespace Go.AW
open Go
set_option linter.unusedSimpArgs false
set_option linter.unusedVariables false
instance : LawfulBEq ByteArray where
 eq_of_beq {a b} h:=by
  cases a;cases b
  rename_i x y
  have h : (x == y) = true:=h
  rw [beq_iff_eq] at h;rw [h]
 rfl {a}:=by
  cases a;rename_i x
  show (x == x) = true
  simp
def badN (x : ByteArray × Int) (ws : Names) : Bool:=match lookN x.1 ws with | some n=>n != x.2 | none=>false
def addN (ws : Names) : Names → Option Names
 | []=>some ws
 | x :: r=>if badN x ws = true then none else addN (setN x.1 x.2 ws) r
theorem addN_append (l r : Names) : ∀ ws,addN ws (l ++ r) = (addN ws l).bind fun ws'=>addN ws' r:=by
 induction l with
 | nil=>intro ws;rfl
 | cons x l ih =>
  intro ws
  simp only [List.cons_append,addN]
  split
  ·rfl
  ·exact ih _
theorem lookN_setN (a b : ByteArray) (w : Int) : ∀ ws : Names,lookN a (setN b w ws) = if a = b then some w else lookN a ws
 | []=>by
  simp only [setN,lookN]
  by_cases h : a = b
  ·simp [h]
  ·rw [if_neg h,if_neg (by simpa using h)]
 | x :: r=>by
  simp only [setN]
  by_cases hb : b = x.1
  ·rw [if_pos (by simpa using hb)]
   simp only [lookN]
   by_cases h : a = b
   ·simp [h]
   ·rw [if_neg h,if_neg (by simpa using h),if_neg (by simpa using fun e : a = x.1=>h (e.trans hb.symm))]
  ·rw [if_neg (by simpa using hb)]
   simp only [lookN]
   by_cases h : a = x.1
   ·rw [if_pos (by simpa using h),if_neg (fun e=>hb (e.symm.trans h)),if_pos (by simpa using h)]
   ·rw [if_neg (by simpa using h),lookN_setN a b w r]
    split
    ·rfl
    ·rw [if_neg (by simpa using h)]
theorem addN_some : ∀ (l ws : Names),(addN ws l).isSome = true ↔ (∀ x ∈ l,∀ v,lookN x.1 ws = some v → v = x.2) ∧ l.Pairwise fun x y=>x.1 = y.1 → x.2 = y.2
 | [],ws=>by simp [addN]
 | x :: r,ws=>by
  simp only [addN,List.pairwise_cons]
  constructor
  ·intro h
   split at h
   ·cases h
   ·rename_i hc
    have hx : ∀ v,lookN x.1 ws = some v → v = x.2:=by
     intro v hv
     unfold badN at hc
     rw [hv] at hc
     simpa using hc
    obtain ⟨h1,h2⟩:=(addN_some r _).1 h
    refine ⟨fun y hy v hv=>?_,fun y hy e=>?_,h2⟩
    ·rcases List.mem_cons.1 hy with rfl | hy
     ·exact hx v hv
     ·by_cases e : y.1 = x.1
      ·have:=h1 y hy x.2 (by rw [lookN_setN,if_pos e])
       rw [← this];exact hx v (e ▸ hv)
      ·exact h1 y hy v (by rw [lookN_setN,if_neg e];exact hv)
    ·exact h1 y hy x.2 (by rw [lookN_setN,if_pos e.symm])
  ·rintro ⟨h1,h2,h3⟩
   rw [if_neg]
   ·refine (addN_some r _).2 ⟨fun y hy v hv=>?_,h3⟩
    rw [lookN_setN] at hv
    split at hv
    ·rename_i e
     rw [← Option.some.inj hv];exact h2 y hy e.symm
    ·exact h1 y (by simp [hy]) v hv
   ·have:=h1 x (by simp)
    unfold badN
    cases hv : lookN x.1 ws with
    | none=>simp
    | some v=>simp [this v hv]
theorem clash_iff (l : Names) (i k : Nat) (hi : i < l.length) (hk : k < l.length) : clash l i k = true ↔ l[k].1 = l[i].1 ∧ l[k].2 ≠ l[i].2:=by
 unfold clash
 simp only [List.getD_eq_getElem?_getD,List.getElem?_eq_getElem hi,List.getElem?_eq_getElem hk,Option.getD_some,Bool.and_eq_true,beq_iff_eq,bne_iff_ne,ByteArray.toList_eq]
 constructor
 ·rintro ⟨h,h'⟩
  exact ⟨ByteArray.ext (Array.ext' h),h'⟩
 ·rintro ⟨h,h'⟩
  exact ⟨by rw [h],h'⟩
theorem oneW_iff (l : Names) : oneW l = true ↔ l.Pairwise fun x y=>x.1 = y.1 → x.2 = y.2:=by
 rw [List.pairwise_iff_getElem]
 unfold oneW
 simp only [List.all_eq_true,List.mem_range,Bool.not_eq_true']
 constructor
 ·intro h k i hk hi hki e
  have:=h i hi k hki
  rw [← Bool.not_eq_true,clash_iff l i k hi hk] at this
  exact Decidable.byContradiction fun hne=>this ⟨e,hne⟩
 ·intro h i hi k hki
  rw [← Bool.not_eq_true,clash_iff l i k hi (by omega)]
  rintro ⟨e,hne⟩
  exact hne (h k i (by omega) hi hki e)
theorem addN_oneW (l : Names) : (addN [] l).isSome = oneW l:=by
 rw [Bool.eq_iff_iff,addN_some,oneW_iff]
 simp [lookN]
theorem widthsR_cases (l : List PlanD) : widthsR l = if l.all (fun q=>decide (0 ≤ widthR q)) then some (l.map widthR) else none:=by
 by_cases h : ∀ q ∈ l,¬ widthR q < 0
 ·rw [widthsR_some h,if_pos]
  rw [List.all_eq_true]
  intro q hq
  have:=h q hq
  simp;omega
 ·have : ∃ q ∈ l,widthR q < 0:=by
   apply Decidable.byContradiction
   intro hn
   exact h fun q hq hlt=>hn ⟨q,hq,hlt⟩
  obtain ⟨q,hq,hlt⟩:=this
  rw [widthsR_none hq hlt,if_neg]
  rw [List.all_eq_true]
  intro hall
  have:=hall q hq
  simp at this;omega
end Go.AW
namespace Go.AW
open Go
set_option linter.unusedSimpArgs false
set_option linter.unusedVariables false
def lawF (p : PlanD) (lv n : Nat) (ws : Names) : Option (Int × Nat × Names) :=
 if n + cntF p ≤ 4000 ∧ lv + deepF p ≤ 1001 ∧ 0 ≤ widthR p then (addN ws (symsF p)).map fun ws'=>(widthR p,n + cntF p,ws') else none
def lawL (l : List PlanD) (lv n : Nat) (ws : Names) : Option (List Int × Nat × Names) :=
 if n + cntL l ≤ 4000 ∧ lv + deepL l ≤ 1001 ∧ l.all (fun q=>decide (0 ≤ widthR q)) = true then (addN ws (symsL l)).map fun ws'=>(l.map widthR,n + cntL l,ws') else none
theorem walkL_law {lv : Nat} : ∀ (l : List PlanD),(∀ q ∈ l,∀ n ws,n ≤ 4000 → walkF q lv n ws = lawF q lv n ws) → ∀ n ws,n ≤ 4000 → lv ≤ 1001 → walkL l lv n ws = lawL l lv n ws
 | [],_,n,ws,hn,hlv=>by
  unfold lawL
  rw [if_pos (by simp [cntL,deepL];omega)]
  simp [walkL,symsL,addN,cntL]
 | p :: r,h,n,ws,hn,hlv=>by
  simp only [walkL]
  rw [h p (by simp) n ws hn]
  unfold lawF lawL
  simp only [cntL,deepL,symsL,List.all_cons,List.map_cons,Bool.and_eq_true,decide_eq_true_eq,addN_append]
  by_cases hc : n + cntF p ≤ 4000 ∧ lv + deepF p ≤ 1001 ∧ 0 ≤ widthR p
  ·rw [if_pos hc]
   cases ha : addN ws (symsF p) with
   | none=>simp
   | some ws' =>
    simp only [Option.map_some,Option.bind_some]
    rw [walkL_law r (fun q hq=>h q (by simp [hq])) _ ws' (by omega) hlv]
    unfold lawL
    by_cases hd : n + cntF p + cntL r ≤ 4000 ∧ lv + deepL r ≤ 1001 ∧ (r.all fun q=>decide (0 ≤ widthR q)) = true
    ·rw [if_pos hd,if_pos ⟨by omega,by omega,hc.2.2,hd.2.2⟩]
     cases addN ws' (symsL r) with
     | none=>rfl
     | some ws2=>simp only [Option.map_some];rw [show n + cntF p + cntL r = n + (cntF p + cntL r) by omega]
    ·rw [if_neg hd,if_neg (fun hh=>hd ⟨by omega,by omega,hh.2.2.2⟩)]
  ·rw [if_neg hc,if_neg (fun hh=>hc ⟨by omega,by omega,hh.2.2.1⟩)]
theorem capW_eq (x : Int) : (0 ≤ capW x ↔ 0 ≤ x ∧ x ≤ 12) ∧ (0 ≤ x ∧ x ≤ 12 → capW x = x):=by
 unfold capW
 constructor
 ·split<;>omega
 ·intro h;rw [if_neg (by omega)]
theorem node_law (p : PlanD) (ws : List Int) (hw : ∀ x ∈ ws,0 ≤ x ∧ x ≤ 12) (hl : ws.length = p.kids.length) (m : Names) (h1 : ¬ (decide (p.kind < 0) || decide (p.kind ≥ 8) || !spareF p || ((p.kids.length : Int) != kidsF p.kind)) = true) :
  finF p ws m = if 0 ≤ capW (outF p ws) then (addN m (if p.kind = 0 then [(p.name,p.width)] else [])).map fun m'=>(capW (outF p ws),m') else none:=by
 simp only [Bool.or_eq_true,Bool.not_eq_true',not_or,decide_eq_true_eq,Bool.not_eq_false,bne_iff_ne,ne_eq,Decidable.not_not] at h1
 obtain ⟨⟨⟨k0,k8⟩,hs⟩,hk⟩:=h1
 have hcap:=capW_eq (outF p ws)
 have fin : ∀ (w : Int) (m' : Names),outF p ws = w → (if (false || decide (w < 0) || decide (w > 12)) = true then none else some (w,m')) = if 0 ≤ capW (outF p ws) then some (capW (outF p ws),m') else none:=by
  rintro w m' rfl
  by_cases hc : 0 ≤ outF p ws ∧ outF p ws ≤ 12
  ·rw [if_pos (hcap.1.2 hc),hcap.2 hc,if_neg (by simp;omega)]
  ·rw [if_neg (fun h=>hc (hcap.1.1 h)),if_pos (by simp;omega)]
 have finB : ∀ (w : Int) (m' : Names),outF p ws = -1 → (if (true || decide (w < 0) || decide (w > 12)) = true then none else some (w,m')) = if 0 ≤ capW (outF p ws) then some (capW (outF p ws),m') else none:=by
  intro w m' h
  have : ¬ 0 ≤ capW (outF p ws):=fun h2=>by have:=hcap.1.1 h2;omega
  rw [if_pos (by simp),if_neg this]
 have hkk : p.kind = 0 ∨ p.kind = 1 ∨ p.kind = 2 ∨ p.kind = 3 ∨ p.kind = 4 ∨ p.kind = 5 ∨ p.kind = 6 ∨ p.kind = 7:=by omega
 unfold spareF at hs
 simp only [Bool.and_eq_true,Bool.or_eq_true,beq_iff_eq,decide_eq_true_eq] at hs
 obtain ⟨⟨⟨s1,s2⟩,s3⟩,s4⟩:=hs
 have one : p.kids.length = 1 → ∃ a,ws = [a]:=fun h=>List.length_eq_one_iff.1 (by omega)
 have two : p.kids.length = 2 → ∃ a b,ws = [a,b]:=fun h=>by
  have h2 : ws.length = 2:=by omega
  match ws,h2 with
  | [a,b],_=>exact ⟨a,b,rfl⟩
 rcases hkk with e | e | e | e | e | e | e | e
 ·have hk0 : p.kids.length = 0:=by rw [e] at hk;have : kidsF 0 = 0:=rfl;omega
  obtain rfl : ws = []:=List.length_eq_zero_iff.1 (by omega)
  have hij : p.i = 0 ∧ p.j = 0:=by omega
  have hc : p.cols.length = 0:=by omega
  have ho : outF p [] = if nameF p.name = true then p.width else -1:=by
   unfold outF
   simp [e,hij,hc]
  have hf : finF p [] m = if ((!nameF p.name || badN (p.name,p.width) m) || decide (p.width < 0) || decide (p.width > 12)) = true then none else some (p.width,setN p.name p.width m):=by
   unfold finF
   simp only
   rw [if_pos e];rfl
  rw [hf,if_pos e]
  simp only [addN]
  cases hn : nameF p.name
  ·rw [hn] at ho
   simp only [Bool.not_false,Bool.true_or]
   have : ¬ 0 ≤ capW (outF p []):=fun h2=>by have:=hcap.1.1 h2;simp at ho;omega
   rw [if_neg this,if_pos trivial]
  ·rw [hn] at ho
   simp only [if_true] at ho
   simp only [Bool.not_true,Bool.false_or]
   cases hbb : badN (p.name,p.width) m
   ·rw [fin p.width (setN p.name p.width m) ho]
    simp
   ·simp
 ·have hk0 : p.kids.length = 0:=by rw [e] at hk;have : kidsF 1 = 0:=rfl;omega
  obtain rfl : ws = []:=List.length_eq_zero_iff.1 (by omega)
  have hij : p.i = 0 ∧ p.j = 0:=by omega
  have hc : p.cols.length = 0:=by omega
  have hn : p.name.size = 0:=by omega
  have ho : outF p [] = p.width:=by
   unfold outF
   simp [e,hij,hc,hn]
  unfold finF
  simp only [e]
  have:=fin p.width m ho
  simpa [addN] using this
 ·obtain ⟨a,rfl⟩:=one (by rw [e] at hk;have : kidsF 2 = 1:=rfl;omega)
  have hc : p.cols.length = 0:=by omega
  have hn : p.name.size = 0:=by omega
  have hw0 : p.width = 0:=by omega
  have ho : outF p [a] = if insideF a [p.i,p.j] = true then a else -1:=by
   unfold outF
   simp [e,hc,hn,hw0]
  unfold finF
  simp only [e]
  cases hin : insideF a [p.i,p.j]
  ·rw [hin] at ho
   have:=finB a m (by simpa using ho)
   simpa [addN,hin] using this
  ·rw [hin] at ho
   have:=fin a m (by simpa using ho)
   simpa [addN,hin] using this
 ·obtain ⟨a,rfl⟩:=one (by rw [e] at hk;have : kidsF 3 = 1:=rfl;omega)
  have hc : p.cols.length = 0:=by omega
  have hn : p.name.size = 0:=by omega
  have hw0 : p.width = 0:=by omega
  have ho : outF p [a] = if insideF a [p.i,p.j] = true then a else -1:=by
   unfold outF
   simp [e,hc,hn,hw0]
  unfold finF
  simp only [e]
  cases hin : insideF a [p.i,p.j]
  ·rw [hin] at ho
   have:=finB a m (by simpa using ho)
   simpa [addN,hin] using this
  ·rw [hin] at ho
   have:=fin a m (by simpa using ho)
   simpa [addN,hin] using this
 ·obtain ⟨a,b,rfl⟩:=two (by rw [e] at hk;have : kidsF 4 = 2:=rfl;omega)
  have hij : p.i = 0 ∧ p.j = 0:=by omega
  have hc : p.cols.length = 0:=by omega
  have hn : p.name.size = 0:=by omega
  have hw0 : p.width = 0:=by omega
  have ho : outF p [a,b] = a + b:=by
   unfold outF
   simp [e,hij,hc,hn,hw0]
  unfold finF
  simp only [e]
  have:=fin (a + b) m ho
  simpa [addN] using this
 ·obtain ⟨a,rfl⟩:=one (by rw [e] at hk;have : kidsF 5 = 1:=rfl;omega)
  have hij : p.i = 0 ∧ p.j = 0:=by omega
  have hn : p.name.size = 0:=by omega
  have hw0 : p.width = 0:=by omega
  have ho : outF p [a] = if insideF a p.cols = true then (p.cols.length : Int) else -1:=by
   unfold outF
   simp [e,hij,hn,hw0]
  unfold finF
  simp only [e]
  cases hin : insideF a p.cols
  ·rw [hin] at ho
   have:=finB p.cols.length m (by simpa using ho)
   simpa [addN,hin] using this
  ·rw [hin] at ho
   have:=fin p.cols.length m (by simpa using ho)
   simpa [addN,hin] using this
 ·obtain ⟨a,b,rfl⟩:=two (by rw [e] at hk;have : kidsF 6 = 2:=rfl;omega)
  have hij : p.i = 0 ∧ p.j = 0:=by omega
  have hc : p.cols.length = 0:=by omega
  have hn : p.name.size = 0:=by omega
  have hw0 : p.width = 0:=by omega
  have ho : outF p [a,b] = if a = b then a else -1:=by
   unfold outF
   simp [e,hij,hc,hn,hw0]
  unfold finF
  simp only [e]
  by_cases hab : a = b
  ·have:=fin a m (by rw [ho,if_pos hab])
   simpa [addN,hab] using this
  ·have:=finB a m (by rw [ho,if_neg hab])
   simpa [addN,hab] using this
 ·obtain ⟨a,b,rfl⟩:=two (by rw [e] at hk;have : kidsF 7 = 2:=rfl;omega)
  have hij : p.i = 0 ∧ p.j = 0:=by omega
  have hc : p.cols.length = 0:=by omega
  have hn : p.name.size = 0:=by omega
  have hw0 : p.width = 0:=by omega
  have ho : outF p [a,b] = if a = b then a else -1:=by
   unfold outF
   simp [e,hij,hc,hn,hw0]
  unfold finF
  simp only [e]
  by_cases hab : a = b
  ·have:=fin a m (by rw [ho,if_pos hab])
   simpa [addN,hab] using this
  ·have:=finB a m (by rw [ho,if_neg hab])
   simpa [addN,hab] using this
theorem node_bad (p : PlanD) (ws : List Int) (hl : ws.length = p.kids.length) (h1 : (decide (p.kind < 0) || decide (p.kind ≥ 8) || !spareF p || ((p.kids.length : Int) != kidsF p.kind)) = true) : outF p ws = -1:=by
 have key : ∀ {b : Bool} {x y : Int},b = false → (if b = true then x else y) = y:=by rintro b x y rfl;rfl
 unfold outF
 have hk0 : p.kind = 0 → kidsF p.kind = 0:=fun e=>by rw [e];rfl
 have hk1 : p.kind = 1 → kidsF p.kind = 0:=fun e=>by rw [e];rfl
 have hk2 : p.kind = 2 → kidsF p.kind = 1:=fun e=>by rw [e];rfl
 have hk3 : p.kind = 3 → kidsF p.kind = 1:=fun e=>by rw [e];rfl
 have hk4 : p.kind = 4 → kidsF p.kind = 2:=fun e=>by rw [e];rfl
 have hk5 : p.kind = 5 → kidsF p.kind = 1:=fun e=>by rw [e];rfl
 have hk6 : p.kind = 6 → kidsF p.kind = 2:=fun e=>by rw [e];rfl
 have hk7 : p.kind = 7 → kidsF p.kind = 2:=fun e=>by rw [e];rfl
 simp only [Bool.or_eq_true,Bool.not_eq_true',decide_eq_true_eq,bne_iff_ne,ne_eq] at h1
 unfold spareF at h1
 rw [key,key,key,key,key,key]
 all_goals
  rw [← Bool.not_eq_true]
  intro hc
  simp only [Bool.and_eq_true,Bool.or_eq_true,beq_iff_eq,Bool.not_eq_true',decide_eq_false_iff_not,bne_eq_false_iff_eq,Bool.or_eq_false_iff,Bool.not_not,decide_eq_true_eq] at hc
  simp only [Bool.and_eq_false_iff,Bool.or_eq_false_iff,beq_eq_false_iff_ne,decide_eq_false_iff_not] at h1
  omega
theorem walkF_law : ∀ (p : PlanD) (lv n : Nat) (ws : Names),n ≤ 4000 → walkF p lv n ws = lawF p lv n ws :=
 PlanD.ind fun p ih lv n ws hn=>by
  rw [walkF_eq]
  have hbad : badF p lv (n + 1) = ((decide (p.kind < 0) || decide (p.kind ≥ 8) || !spareF p || ((p.kids.length : Int) != kidsF p.kind)) || (decide (((n + 1 : Nat) : Int) > 4000) || decide ((lv : Int) > 1000))):=by
   unfold badF
   cases decide (p.kind < 0)<;>cases decide (p.kind ≥ 8)<;>cases decide (((n + 1 : Nat) : Int) > 4000)<;>cases decide ((lv : Int) > 1000)<;>cases spareF p<;>cases ((p.kids.length : Int) != kidsF p.kind)<;>rfl
  have hcp:=cntF_eq p
  have hdp:=deepF_eq p
  cases hnb : (decide (((n + 1 : Nat) : Int) > 4000) || decide ((lv : Int) > 1000))
  ·simp only [Bool.or_eq_false_iff,decide_eq_false_iff_not] at hnb
   rw [hbad]
   have hnb2 : (decide (((n + 1 : Nat) : Int) > 4000) || decide ((lv : Int) > 1000)) = false:=by simp only [Bool.or_eq_false_iff,decide_eq_false_iff_not];exact hnb
   rw [hnb2,Bool.or_false]
   have hw:=widthR_eq p
   rw [widthsR_cases] at hw
   cases hst : (decide (p.kind < 0) || decide (p.kind ≥ 8) || !spareF p || ((p.kids.length : Int) != kidsF p.kind))
   ·simp only [Bool.false_eq_true,if_false]
    rw [walkL_law p.kids (fun q hq n ws hn=>ih q hq (lv + 1) n ws hn) _ _ (by omega) (by omega)]
    unfold lawL lawF
    have hsym : symsF p = symsL p.kids ++ (if p.kind = 0 then [(p.name,p.width)] else []):=by
     rw [symsF_eq]
     split
     ·rename_i e
      have : p.kids = []:=by
       simp only [Bool.or_eq_false_iff,bne_eq_false_iff_eq] at hst
       have h0 : kidsF 0 = 0:=rfl
       rw [e] at hst
       exact List.length_eq_zero_iff.1 (by omega)
      rw [this];simp [symsL]
     ·simp
    by_cases hall : (p.kids.all fun q=>decide (0 ≤ widthR q)) = true
    ·rw [if_pos hall] at hw
     simp only at hw
     have hwb : ∀ x ∈ p.kids.map widthR,0 ≤ x ∧ x ≤ 12:=by
      intro x hx
      obtain ⟨q,hq,rfl⟩:=List.mem_map.1 hx
      have:=List.all_eq_true.1 hall q hq
      simp only [decide_eq_true_eq] at this
      exact ⟨this,(widthR_le q).2⟩
     have hnl:=fun m=>node_law p (p.kids.map widthR) hwb (by simp) m (by rw [hst];simp)
     rw [hsym,addN_append]
     by_cases hc : n + 1 + cntL p.kids ≤ 4000 ∧ lv + 1 + deepL p.kids ≤ 1001
     ·rw [if_pos ⟨hc.1,hc.2,hall⟩]
      cases ha : addN ws (symsL p.kids) with
      | none=>simp
      | some m =>
       simp only [Option.map_some,Option.bind_some]
       rw [hnl m,← hw]
       by_cases h0 : 0 ≤ widthR p
       ·rw [if_pos h0,if_pos (show n + cntF p ≤ 4000 ∧ lv + deepF p ≤ 1001 ∧ 0 ≤ widthR p from ⟨by omega,by omega,h0⟩)]
        cases addN m (if p.kind = 0 then [(p.name,p.width)] else []) with
        | none=>rfl
        | some m2=>simp only [Option.map_some];rw [show n + 1 + cntL p.kids = n + cntF p by omega]
       ·rw [if_neg h0,if_neg (show ¬ (n + cntF p ≤ 4000 ∧ lv + deepF p ≤ 1001 ∧ 0 ≤ widthR p) from fun hh=>h0 hh.2.2)]
     ·rw [if_neg (fun hh=>hc ⟨hh.1,hh.2.1⟩),if_neg (show ¬ (n + cntF p ≤ 4000 ∧ lv + deepF p ≤ 1001 ∧ 0 ≤ widthR p) from fun hh=>hc ⟨by omega,by omega⟩)]
    ·rw [if_neg (fun hh=>hall hh.2.2),if_neg]
     rw [if_neg hall] at hw
     simp only at hw
     omega
   ·simp only [if_true]
    unfold lawF
    rw [if_neg]
    rintro ⟨_,_,h0⟩
    rw [hw] at h0
    split at h0
    ·omega
    ·rename_i l hl
     split at hl
     ·obtain rfl:=Option.some.inj hl
      rw [node_bad p _ (by simp) hst] at h0
      simp [capW] at h0
     ·cases hl
  ·have hnb2 : ¬ ((n + 1 : Nat) : Int) ≤ 4000 ∨ ¬ (lv : Int) ≤ 1000:=by
    simp only [Bool.or_eq_true,decide_eq_true_eq] at hnb;omega
   rw [hbad,hnb,Bool.or_true,if_pos rfl]
   unfold lawF
   rw [if_neg]
   omega
theorem walk_valid (p : PlanD) : (walkF p 1 0 []).isSome = validR p:=by
 rw [walkF_law p 1 0 [] (by omega)]
 unfold lawF validR
 rw [← addN_oneW]
 by_cases h : 0 + cntF p ≤ 4000 ∧ 1 + deepF p ≤ 1001 ∧ 0 ≤ widthR p
 ·rw [if_pos h]
  have e1 : decide (cntF p ≤ 4000) = true:=by simp;omega
  have e2 : decide (deepF p ≤ 1000) = true:=by simp;omega
  have e3 : decide (0 ≤ widthR p) = true:=by simp;omega
  rw [e1,e2,e3]
  cases addN [] (symsF p)<;>rfl
 ·rw [if_neg h]
  symm
  simp only [Option.isSome_none,Bool.and_eq_false_iff,decide_eq_false_iff_not]
  omega
theorem walk_val (p : PlanD) {w : Int} {n : Nat} {ws : Names} (h : walkF p 1 0 [] = some (w,n,ws)) : w = widthR p ∧ n = cntF p:=by
 rw [walkF_law p 1 0 [] (by omega)] at h
 unfold lawF at h
 split at h
 ·cases ha : addN [] (symsF p) with
  | none=>rw [ha] at h;cases h
  | some m =>
   rw [ha] at h
   simp only [Option.map_some,Option.some.injEq,Prod.mk.injEq] at h
   omega
 ·cases h
end Go.AW
namespace Go.AW
open Go Go.Proofs TyTry Go.IntWalk
set_option linter.unusedSimpArgs false
set_option linter.unusedVariables false
set_option maxRecDepth 10000
set_option maxHeartbeats 1000000
inductive Node (p : PlanD) : Prop
 | rel : p.kind = 0 → p.kids = [] → nameF p.name = true → widthR p = p.width → Node p
 | all : p.kind = 1 → p.kids = [] → widthR p = p.width → Node p
 | pick (a : PlanD) : p.kind = 2 ∨ p.kind = 3 → p.kids = [a] → 0 ≤ widthR a → widthR p = widthR a → 0 ≤ p.i → p.i < widthR a → 0 ≤ p.j → p.j < widthR a → Node p
 | join (a b : PlanD) : p.kind = 4 → p.kids = [a,b] → 0 ≤ widthR a → 0 ≤ widthR b → widthR p = widthR a + widthR b → Node p
 | project (a : PlanD) : p.kind = 5 → p.kids = [a] → 0 ≤ widthR a → widthR p = p.cols.length → (∀ c ∈ p.cols,0 ≤ c ∧ c < widthR a) → Node p
 | two (a b : PlanD) : p.kind = 6 ∨ p.kind = 7 → p.kids = [a,b] → 0 ≤ widthR a → widthR a = widthR b → widthR p = widthR a → Node p
theorem insideF_iff (n : Int) (l : List Int) : insideF n l = true ↔ ∀ c ∈ l,0 ≤ c ∧ c < n:=by
 unfold insideF
 simp only [Bool.not_eq_true',List.any_eq_false,Bool.or_eq_true,decide_eq_true_eq]
 constructor
 ·intro h c hc;have:=h c hc;omega
 ·intro h c hc;have:=h c hc;omega
theorem node_of {p : PlanD} (h : 0 ≤ widthR p) : Node p:=by
 have hw:=widthR_eq p
 by_cases hk : ∀ q ∈ p.kids,¬ widthR q < 0
 ·rw [widthsR_some hk] at hw
  simp only at hw
  have hcap : 0 ≤ outF p (p.kids.map widthR) ∧ widthR p = outF p (p.kids.map widthR):=by
   unfold capW at hw
   split at hw
   ·omega
   ·omega
  obtain ⟨ho,hwo⟩:=hcap
  have ht : ¬ (decide (p.kind < 0) || decide (p.kind ≥ 8) || !spareF p || ((p.kids.length : Int) != kidsF p.kind)) = true:=fun hb=>by
   have:=node_bad p (p.kids.map widthR) (by simp) hb
   omega
  simp only [Bool.or_eq_true,Bool.not_eq_true',not_or,decide_eq_true_eq,Bool.not_eq_false,bne_iff_ne,ne_eq,Decidable.not_not] at ht
  obtain ⟨⟨⟨k0,k8⟩,hs⟩,hkl⟩:=ht
  unfold spareF at hs
  simp only [Bool.and_eq_true,Bool.or_eq_true,beq_iff_eq,decide_eq_true_eq] at hs
  obtain ⟨⟨⟨s1,s2⟩,s3⟩,s4⟩:=hs
  have hkk : p.kind = 0 ∨ p.kind = 1 ∨ p.kind = 2 ∨ p.kind = 3 ∨ p.kind = 4 ∨ p.kind = 5 ∨ p.kind = 6 ∨ p.kind = 7:=by omega
  have one : p.kids.length = 1 → ∃ a,p.kids = [a]:=fun h=>List.length_eq_one_iff.1 (by omega)
  have two : p.kids.length = 2 → ∃ a b,p.kids = [a,b]:=fun h=>by
   match p.kids,h with
   | [a,b],_=>exact ⟨a,b,rfl⟩
  rcases hkk with e | e | e | e | e | e | e | e
  ·have hk0 : p.kids = []:=List.length_eq_zero_iff.1 (by rw [e] at hkl;have : kidsF 0 = 0:=rfl;omega)
   rw [hk0] at ho hwo
   have hij : p.i = 0 ∧ p.j = 0:=by omega
   have hc : p.cols.length = 0:=by omega
   have hout : outF p [] = if nameF p.name = true then p.width else -1:=by
    unfold outF
    simp [e,hij,hc]
   simp only [List.map_nil] at ho hwo
   rw [hout] at ho hwo
   cases hn : nameF p.name
   ·rw [hn] at ho;simp at ho
   ·rw [hn,if_pos rfl] at hwo
    exact .rel e hk0 hn hwo
  ·have hk0 : p.kids = []:=List.length_eq_zero_iff.1 (by rw [e] at hkl;have : kidsF 1 = 0:=rfl;omega)
   rw [hk0] at ho hwo
   have hij : p.i = 0 ∧ p.j = 0:=by omega
   have hc : p.cols.length = 0:=by omega
   have hn : p.name.size = 0:=by omega
   have hout : outF p [] = p.width:=by
    unfold outF
    simp [e,hij,hc,hn]
   exact .all e hk0 (hwo.trans hout)
  ·obtain ⟨a,ha⟩:=one (by rw [e] at hkl;have : kidsF 2 = 1:=rfl;omega)
   have ha0:=hk a (by rw [ha];simp)
   rw [ha] at ho hwo
   have hc : p.cols.length = 0:=by omega
   have hn : p.name.size = 0:=by omega
   have hw0 : p.width = 0:=by omega
   have hout : outF p [widthR a] = if insideF (widthR a) [p.i,p.j] = true then widthR a else -1:=by
    unfold outF
    simp [e,hc,hn,hw0]
   simp only [List.map_cons,List.map_nil] at ho hwo
   rw [hout] at ho hwo
   by_cases hin : insideF (widthR a) [p.i,p.j] = true
   ·rw [if_pos hin] at hwo
    have hi:=(insideF_iff _ _).1 hin
    have h1:=hi p.i (by simp)
    have h2:=hi p.j (by simp)
    exact .pick a (.inl e) ha (by omega) hwo h1.1 h1.2 h2.1 h2.2
   ·rw [if_neg hin] at ho;omega
  ·obtain ⟨a,ha⟩:=one (by rw [e] at hkl;have : kidsF 3 = 1:=rfl;omega)
   have ha0:=hk a (by rw [ha];simp)
   rw [ha] at ho hwo
   have hc : p.cols.length = 0:=by omega
   have hn : p.name.size = 0:=by omega
   have hw0 : p.width = 0:=by omega
   have hout : outF p [widthR a] = if insideF (widthR a) [p.i,p.j] = true then widthR a else -1:=by
    unfold outF
    simp [e,hc,hn,hw0]
   simp only [List.map_cons,List.map_nil] at ho hwo
   rw [hout] at ho hwo
   by_cases hin : insideF (widthR a) [p.i,p.j] = true
   ·rw [if_pos hin] at hwo
    have hi:=(insideF_iff _ _).1 hin
    have h1:=hi p.i (by simp)
    have h2:=hi p.j (by simp)
    exact .pick a (.inr e) ha (by omega) hwo h1.1 h1.2 h2.1 h2.2
   ·rw [if_neg hin] at ho;omega
  ·obtain ⟨a,b,ha⟩:=two (by rw [e] at hkl;have : kidsF 4 = 2:=rfl;omega)
   have ha0:=hk a (by rw [ha];simp)
   have hb0:=hk b (by rw [ha];simp)
   rw [ha] at ho hwo
   have hij : p.i = 0 ∧ p.j = 0:=by omega
   have hc : p.cols.length = 0:=by omega
   have hn : p.name.size = 0:=by omega
   have hw0 : p.width = 0:=by omega
   have hout : outF p [widthR a,widthR b] = widthR a + widthR b:=by
    unfold outF
    simp [e,hij,hc,hn,hw0]
   exact .join a b e ha (by omega) (by omega) (hwo.trans hout)
  ·obtain ⟨a,ha⟩:=one (by rw [e] at hkl;have : kidsF 5 = 1:=rfl;omega)
   have ha0:=hk a (by rw [ha];simp)
   rw [ha] at ho hwo
   have hij : p.i = 0 ∧ p.j = 0:=by omega
   have hn : p.name.size = 0:=by omega
   have hw0 : p.width = 0:=by omega
   have hout : outF p [widthR a] = if insideF (widthR a) p.cols = true then (p.cols.length : Int) else -1:=by
    unfold outF
    simp [e,hij,hn,hw0]
   simp only [List.map_cons,List.map_nil] at ho hwo
   rw [hout] at ho hwo
   by_cases hin : insideF (widthR a) p.cols = true
   ·rw [if_pos hin] at hwo
    exact .project a e ha (by omega) hwo ((insideF_iff _ _).1 hin)
   ·rw [if_neg hin] at ho;omega
  all_goals
   obtain ⟨a,b,ha⟩:=two (by rw [e] at hkl;have : kidsF 6 = 2:=rfl;have : kidsF 7 = 2:=rfl;omega)
   have ha0:=hk a (by rw [ha];simp)
   have hb0:=hk b (by rw [ha];simp)
   rw [ha] at ho hwo
   have hij : p.i = 0 ∧ p.j = 0:=by omega
   have hc : p.cols.length = 0:=by omega
   have hn : p.name.size = 0:=by omega
   have hw0 : p.width = 0:=by omega
   have hout : outF p [widthR a,widthR b] = if widthR a = widthR b then widthR a else -1:=by
    unfold outF
    simp [e,hij,hc,hn,hw0]
   simp only [List.map_cons,List.map_nil] at ho hwo
   rw [hout] at ho hwo
   by_cases hab : widthR a = widthR b
   ·rw [if_pos hab] at hwo
    exact .two a b (by first | exact .inl e | exact .inr e) ha (by omega) hab hwo
   ·rw [if_neg hab] at ho;omega
 ·exfalso
  have : ∃ q ∈ p.kids,widthR q < 0:=by
   apply Decidable.byContradiction
   intro hn
   exact hk fun q hq hlt=>hn ⟨q,hq,hlt⟩
  obtain ⟨q,hq,hlt⟩:=this
  rw [widthsR_none hq hlt] at hw
  simp only at hw
  omega
theorem width_kid {p : PlanD} (h : 0 ≤ widthR p) : ∀ q ∈ p.kids,0 ≤ widthR q:=by
 intro q hq
 cases node_of h with
 | rel _ hk=>rw [hk] at hq;cases hq
 | all _ hk=>rw [hk] at hq;cases hq
 | pick a _ hk h1=>rw [hk] at hq;simp only [List.mem_singleton] at hq;rw [hq];exact h1
 | join a b _ hk h1 h2=>rw [hk] at hq;simp only [List.mem_cons,List.not_mem_nil,or_false] at hq;rcases hq with rfl | rfl<;>assumption
 | project a _ hk h1=>rw [hk] at hq;simp only [List.mem_singleton] at hq;rw [hq];exact h1
 | two a b _ hk h1 h2=>rw [hk] at hq;simp only [List.mem_cons,List.not_mem_nil,or_false] at hq;rcases hq with rfl | rfl<;>omega
theorem width_spec : ∀ (p : PlanD),p.Sm → 0 ≤ widthR p → ACallsD Try.prog 54 [.agg p.cells] (.i .i64 (widthR p)) :=
 PlanD.ind fun p ih hp h=>by
  have hle:=(widthR_le p).2
  have ihk : ∀ q ∈ p.kids,ACallsD Try.prog 54 [.agg [.i .i64 q.kind,.i .i64 q.width,.i .i64 q.i,.i .i64 q.j,.s q.name,.sl 1 (ints q.cols),.sl 7 (plans q.kids)]] (.i .i64 (widthR q)):=fun q hq=>by
   have:=ih q hq (hp.kid q hq) (width_kid h q hq)
   rwa [q.cells_eq] at this
  rw [p.cells_eq]
  have f1 : ∀ {a : PlanD},p.kids = [a] → (plans p.kids).length = 1 ∧ (plans p.kids).getD 0 [] = [.i .i64 a.kind,.i .i64 a.width,.i .i64 a.i,.i .i64 a.j,.s a.name,.sl 1 (ints a.cols),.sl 7 (plans a.kids)]:=fun {a} e=>by
   rw [e];exact ⟨rfl,by simp [plans,PlanD.cells_eq]⟩
  have f2 : ∀ {a b : PlanD},p.kids = [a,b] → (plans p.kids).length = 2 ∧ (plans p.kids).getD 0 [] = [.i .i64 a.kind,.i .i64 a.width,.i .i64 a.i,.i .i64 a.j,.s a.name,.sl 1 (ints a.cols),.sl 7 (plans a.kids)] ∧ (plans p.kids).getD 1 [] = [.i .i64 b.kind,.i .i64 b.width,.i .i64 b.i,.i .i64 b.j,.s b.name,.sl 1 (ints b.cols),.sl 7 (plans b.kids)]:=fun {a b} e=>by
   rw [e];exact ⟨rfl,by simp [plans,PlanD.cells_eq],by simp [plans,PlanD.cells_eq]⟩
  refine ACalls_of' (n:=33) (rs:=[.tmp 2]) (show Try.prog.funcs[54]? = some Try.f54 by kernel_rfl) rfl rfl rfl (by simp) (by decide +kernel) ?_
  repeat (first | refine nav ?_ | refine bo ?_)
  (refine wr fun K R hK hR=>?_;simp only [go_sem];(try go_ints);(repeat refine And.intro side ?_);(first|refine hK _ ?_|refine hR _ _ ?_);clear hK hR K R)
  repeat (first | refine nav ?_ | refine bo ?_)
  cases node_of h with
  | rel e hk hn hw =>
   rw [e,hw]
   repeat' (first | refine nav ?_ | refine bo ?_ | (refine wr fun K R hK hR=>?_;simp only [go_sem];(try go_ints);(repeat refine And.intro side ?_);(first|refine hK _ ?_|refine hR _ _ ?_);clear hK hR K R) | ((refine W_cond (by simp only [go_sem, *]<;>exact rfl) (fun hb=>?_) (fun hb=>?_))<;>(try exact Bool.noConfusion hb)))
   refine endQ_data (by simp only [go_sem]<;>exact rfl) (Le.of_eq ?_) rfl
   rfl
  | all e hk hw =>
   rw [e,hw]
   repeat' (first | refine nav ?_ | refine bo ?_ | (refine wr fun K R hK hR=>?_;simp only [go_sem];(try go_ints);(repeat refine And.intro side ?_);(first|refine hK _ ?_|refine hR _ _ ?_);clear hK hR K R) | ((refine W_cond (by simp only [go_sem, *]<;>exact rfl) (fun hb=>?_) (fun hb=>?_))<;>(try exact Bool.noConfusion hb)))
   refine endQ_data (by simp only [go_sem]<;>exact rfl) (Le.of_eq ?_) rfl
   rfl
  | pick a e hk h1 hw =>
   obtain ⟨g1,g2⟩:=f1 hk
   have hka:=ihk a (by rw [hk];simp)
   rcases e with e | e
   all_goals
    rw [e,hw]
    repeat' (first | refine nav ?_ | refine bo ?_ | (refine wr fun K R hK hR=>?_;simp only [go_sem,g1,g2];(try go_ints);(try simp only [go_sem,g1,g2]);(repeat refine And.intro side ?_);(first|refine hK _ ?_|refine hR _ _ ?_);clear hK hR K R) | ((refine W_cond (by simp only [go_sem, *,g1,g2]<;>exact rfl) (fun hb=>?_) (fun hb=>?_))<;>(try exact Bool.noConfusion hb)))
    refine RL_callF (hka) rfl rfl rfl (by first | (simp only [go_sem]<;>first | exact LeA.refl _ | exact Le.refl _) | exact LeA.refl _) rfl rfl ?_
    (refine rr fun K R hK hR=>?_;simp only [go_sem];(try go_ints);(repeat refine And.intro side ?_);(first|refine hK _ ?_|refine hR _ _ ?_);clear hK hR K R)
    repeat (first | refine nav ?_ | refine bo ?_)
    refine endQ_data (by simp only [go_sem]<;>exact rfl) (Le.of_eq ?_) rfl
    rfl
  | join a b e hk h1 h2 hw =>
   obtain ⟨g1,g2,g3⟩:=f2 hk
   have hka:=ihk a (by rw [hk];simp)
   have hkb:=ihk b (by rw [hk];simp)
   have hla:=(widthR_le a).2
   have hlb:=(widthR_le b).2
   rw [e,hw]
   repeat' (first | refine nav ?_ | refine bo ?_ | (refine wr fun K R hK hR=>?_;simp only [go_sem,g1,g2];(try go_ints);(try simp only [go_sem,g1,g2]);(repeat refine And.intro side ?_);(first|refine hK _ ?_|refine hR _ _ ?_);clear hK hR K R) | ((refine W_cond (by simp only [go_sem, *,g1,g2]<;>exact rfl) (fun hb=>?_) (fun hb=>?_))<;>(try exact Bool.noConfusion hb)))
   (refine W_dreg (by decide +kernel) [] [0,1,2,3,4,5,6,7,8,9,10,11] [[],[0],[0,1],[1,0,2],[2,0,1,3],[],[5],[5,6],[6,5,7],[3,1,0,2,4,7,5,6,8],[8,6,5,7,9,3,1,0,2,4],[4,2,0,1,3,9,7,5,6,8,10]] (by decide +kernel) rfl fun K R hK hR=>?_;simp only [List.filterMap_cons,List.filterMap_nil,List.getElem?_cons_zero,List.getElem?_cons_succ,List.cons_append,List.nil_append];simp only [go_sem,g1,g2,g3];(try go_ints);(try simp only [go_sem,g1,g2,g3]);(repeat refine And.intro side ?_);(first|refine hK _ ?_|refine hR _ _ ?_);clear hK hR K R)
   refine D_callD (hka) rfl rfl rfl (by first | (simp only [go_sem]<;>first | exact LeA.refl _ | exact Le.refl _) | exact LeA.refl _) rfl rfl rfl rfl ?_
   (refine D_reg fun K R hK hR=>?_;simp only [go_sem,g1,g2,g3];(try go_ints);(try simp only [go_sem,g1,g2,g3]);(repeat refine And.intro side ?_);(first|refine hK _ ?_|refine hR _ _ ?_);clear hK hR K R)
   refine D_callD (hkb) rfl rfl rfl (by first | (simp only [go_sem]<;>first | exact LeA.refl _ | exact Le.refl _) | exact LeA.refl _) rfl rfl rfl rfl ?_
   (refine D_reg fun K R hK hR=>?_;simp only [go_sem];(try go_ints);(repeat refine And.intro side ?_);(first|refine hK _ ?_|refine hR _ _ ?_);clear hK hR K R)
   repeat (first | refine nav ?_ | refine bo ?_)
   refine endQ_data (by simp only [go_sem]<;>exact rfl) (Le.of_eq ?_) rfl
   rfl
  | project a e hk h1 hw =>
   have il : (ints p.cols).length = p.cols.length:=by simp [ints]
   rw [e,hw]
   repeat' (first | refine nav ?_ | refine bo ?_ | (refine wr fun K R hK hR=>?_;simp only [go_sem,il];(try go_ints);(try simp only [go_sem,il]);(repeat refine And.intro side ?_);(first|refine hK _ ?_|refine hR _ _ ?_);clear hK hR K R) | ((refine W_cond (by simp only [go_sem, *,il]<;>exact rfl) (fun hb=>?_) (fun hb=>?_))<;>(try exact Bool.noConfusion hb)))
   refine endQ_data (by simp only [go_sem]<;>exact rfl) (Le.of_eq ?_) rfl
   rfl
  | two a b e hk h1 h2 hw =>
   obtain ⟨g1,g2,g3⟩:=f2 hk
   have hka:=ihk a (by rw [hk];simp)
   rcases e with e | e
   all_goals
    rw [e,hw]
    repeat' (first | refine nav ?_ | refine bo ?_ | (refine wr fun K R hK hR=>?_;simp only [go_sem,g1,g2];(try go_ints);(try simp only [go_sem,g1,g2]);(repeat refine And.intro side ?_);(first|refine hK _ ?_|refine hR _ _ ?_);clear hK hR K R) | ((refine W_cond (by simp only [go_sem, *,g1,g2]<;>exact rfl) (fun hb=>?_) (fun hb=>?_))<;>(try exact Bool.noConfusion hb)))
    refine RL_callF (hka) rfl rfl rfl (by first | (simp only [go_sem]<;>first | exact LeA.refl _ | exact Le.refl _) | exact LeA.refl _) rfl rfl ?_
    (refine rr fun K R hK hR=>?_;simp only [go_sem];(try go_ints);(repeat refine And.intro side ?_);(first|refine hK _ ?_|refine hR _ _ ?_);clear hK hR K R)
    repeat (first | refine nav ?_ | refine bo ?_)
    refine endQ_data (by simp only [go_sem]<;>exact rfl) (Le.of_eq ?_) rfl
    rfl
def widestF : PlanD → Int
 | .mk k w i j nm cs ks=>go (widthR (.mk k w i j nm cs ks)) ks
where go : Int → List PlanD → Int
 | w,[]=>w
 | w,p :: r=>go (max w (widestF p)) r
def widestL : Int → List PlanD → Int
 | w,[]=>w
 | w,p :: r=>widestL (max w (widestF p)) r
theorem widest_go : ∀ (l : List PlanD) (w : Int),widestF.go w l = widestL w l
 | [],w=>by simp [widestF.go,widestL]
 | p :: r,w=>by simp only [widestF.go,widestL,widest_go r]
theorem widestF_eq (p : PlanD) : widestF p = widestL (widthR p) p.kids:=by
 cases p;simp only [widestF,widest_go,PlanD.kids]
def largeB (n : Nat) (p : PlanD) : Bool:=decide (4096 < n ^ (widestF p).toNat)
theorem pow_max (n : Nat) (hn : 1 ≤ n) (a b : Int) : decide (4096 < n ^ (max a b).toNat) = (decide (4096 < n ^ a.toNat) || decide (4096 < n ^ b.toNat)):=by
 rcases Int.le_total a b with h | h
 ·rw [Int.max_eq_right h]
  have:=Nat.pow_le_pow_right hn (show a.toNat ≤ b.toNat by omega)
  by_cases h1 : 4096 < n ^ b.toNat
  ·simp [h1]
  ·rw [decide_eq_false h1,decide_eq_false (by omega)];rfl
 ·rw [Int.max_eq_left h]
  have:=Nat.pow_le_pow_right hn (show b.toNat ≤ a.toNat by omega)
  by_cases h1 : 4096 < n ^ a.toNat
  ·simp [h1]
  ·rw [decide_eq_false h1,decide_eq_false (by omega)];rfl
theorem large_go (n : Nat) (hn : 1 ≤ n) : ∀ (l : List PlanD) (w : Int),decide (4096 < n ^ (widestL w l).toNat) = (decide (4096 < n ^ w.toNat) || l.any (largeB n))
 | [],w=>by
  simp only [widestL,List.any_nil,Bool.or_false]
  rfl
 | p :: r,w=>by
  rw [widestL,large_go n hn r,pow_max n hn,List.any_cons,largeB,Bool.or_assoc]
theorem largeB_eq (n : Nat) (hn : 1 ≤ n) (p : PlanD) : largeB n p = (decide (4096 < n ^ (widthR p).toNat) || p.kids.any (largeB n)):=by
 rw [largeB,widestF_eq,large_go n hn]
theorem indexPlan_spec {oc : List Ob} (ho : okO oc = true) {f : FuncId} {caps : List AV} (hc : caps.all (AV.ltk oc.length) = true) (hcd : caps.map AV.dat = caps) (p : PlanD → Bool) (l : List PlanD) (hl : l.length ≤ 1099511627776)
  (h : ∀ x ∈ l,ACallsQ Try.prog f (.agg [.i .i64 x.kind,.i .i64 x.width,.i .i64 x.i,.i .i64 x.j,.s x.name,.sl 1 (ints x.cols),.sl 7 (plans x.kids)] :: caps) oc (.b (p x))) : ACallsQ Try.prog 72 [.sl 7 (plans l),.fn f caps] oc (.i .i64 (idxI p l 0)):=by
 refine ACalls_of' (n:=19) (rs:=[.tmp 4]) (show Try.prog.funcs[72]? = some Try.f72 by kernel_rfl) rfl rfl rfl (by simp) (by decide +kernel) ?_
 repeat (first | refine nav ?_ | refine bo ?_)
 (refine wr fun K R hK hR=>?_;simp only [go_sem];(try go_ints);(repeat refine And.intro side ?_);(first|refine hK _ ?_|refine hR _ _ ?_);clear hK hR K R)
 repeat (first | refine nav ?_ | refine bo ?_)
 (refine wr fun K R hK hR=>?_;simp only [go_sem];(try go_ints);(repeat refine And.intro side ?_);(first|refine hK _ ?_|refine hR _ _ ?_);clear hK hR K R)
 repeat (first | refine nav ?_ | refine bo ?_)
 refine W_for 8 19 [5] (fun m t o=>∃ k : Nat,oc = o ∧ t 8 = .i .i64 k ∧ m = l.length - k ∧ k ≤ l.length ∧ idxI p (l.drop k) k = idxI p l 0) l.length ⟨0,rfl,by simp only [go_sem]<;>rfl,by omega,Nat.zero_le _,by simp⟩ ?_
 rintro m t o ⟨k,rfl,h8,rfl,hk,hi⟩
 repeat (first | refine nav ?_ | refine bo ?_)
 (refine wr fun K R hK hR=>?_;simp only [go_sem,h8];(try go_ints);(try simp only [go_sem,h8]);(repeat refine And.intro side ?_);(first|refine hK _ ?_|refine hR _ _ ?_);clear hK hR K R)
 repeat (first | refine nav ?_ | refine bo ?_)
 refine W_cond (by simp only [go_sem]<;>exact rfl) (fun hb=>?_) (fun hb=>?_)
 ·simp at hb
  obtain ⟨x,hx⟩ : ∃ x,l[k]? = some x:=⟨_,List.getElem?_eq_getElem hb⟩
  rw [drop_cons hx,idxI] at hi
  repeat (first | refine nav ?_ | refine bo ?_)
  (refine wr fun K R hK hR=>?_;simp only [go_sem,h8];(try go_ints);(try simp only [go_sem,h8]);(repeat refine And.intro side ?_);(first|refine hK _ ?_|refine hR _ _ ?_);clear hK hR K R)
  repeat (first | refine nav ?_ | refine bo ?_)
  (refine wr fun K R hK hR=>?_;simp only [go_sem,h8,plans_get hx];(try go_ints);(try simp only [go_sem,h8,plans_get hx]);(repeat refine And.intro side ?_);(first|refine hK _ ?_|refine hR _ _ ?_);clear hK hR K R)
  refine RL_callQ (h x (List.mem_of_getElem? hx)) (by simp only [go_sem]<;>exact rfl) rfl rfl (by simp) (by simp only [go_sem,hcd]<;>exact LeA.refl _) ho ?_ rfl ?_
  ·simpa [AV.ltk,AV.ltks] using hc
  (refine rr fun K R hK hR=>?_;simp only [go_sem];(try go_ints);(repeat refine And.intro side ?_);(first|refine hK _ ?_|refine hR _ _ ?_);clear hK hR K R)
  repeat (first | refine nav ?_ | refine bo ?_)
  refine W_cond (by simp only [go_sem]<;>exact rfl) (fun hb=>?_) (fun hb=>?_)
  ·rw [if_pos hb] at hi
   repeat (first | refine nav ?_ | refine bo ?_)
   (refine wr fun K R hK hR=>?_;simp only [go_sem];(try go_ints);(repeat refine And.intro side ?_);(first|refine hK _ ?_|refine hR _ _ ?_);clear hK hR K R)
   repeat (first | refine nav ?_ | refine bo ?_)
   refine endQ_quiet0 (by simp only [go_sem]<;>exact rfl) (Le.of_eq ?_) (by assumption) rfl
   rw [hi]
  ·rw [if_neg (by simp [hb])] at hi
   repeat (first | refine nav ?_ | refine bo ?_)
   (refine wr fun K R hK hR=>?_;simp only [go_sem,h8];(try go_ints);(try simp only [go_sem,h8]);(repeat refine And.intro side ?_);(first|refine hK _ ?_|refine hR _ _ ?_);clear hK hR K R)
   refine forQ_normal (l.length - (k + 1)) (by omega) ⟨k + 1,?_⟩
   ((try simp only [go_sem]);(repeat' refine And.intro ?_ ?_)<;>(try first | with_reducible rfl | omega | with_reducible assumption | (simp;done)))
   exact hi
 ·simp at hb
  have : k = l.length:=by omega
  subst this
  simp [idxI] at hi
  repeat (first | refine nav ?_ | refine bo ?_)
  (refine wr fun K R hK hR=>?_;simp only [go_sem];(try go_ints);(repeat refine And.intro side ?_);(first|refine hK _ ?_|refine hR _ _ ?_);clear hK hR K R)
  repeat (first | refine nav ?_ | refine bo ?_)
  refine endQ_quiet0 (by simp only [go_sem]<;>exact rfl) (Le.of_eq ?_) (by assumption) rfl
  rw [hi]
theorem containsPlan_spec {oc : List Ob} (ho : okO oc = true) {f : FuncId} {caps : List AV} (hc : caps.all (AV.ltk oc.length) = true) (hcd : caps.map AV.dat = caps) (p : PlanD → Bool) (l : List PlanD) (hl : l.length ≤ 1099511627776)
  (h : ∀ x ∈ l,ACallsQ Try.prog f (.agg [.i .i64 x.kind,.i .i64 x.width,.i .i64 x.i,.i .i64 x.j,.s x.name,.sl 1 (ints x.cols),.sl 7 (plans x.kids)] :: caps) oc (.b (p x))) : ACallsQ Try.prog 55 [.sl 7 (plans l),.fn f caps] oc (.b (l.any p)):=by
 refine ACalls_of' (n:=9) (rs:=[.tmp 4]) (show Try.prog.funcs[55]? = some Try.f55 by kernel_rfl) rfl rfl rfl (by simp) (by decide +kernel) ?_
 repeat (first | refine nav ?_ | refine bo ?_)
 (refine wr fun K R hK hR=>?_;simp only [go_sem];(try go_ints);(repeat refine And.intro side ?_);(first|refine hK _ ?_|refine hR _ _ ?_);clear hK hR K R)
 repeat (first | refine nav ?_ | refine bo ?_)
 (refine wr fun K R hK hR=>?_;simp only [go_sem];(try go_ints);(repeat refine And.intro side ?_);(first|refine hK _ ?_|refine hR _ _ ?_);clear hK hR K R)
 refine RL_callQ (indexPlan_spec ho hc hcd p l hl h) (by simp only [go_sem]<;>exact rfl) rfl rfl (by simp) (by simp only [go_sem]) ho ?_ rfl ?_
 ·simpa [AV.ltk,ltks_all] using hc
 (refine rr fun K R hK hR=>?_;simp only [go_sem];(try go_ints);(repeat refine And.intro side ?_);(first|refine hK _ ?_|refine hR _ _ ?_);clear hK hR K R)
 repeat (first | refine nav ?_ | refine bo ?_)
 refine endQ_quiet0 (by simp only [go_sem]<;>exact rfl) (Le.of_eq ?_) (by assumption) rfl
 rw [idxI_any p l 0 (by omega)]
theorem large_spec (n : Nat) (hn : 1 ≤ n) (hn2 : n ≤ 64) : ∀ (p : PlanD),p.Sm → 0 ≤ widthR p → ACallsD Try.prog 37 [.agg p.cells,.i .i64 n] (.b (largeB n p)) :=
 PlanD.ind fun p ih hp h=>by
  have hle:=(widthR_le p).2
  have hws:=width_spec p hp h
  have hsm:=hp.len
  obtain ⟨w,hw⟩ : ∃ w : Nat,widthR p = w:=⟨(widthR p).toNat,by omega⟩
  have hlb:=largeB_eq n hn p
  have hpe : powerF n w = if 4096 < n ^ w then (0,5) else (((n ^ w : Nat) : Int),0):=by
   unfold powerF
   rw [if_neg (by omega),Int.toNat_natCast,powL_one n hn]
   by_cases hc : n ^ w ≤ 4096
   ·rw [if_pos hc,if_neg (by omega),if_neg (by omega)]
   ·rw [if_neg hc,if_pos (by omega),if_pos (by omega)]
  have hps:=power2_spec n w
  rw [hpe] at hps
  rw [hw] at hws hlb
  rw [Int.toNat_natCast] at hlb
  rw [p.cells_eq] at hws ⊢
  generalize hN : n ^ w = M at *
  refine ACalls_of' (n:=20) (rs:=[.tmp 4]) (show Try.prog.funcs[37]? = some Try.f37 by kernel_rfl) rfl rfl rfl (by simp) (by decide +kernel) ?_
  repeat (first | refine nav ?_ | refine bo ?_)
  (refine wr fun K R hK hR=>?_;simp only [go_sem];(try go_ints);(repeat refine And.intro side ?_);(first|refine hK _ ?_|refine hR _ _ ?_);clear hK hR K R)
  repeat (first | refine nav ?_ | refine bo ?_)
  by_cases hc : 4096 < M
  ·rw [if_pos hc] at hps
   simp only at hps
   rw [hlb,decide_eq_true hc,Bool.true_or]
   (refine W_dreg (by decide +kernel) [] [0,1,2,3,4,5,6,7,8] [[],[],[1],[1,2,0],[0,2,1,3],[3,1,2,0,4],[3,1,2,0,4],[4,0,2,1,3,5],[5,7,4,0,2,1,3,6]] (by decide +kernel) rfl fun K R hK hR=>?_;simp only [List.filterMap_cons,List.filterMap_nil,List.getElem?_cons_zero,List.getElem?_cons_succ,List.cons_append,List.nil_append];simp only [go_sem];(try go_ints);(repeat refine And.intro side ?_);(first|refine hK _ ?_|refine hR _ _ ?_);clear hK hR K R)
   refine D_callD (hws) rfl rfl rfl (by first | (simp only [go_sem]<;>first | exact LeA.refl _ | exact Le.refl _) | exact LeA.refl _) rfl rfl rfl rfl ?_
   (refine D_reg fun K R hK hR=>?_;simp only [go_sem];(try go_ints);(repeat refine And.intro side ?_);(first|refine hK _ ?_|refine hR _ _ ?_);clear hK hR K R)
   refine D_callD (hps) rfl rfl rfl (by first | (simp only [go_sem]<;>first | exact LeA.refl _ | exact Le.refl _) | exact LeA.refl _) rfl rfl rfl rfl ?_
   (refine D_reg fun K R hK hR=>?_;simp only [go_sem];(try go_ints);(repeat refine And.intro side ?_);(first|refine hK _ ?_|refine hR _ _ ?_);clear hK hR K R)
   repeat (first | refine nav ?_ | refine bo ?_)
   (refine wr fun K R hK hR=>?_;simp only [go_sem];(try go_ints);(repeat refine And.intro side ?_);(first|refine hK _ ?_|refine hR _ _ ?_);clear hK hR K R)
   repeat (first | refine nav ?_ | refine bo ?_)
   refine W_cond (b:=true) (by simp only [go_sem]<;>rfl) (fun _=>?_) (fun hb=>by cases hb)
   repeat (first | refine nav ?_ | refine bo ?_)
   (refine wr fun K R hK hR=>?_;simp only [go_sem];(try go_ints);(repeat refine And.intro side ?_);(first|refine hK _ ?_|refine hR _ _ ?_);clear hK hR K R)
   repeat (first | refine nav ?_ | refine bo ?_)
   refine endQ_data (by simp only [go_sem]<;>exact rfl) (Le.of_eq ?_) rfl
   rfl
  ·rw [if_neg hc] at hps
   simp only at hps
   rw [hlb,decide_eq_false hc,Bool.false_or]
   (refine W_dreg (by decide +kernel) [] [0,1,2,3,4,5,6,7,8] [[],[],[1],[1,2,0],[0,2,1,3],[3,1,2,0,4],[3,1,2,0,4],[4,0,2,1,3,5],[5,7,4,0,2,1,3,6]] (by decide +kernel) rfl fun K R hK hR=>?_;simp only [List.filterMap_cons,List.filterMap_nil,List.getElem?_cons_zero,List.getElem?_cons_succ,List.cons_append,List.nil_append];simp only [go_sem];(try go_ints);(repeat refine And.intro side ?_);(first|refine hK _ ?_|refine hR _ _ ?_);clear hK hR K R)
   refine D_callD (hws) rfl rfl rfl (by first | (simp only [go_sem]<;>first | exact LeA.refl _ | exact Le.refl _) | exact LeA.refl _) rfl rfl rfl rfl ?_
   (refine D_reg fun K R hK hR=>?_;simp only [go_sem];(try go_ints);(repeat refine And.intro side ?_);(first|refine hK _ ?_|refine hR _ _ ?_);clear hK hR K R)
   refine D_callD (hps) rfl rfl rfl (by first | (simp only [go_sem]<;>first | exact LeA.refl _ | exact Le.refl _) | exact LeA.refl _) rfl rfl rfl rfl ?_
   (refine D_reg fun K R hK hR=>?_;simp only [go_sem];(try go_ints);(repeat refine And.intro side ?_);(first|refine hK _ ?_|refine hR _ _ ?_);clear hK hR K R)
   repeat (first | refine nav ?_ | refine bo ?_)
   (refine wr fun K R hK hR=>?_;simp only [go_sem];(try go_ints);(repeat refine And.intro side ?_);(first|refine hK _ ?_|refine hR _ _ ?_);clear hK hR K R)
   repeat (first | refine nav ?_ | refine bo ?_)
   refine W_cond (b:=false) (by simp only [go_sem]<;>rfl) (fun hb=>by cases hb) (fun _=>?_)
   repeat (first | refine nav ?_ | refine bo ?_)
   (refine wr fun K R hK hR=>?_;simp only [go_sem];(try go_ints);(repeat refine And.intro side ?_);(first|refine hK _ ?_|refine hR _ _ ?_);clear hK hR K R)
   refine RL_callQ (containsPlan_spec (f:=56) (oc:=[boxQ p,.cells 1 [[.i .i64 n]]]) (by rfl) (caps:=[.ptr 1 0 0]) (by rfl) rfl (largeB n) p.kids (by omega) fun q hq=>?_) (by simp only [go_sem]<;>exact rfl) rfl rfl (by simp) (by simp only [go_sem]) (by rfl) (by simp [AV.ltk,AV.ltks]) rfl ?_
   ·have ihq:=ih q hq (hp.kid q hq) (width_kid h q hq)
    rw [q.cells_eq] at ihq
    refine ACalls_of' (n:=7) (rs:=[.tmp 3]) (show Try.prog.funcs[56]? = some Try.f56 by kernel_rfl) rfl rfl rfl (by simp) (by decide +kernel) ?_
    repeat (first | refine nav ?_ | refine bo ?_)
    (refine wr fun K R hK hR=>?_;simp only [go_sem];(try go_ints);(repeat refine And.intro side ?_);(first|refine hK _ ?_|refine hR _ _ ?_);clear hK hR K R)
    repeat (first | refine nav ?_ | refine bo ?_)
    (refine wr fun K R hK hR=>?_;simp only [go_sem];(try go_ints);(repeat refine And.intro side ?_);(first|refine hK _ ?_|refine hR _ _ ?_);clear hK hR K R)
    refine RL_callF (ihq) rfl rfl rfl (by first | (simp only [go_sem]<;>first | exact LeA.refl _ | exact Le.refl _) | exact LeA.refl _) rfl rfl ?_
    (refine rr fun K R hK hR=>?_;simp only [go_sem];(try go_ints);(repeat refine And.intro side ?_);(first|refine hK _ ?_|refine hR _ _ ?_);clear hK hR K R)
    repeat (first | refine nav ?_ | refine bo ?_)
    refine endQ_quiet (by simp only [go_sem]<;>exact rfl) (Le.of_eq ?_) (by rfl) rfl
    rfl
   (refine rr fun K R hK hR=>?_;simp only [go_sem];(try go_ints);(repeat refine And.intro side ?_);(first|refine hK _ ?_|refine hR _ _ ?_);clear hK hR K R)
   repeat (first | refine nav ?_ | refine bo ?_)
   refine endQ_data (by simp only [go_sem]<;>exact rfl) (Le.of_eq ?_) rfl
   rfl
end Go.AW
namespace Go.AW
open Go Go.Proofs TyTry Go.IntWalk
set_option linter.unusedSimpArgs false
set_option linter.unusedVariables false
set_option maxRecDepth 10000
set_option maxHeartbeats 1000000
theorem OpW_eqNil {P : Program} {n : Nat} {s : St} {o : Oper} {T T2 e : TypeId} {x d sz : Nat} {rows : List (List AV)} {K : St → Prop} (hop : o.op = .binOp .eql T (.tmp x) (.const (.slice none 0 0)) T2)
  (hu : ukOf P T = .slice e) (hd : o.dst = some d) (hdn : d < n) (hx : s.t x = .sl sz rows) (hK : ∀ b,K ⟨upd s.t d (.b b),s.o⟩) : OpW P n o s K:=by
 intro g ac w hn hat0
 subst hn
 obtain ⟨⟨m,reg,h1,h2,h3⟩,h4,h5,h6⟩:=hat0
 have vx:=h1.tv x
 rw [hx] at vx
 simp only [V] at vx
 obtain ⟨a1,c1,hux,_⟩:=vx
 have e:=eqS (P:=P) (w:=w) 9999 (uk_slice hu)
 have heq : (Op.equal T (.slice a1 rows.length c1) (.slice none 0 0)).run P w = .ok a1.isNone w:=by
  unfold Op.equal
  rw [show Op.maxDepth = 9999 + 1 from rfl]
  generalize 9999 = dd at *
  cases a1 with
  | none=>unfold Op.equalIn;rw [srun_bind_ok (run_und (uk_slice hu))];rfl
  | some q=>exact e.2.2 _ _ _
 have hexec : (execOp ac.eval o).run P w = .ok (.value (.bool a1.isNone)) w:=by
  unfold execOp
  rw [hop]
  simp only
  have e1 : ac.eval (.tmp x) = .slice a1 rows.length c1:=hux
  have e2 : ac.eval (.const (.slice none 0 0)) = .slice none 0 0:=rfl
  have e3 : eqGuard .eql T (.tmp x) (.const (.slice none 0 0)) (.slice a1 rows.length c1) (.slice none 0 0) = pure ():=by unfold eqGuard;split<;>rfl
  rw [e1,e2,e3]
  show Sem.run P (do let v ← binOp .eql T (.slice a1 rows.length c1) (.slice none 0 0);pure (Next.value v)) w = _
  rw [srun_bind_ok (binOp_eql_nilish rfl rfl heq).1];rfl
 refine Oper.wp_mono (fun a' w' h=>h) ((Does.wp (s':=⟨upd s.t d (.b a1.isNone),s.o⟩) (.inl ⟨_,_,hexec,?_⟩)) (fun a' w' h'=>⟨_,hK _,h'⟩))
 rw [hd]
 exact At.put (d:=some d) (av:=.b a1.isNone) (s:=⟨s.t,_⟩) h1 h2 h3 h4 h5 h6 (by simpa [dstOk] using hdn) (by simp only [V]) (.inl rfl)
theorem clone0_spec : ACallsD Try.prog 40 [.sl 1 []] (.sl 1 []):=by
 refine ACalls_of' (n:=8) (rs:=[.tmp 2]) (show Try.prog.funcs[40]? = some Try.f40 by kernel_rfl) rfl rfl rfl (by simp) (by decide +kernel) ?_
 repeat (first | refine nav ?_ | refine bo ?_)
 (refine wr fun K R hK hR=>?_;simp only [go_sem];(try go_ints);(repeat refine And.intro side ?_);(first|refine hK _ ?_|refine hR _ _ ?_);clear hK hR K R)
 repeat (first | refine nav ?_ | refine bo ?_)
 (refine W_part [] 1 fun R hR=>?_;simp only [go_sem];(try go_ints);(repeat refine And.intro side ?_);refine hR _ _ ?_;clear hR R)
 refine RL_cons rfl (OpW_eqNil rfl rfl rfl (by decide) (by simp only [go_sem]<;>rfl) fun b=>?_)
 (refine rr fun K R hK hR=>?_;simp only [go_sem];(try go_ints);(repeat refine And.intro side ?_);(first|refine hK _ ?_|refine hR _ _ ?_);clear hK hR K R)
 repeat (first | refine nav ?_ | refine bo ?_)
 refine W_cond (b:=b) (by simp only [go_sem]) (fun hb=>?_) (fun hb=>?_)
 ·repeat (first | refine nav ?_ | refine bo ?_)
  (refine wr fun K R hK hR=>?_;simp only [go_sem];(try go_ints);(repeat refine And.intro side ?_);(first|refine hK _ ?_|refine hR _ _ ?_);clear hK hR K R)
  repeat (first | refine nav ?_ | refine bo ?_)
  refine endQ_data (by simp only [go_sem]<;>exact rfl) (Le.dat _ _) rfl
 ·repeat (first | refine nav ?_ | refine bo ?_)
  (refine W_reg [5] fun K R hK hR=>?_;simp only [go_sem,and_self,↓reduceIte];(try go_ints);(try simp only [go_sem,and_self,↓reduceIte]);(repeat refine And.intro side ?_);(first|refine hK _ ?_|refine hR _ _ ?_);clear hK hR K R)
  repeat (first | refine nav ?_ | refine bo ?_)
  refine endQ_data (by simp only [go_sem]<;>exact rfl) (Le.dat _ _) rfl
theorem clone_spec (l : List Int) (hl : l.length ≤ 1048576) : ACallsD Try.prog 40 [.sl 1 (ints l)] (.sl 1 (ints l)):=by
 rcases Nat.eq_zero_or_pos l.length with h | h
 ·have : l = []:=List.length_eq_zero_iff.1 h
  subst this
  exact clone0_spec
 have il : (ints l).length = l.length:=by simp [ints]
 refine ACalls_of' (n:=8) (rs:=[.tmp 2]) (show Try.prog.funcs[40]? = some Try.f40 by kernel_rfl) rfl rfl rfl (by simp) (by decide +kernel) ?_
 repeat (first | refine nav ?_ | refine bo ?_)
 (refine wr fun K R hK hR=>?_;simp only [go_sem];(try go_ints);(repeat refine And.intro side ?_);(first|refine hK _ ?_|refine hR _ _ ?_);clear hK hR K R)
 repeat (first | refine nav ?_ | refine bo ?_)
 (refine wr fun K R hK hR=>?_;simp only [go_sem,h,il];(try go_ints);(try simp only [go_sem,h,il]);(repeat refine And.intro side ?_);(first|refine hK _ ?_|refine hR _ _ ?_);clear hK hR K R)
 repeat (first | refine nav ?_ | refine bo ?_)
 refine W_cond (b:=false) (by simp only [go_sem]) (fun hb=>by cases hb) (fun _=>?_)
 repeat (first | refine nav ?_ | refine bo ?_)
 (refine W_reg [5] fun K R hK hR=>?_;simp only [go_sem,il,and_self,↓reduceIte];(try go_ints);(try simp only [go_sem,il,and_self,↓reduceIte]);(repeat refine And.intro side ?_);(first|refine hK _ ?_|refine hR _ _ ?_);clear hK hR K R)
 repeat (first | refine nav ?_ | refine bo ?_)
 refine endQ_data (by simp only [go_sem]<;>exact rfl) (Le.dat _ _) rfl
end Go.AW
namespace Go.AW
open Go Go.Proofs TyTry Go.IntWalk
set_option linter.unusedSimpArgs false
set_option linter.unusedVariables false
set_option maxRecDepth 10000
set_option maxHeartbeats 1000000
def relF (s : StrD) (nm : ByteArray) (w : Int) : List (List Int):=match s.rels[(findF s nm w).toNat]? with
 | some r=>r.tuples
 | none=>[]
def stepV (s : StrD) (p : PlanD) (vs : List (List (List Int))) : List (List Int) :=
 if p.kind = 0 then relF s p.name p.width
 else if p.kind = 1 then allT s.size.toNat p.width.toNat
 else if p.kind = 2 ∨ p.kind = 3 then (vs.getD 0 []).filter (pickF p)
 else if p.kind = 4 then joinF (vs.getD 0 []) (vs.getD 1 [])
 else if p.kind = 5 then sortT ((vs.getD 0 []).map (placesF p.cols))
 else if p.kind = 6 then unionF (vs.getD 0 []) (vs.getD 1 [])
 else minusF (vs.getD 0 []) (vs.getD 1 [])
mutual
def valF (s : StrD) : PlanD → List (List Int)
 | .mk k w i j nm cs ks=>stepV s (.mk k w i j nm cs ks) (valL s ks)
def valL (s : StrD) : List PlanD → List (List (List Int))
 | []=>[]
 | p :: r=>valF s p :: valL s r
end
theorem valL_map (s : StrD) : ∀ l : List PlanD,valL s l = l.map (valF s)
 | []=>rfl
 | p :: r=>by simp only [valL,List.map_cons,valL_map s r]
theorem valF_eq (s : StrD) (p : PlanD) : valF s p = stepV s p (p.kids.map (valF s)):=by
 cases p;simp only [valF,valL_map,PlanD.kids]
theorem symsL_mem {x : ByteArray × Int} : ∀ {l : List PlanD} {q : PlanD},q ∈ l → x ∈ symsF q → x ∈ symsL l
 | p :: r,q,hq,hx=>by
  simp only [symsL,List.mem_append]
  rcases List.mem_cons.1 hq with rfl | hq
  ·exact .inl hx
  ·exact .inr (symsL_mem hq hx)
theorem relOk_tab {n : Nat} {r : RelD} (h : relOk n r = true) : 0 ≤ r.arity ∧ r.arity ≤ 12 ∧ Tab n r.arity.toNat r.tuples:=by
 simp only [relOk,Bool.and_eq_true,decide_eq_true_eq] at h
 obtain ⟨⟨⟨⟨_,h0⟩,h12⟩,_⟩,ht⟩:=h
 refine ⟨h0,h12,?_⟩
 rw [tuplesF,List.all_eq_true] at ht
 have key : ∀ i t,r.tuples[i]? = some t → ((t.length : Int) = r.arity ∧ (∀ x : Int,x ∈ t → 0 ≤ x ∧ x < n) ∧ (i = 0 ∨ cmpL (r.tuples.getD (i - 1) []) t < 0)):=by
  intro i t hi
  have h1:=ht i (by simpa using (List.getElem?_eq_some_iff.1 hi).1)
  simp only [tupOk,List.getD_eq_getElem?_getD,hi,Option.getD_some,Bool.and_eq_true,beq_iff_eq,Bool.not_eq_true',List.any_eq_false,Bool.or_eq_true,decide_eq_true_eq] at h1
  refine ⟨h1.1.1,fun x hx=>?_,by rw [List.getD_eq_getElem?_getD];exact h1.2⟩
  have:=h1.1.2 x hx
  omega
 constructor
 ·unfold Up
  rw [List.pairwise_iff_getElem]
  intro i j hi hj hij
  have step : ∀ d i,(hh : i + (d + 1) < r.tuples.length) → cmpL (r.tuples.getD i []) (r.tuples.getD (i + (d + 1)) []) < 0:=by
   intro d
   induction d with
   | zero =>
    intro i hh
    have:=key (i + 1) _ (List.getElem?_eq_getElem hh)
    have h2:=this.2.2.resolve_left (by omega)
    rw [show r.tuples.getD (i + (0 + 1)) [] = r.tuples[i + 1] by simp [hh]]
    exact h2
   | succ d ih =>
    intro i hh
    have h1:=ih i (by omega)
    have:=key (i + (d + 1) + 1) _ (List.getElem?_eq_getElem (by omega))
    have h2:=this.2.2.resolve_left (by omega)
    rw [show r.tuples.getD (i + (d + 1 + 1)) [] = r.tuples[i + (d + 1) + 1]'(by omega) by rw [List.getD_eq_getElem?_getD,show i + (d + 1 + 1) = i + (d + 1) + 1 by omega,List.getElem?_eq_getElem (by omega)];rfl]
    exact cmpL_trans h1 h2
  have:=step (j - i - 1) i (by omega)
  rw [show i + (j - i - 1 + 1) = j by omega] at this
  simpa [hi,hj] using this
 ·intro t ht'
  obtain ⟨i,hi⟩:=List.getElem?_of_mem ht'
  have:=key i t hi
  exact ⟨by omega,this.2.1⟩
theorem valid_size {s : StrD} (h : validF s = true) : ∃ n : Nat,s.size = n ∧ 1 ≤ n ∧ n ≤ 64 ∧ s.rels.length ≤ 8 ∧ ∀ r ∈ s.rels,relOk n r = true:=by
 simp only [validF,Bool.and_eq_true,decide_eq_true_eq,List.all_eq_true,List.mem_range] at h
 obtain ⟨⟨⟨h1,h2⟩,h3⟩,h4⟩:=h
 refine ⟨s.size.toNat,by omega,by omega,by omega,by omega,fun r hr=>?_⟩
 obtain ⟨i,hi⟩:=List.getElem?_of_mem hr
 have:=h4 i (List.getElem?_eq_some_iff.1 hi).1
 rw [hi] at this
 simp only [Bool.and_eq_true] at this
 rw [show ((s.size.toNat : Nat) : Int) = s.size by omega]
 exact this.1
theorem find_get {s : StrD} {nm : ByteArray} {w : Int} (h : 0 ≤ findF s nm w) : ∃ r,s.rels[(findF s nm w).toNat]? = some r ∧ r.name.toList = nm.toList ∧ r.arity = w:=by
 obtain ⟨j,hj⟩ : ∃ j : Nat,findF s nm w = j:=⟨_,(Int.toNat_of_nonneg h).symm⟩
 rw [hj]
 unfold findF at hj
 obtain ⟨_,x,hx,hp⟩:=idxI_get _ s.rels 0 j (by simpa using hj)
 simp only [Bool.and_eq_true,beq_iff_eq] at hp
 exact ⟨x,by simpa using hx,hp.1,hp.2⟩
def Named (s : StrD) (p : PlanD) : Prop:=∀ x ∈ symsF p,0 ≤ findF s x.1 x.2
theorem Named.kid {s : StrD} {p q : PlanD} (h : Named s p) (hk : p.kind ≠ 0) (hq : q ∈ p.kids) : Named s q:=fun x hx=>h x (by
 rw [symsF_eq,if_neg hk];exact symsL_mem hq hx)
theorem val_tab {s : StrD} {n : Nat} (hn : s.size = n) (hn1 : 1 ≤ n) (hrel : ∀ r ∈ s.rels,relOk n r = true) : ∀ (p : PlanD),0 ≤ widthR p → Named s p → Tab n (widthR p).toNat (valF s p) :=
 PlanD.ind fun p ih h hnm=>by
  rw [valF_eq]
  cases node_of h with
  | rel e hk hnn hw =>
   rw [stepV,if_pos e,hw]
   have hx:=hnm (p.name,p.width) (by rw [symsF_eq,if_pos e];simp)
   obtain ⟨r,hr,_,ha⟩:=find_get hx
   unfold relF
   rw [hr]
   have:=relOk_tab (hrel r (List.mem_of_getElem? hr))
   rw [ha] at this
   exact this.2.2
  | all e hk hw =>
   rw [stepV,if_neg (by omega),if_pos e,hw,hn,Int.toNat_natCast]
   exact allT_tab n _ hn1
  | pick a e hk h1 hw =>
   have iha:=ih a (by rw [hk];simp) h1 (hnm.kid (by omega) (by rw [hk];simp))
   rw [stepV,if_neg (by omega),if_neg (by omega),if_pos e,hk,hw]
   exact iha.filter _
  | join a b e hk h1 h2 hw =>
   have iha:=ih a (by rw [hk];simp) h1 (hnm.kid (by omega) (by rw [hk];simp))
   have ihb:=ih b (by rw [hk];simp) h2 (hnm.kid (by omega) (by rw [hk];simp))
   rw [stepV,if_neg (by omega),if_neg (by omega),if_neg (by omega),if_pos e,hk,hw,Int.toNat_add h1 h2]
   exact joinF_tab iha ihb
  | project a e hk h1 hw hin =>
   have iha:=ih a (by rw [hk];simp) h1 (hnm.kid (by omega) (by rw [hk];simp))
   rw [stepV,if_neg (by omega),if_neg (by omega),if_neg (by omega),if_neg (by omega),if_pos e,hk,hw,Int.toNat_natCast]
   refine sortT_tab fun t ht=>?_
   obtain ⟨u,hu,rfl⟩:=List.mem_map.1 ht
   exact places_in (iha.el u hu) fun c hc=>by have:=hin c hc;omega
  | two a b e hk h1 h2 hw =>
   have iha:=ih a (by rw [hk];simp) h1 (hnm.kid (by omega) (by rw [hk];simp))
   have ihb:=ih b (by rw [hk];simp) (by omega) (hnm.kid (by omega) (by rw [hk];simp))
   rw [stepV,if_neg (by omega),if_neg (by omega),if_neg (by omega),if_neg (by omega),if_neg (by omega),hk,hw]
   rcases e with e | e
   ·rw [if_pos e]
    refine sortT_tab fun t ht=>?_
    rcases List.mem_append.1 ht with ht | ht
    ·exact iha.el t ht
    ·rw [h2];exact ihb.el t ht
   ·rw [if_neg (by omega)]
    exact iha.filter _
theorem big_kid {n : Nat} (hn : 1 ≤ n) {p : PlanD} (h : largeB n p = false) : n ^ (widthR p).toNat ≤ 4096 ∧ ∀ q ∈ p.kids,largeB n q = false:=by
 rw [largeB_eq n hn,Bool.or_eq_false_iff,decide_eq_false_iff_not] at h
 refine ⟨by omega,fun q hq=>?_⟩
 have:=List.any_eq_false.1 h.2 q hq
 simpa using this
theorem runs_all {s : StrD} {n : Nat} (hn : s.size = n) (hn1 : 1 ≤ n) (hn2 : n ≤ 64) (hr8 : s.rels.length ≤ 8) (hrel : ∀ r ∈ s.rels,relOk n r = true) : ∀ (p : PlanD),0 ≤ widthR p → Named s p → largeB n p = false → Runs s p (valF s p) :=
 PlanD.ind fun p ih h hnm hlg=>by
  have hb:=big_kid hn1 hlg
  have hwl:=(widthR_le p).2
  have kidT : ∀ q ∈ p.kids,p.kind ≠ 0 → Tab n (widthR q).toNat (valF s q) ∧ (valF s q).length ≤ 4096 ∧ (∀ t ∈ valF s q,t.length ≤ 12):=fun q hq h0=>by
   have ht:=val_tab hn hn1 hrel q (width_kid h q hq) (hnm.kid h0 hq)
   have:=ht.len hn1
   have hk:=(big_kid hn1 (hb.2 q hq)).1
   have hwq:=(widthR_le q).2
   exact ⟨ht,by omega,fun t htm=>by rw [(ht.el t htm).1];omega⟩
  have kidR : ∀ q ∈ p.kids,p.kind ≠ 0 → Runs s q (valF s q):=fun q hq h0=>ih q hq (width_kid h q hq) (hnm.kid h0 hq) (hb.2 q hq)
  have e8 : 0 ≤ p.kind ∧ p.kind < 8:=by
   cases node_of h with
   | rel e=>omega
   | all e=>omega
   | pick a e=>omega
   | join a b e=>omega
   | project a e=>omega
   | two a b e=>omega
  have hkl : p.kids.length ≤ 2:=by
   cases node_of h with
   | rel e hk=>rw [hk];simp
   | all e hk=>rw [hk];simp
   | pick a e hk=>rw [hk];simp
   | join a b e hk=>rw [hk];simp
   | project a e hk=>rw [hk];simp
   | two a b e hk=>rw [hk];simp
  have hval:=valF_eq s p
  refine run_step s p (p.kids.map (valF s)) _ e8 (by omega) (by simp) (fun i x l hx hl=>?_) ?_
  ·rw [List.getElem?_map,hx] at hl
   simp only [Option.map_some,Option.some.injEq] at hl
   subst hl
   have h0 : p.kind ≠ 0:=by
    intro e
    cases node_of h with
    | rel e hk=>rw [hk] at hx;cases hx
    | all e'=>omega
    | pick a e'=>omega
    | join a b e'=>omega
    | project a e'=>omega
    | two a b e'=>omega
   exact kidR x (List.mem_of_getElem? hx) h0
  rw [hval]
  cases node_of h with
  | rel e hk hnn hw =>
   rw [stepV,if_pos e,hk]
   have hx:=hnm (p.name,p.width) (by rw [symsF_eq,if_pos e];simp)
   obtain ⟨r,hr,_,ha⟩:=find_get hx
   have hf:=find_spec s (by omega) p.name p.width
   unfold relF
   rw [hr]
   rw [show findF s p.name p.width = ((findF s p.name p.width).toNat : Int) from (Int.toNat_of_nonneg hx).symm] at hf
   exact rel_spec (by omega) e hf hr
  | all e hk hw =>
   rw [stepV,if_neg (by omega),if_pos e,hk,hn,Int.toNat_natCast]
   have hb1:=hb.1
   rw [hw] at hb1
   exact all_meth e hn hn1 hn2 (show p.width = ((p.width.toNat : Nat) : Int) by omega) (by omega) hb1
  | pick a e hk h1 hw i0 i1 j0 j1 =>
   obtain ⟨ta,la,wa⟩:=kidT a (by rw [hk];simp) (by omega)
   rw [stepV,if_neg (by omega),if_neg (by omega),if_pos e,hk]
   refine meth_any ?_
   have hm : methF p.kind = 59:=by rcases e with e | e<;>rw [e]<;>rfl
   rw [hm]
   refine pick_spec p (valF s a) e (by omega) (fun x hx=>by have:=wa x hx;omega) fun x hx=>?_
   have:=(ta.el x hx).1
   omega
  | join a b e hk h1 h2 hw =>
   obtain ⟨ta,la,wa⟩:=kidT a (by rw [hk];simp) (by omega)
   obtain ⟨tb,lb,wb⟩:=kidT b (by rw [hk];simp) (by omega)
   rw [stepV,if_neg (by omega),if_neg (by omega),if_neg (by omega),if_pos e,hk]
   have hab : (valF s a).length * (valF s b).length ≤ 4096:=by
    have:=Nat.mul_le_mul (ta.len hn1) (tb.len hn1)
    rw [← Nat.pow_add,← Int.toNat_add h1 h2,← hw] at this
    have:=hb.1
    omega
   exact meth_join _ _ e (by omega) (by omega) (by omega) (fun t ht=>by have:=wa t ht;omega) (fun t ht=>by have:=wb t ht;omega)
  | project a e hk h1 hw hin =>
   obtain ⟨ta,la,wa⟩:=kidT a (by rw [hk];simp) (by omega)
   rw [stepV,if_neg (by omega),if_neg (by omega),if_neg (by omega),if_neg (by omega),if_pos e,hk]
   have hcl : p.cols.length ≤ 12:=by omega
   refine meth_project (valF s a) _ e (fun hne=>?_) (fun hnil=>?_) (by omega) (by omega) (fun t ht=>by have:=wa t ht;omega) fun t ht c hc=>?_
   ·exact sorted_spec _ (by simpa using hne) (by simp;omega) (fun x hx=>by
     obtain ⟨u,hu,rfl⟩:=List.mem_map.1 hx
     simp [placesF];omega)
   ·show sortT ((valF s a).map (placesF p.cols)) = []
    rw [hnil];unfold sortT sortL;simp [ddN]
   ·have:=hin c hc
    have:=(ta.el t ht).1
    omega
  | two a b e hk h1 h2 hw =>
   obtain ⟨ta,la,wa⟩:=kidT a (by rw [hk];simp) (by omega)
   obtain ⟨tb,lb,wb⟩:=kidT b (by rw [hk];simp) (by omega)
   rw [stepV,if_neg (by omega),if_neg (by omega),if_neg (by omega),if_neg (by omega),if_neg (by omega),hk]
   rcases e with e | e
   ·rw [if_pos e]
    refine meth_any ?_
    rw [show methF p.kind = 62 by rw [e];rfl]
    exact union_spec p _ _ (by omega) (by omega) (fun t ht=>by have:=wa t ht;omega) (fun t ht=>by have:=wb t ht;omega)
   ·rw [if_neg (by omega)]
    refine meth_any ?_
    rw [show methF p.kind = 63 by rw [e];rfl]
    exact minus_spec p _ _ tb.up.rise (by omega) (by omega) (fun t ht=>by have:=wa t ht;omega) (fun t ht=>by have:=wb t ht;omega)
end Go.AW
namespace Go.AW
open Go Go.Proofs TyTry Go.IntWalk
set_option linter.unusedSimpArgs false
set_option linter.unusedVariables false
set_option maxRecDepth 10000
set_option maxHeartbeats 2000000
theorem widest_spec : ∀ (p : PlanD),p.Ok → cntF p ≤ 100000 → ACallsD Try.prog 13 [.agg p.cells] (.i .i64 (widestF p)) :=
 PlanD.ind fun p ih hp hc=>by
  have hws:=rwidth_spec p hp hc
  have h3:=hp.len
  have hce:=cntF_eq p
  rw [PlanD.cells_eq] at hws ⊢
  refine ACalls_of' (n:=23) (rs:=[.tmp 2]) (show Try.prog.funcs[13]? = some Try.f13 by kernel_rfl) rfl rfl rfl (by simp) (by decide +kernel) ?_
  repeat (first | refine nav ?_ | refine bo ?_)
  (refine wr fun K R hK hR=>?_;simp only [go_sem];(try go_ints);(repeat refine And.intro side ?_);(first|refine hK _ ?_|refine hR _ _ ?_);clear hK hR K R)
  repeat (first | refine nav ?_ | refine bo ?_)
  (refine wr fun K R hK hR=>?_;simp only [go_sem];(try go_ints);(repeat refine And.intro side ?_);(first|refine hK _ ?_|refine hR _ _ ?_);clear hK hR K R)
  refine RL_callF (hws) rfl rfl rfl (by first | (simp only [go_sem]<;>first | exact LeA.refl _ | exact Le.refl _) | exact LeA.refl _) rfl rfl ?_
  (refine rr fun K R hK hR=>?_;simp only [go_sem];(try go_ints);(repeat refine And.intro side ?_);(first|refine hK _ ?_|refine hR _ _ ?_);clear hK hR K R)
  repeat (first | refine nav ?_ | refine bo ?_)
  (refine wr fun K R hK hR=>?_;simp only [go_sem];(try go_ints);(repeat refine And.intro side ?_);(first|refine hK _ ?_|refine hR _ _ ?_);clear hK hR K R)
  repeat (first | refine nav ?_ | refine bo ?_)
  refine W_for 7 22 [3,4] (fun m t o=>∃ (k : Nat) (w : Int),[boxP p] = o ∧ t 4 = .i .i64 k ∧ t 3 = .i .i64 w ∧ m = p.kids.length - k ∧ k ≤ p.kids.length ∧ widestL w (p.kids.drop k) = widestF p) p.kids.length ⟨0,widthR p,rfl,by simp only [go_sem]<;>rfl,by simp only [go_sem]<;>rfl,by omega,by omega,by rw [widestF_eq];rfl⟩ ?_
  rintro m t o ⟨k,w,rfl,h4,h3',rfl,hk,hi⟩
  repeat (first | refine nav ?_ | refine bo ?_)
  (refine wr fun K R hK hR=>?_;simp only [go_sem,h4];(try go_ints);(try simp only [go_sem,h4]);(repeat refine And.intro side ?_);(first|refine hK _ ?_|refine hR _ _ ?_);clear hK hR K R)
  repeat (first | refine nav ?_ | refine bo ?_)
  refine W_cond (by simp only [go_sem]<;>exact rfl) (fun hb=>?_) (fun hb=>?_)
  ·have hb1 : k < p.kids.length:=by simpa using hb
   obtain ⟨x,hx⟩ : ∃ x,p.kids[k]? = some x:=⟨_,List.getElem?_eq_getElem hb1⟩
   have hxm:=List.mem_of_getElem? hx
   rw [drop_kids hx,widestL] at hi
   have hcm:=cnt_mem hxm
   have ihx:=ih x hxm (hp.kid x hxm) (by omega)
   rw [x.cells_eq] at ihx
   repeat (first | refine nav ?_ | refine bo ?_)
   (refine wr fun K R hK hR=>?_;simp only [go_sem,h4,h3',plans_get hx];(try go_ints);(try simp only [go_sem,h4,h3',plans_get hx]);(repeat refine And.intro side ?_);(first|refine hK _ ?_|refine hR _ _ ?_);clear hK hR K R)
   refine RL_callF (ihx) rfl rfl rfl (by first | (simp only [go_sem]<;>first | exact LeA.refl _ | exact Le.refl _) | exact LeA.refl _) rfl rfl ?_
   (refine rr fun K R hK hR=>?_;simp only [go_sem];(try go_ints);(repeat refine And.intro side ?_);(first|refine hK _ ?_|refine hR _ _ ?_);clear hK hR K R)
   repeat (first | refine nav ?_ | refine bo ?_)
   (refine wr fun K R hK hR=>?_;simp only [go_sem,h4];(try go_ints);(try simp only [go_sem,h4]);(repeat refine And.intro side ?_);(first|refine hK _ ?_|refine hR _ _ ?_);clear hK hR K R)
   refine forQ_normal (p.kids.length - (k + 1)) (by omega) ⟨k + 1,max w (widestF x),rfl,by simp only [go_sem]<;>rfl,by simp only [go_sem]<;>(congr 1;split<;>omega),rfl,hb1,hi⟩
  ·have hb' : k = p.kids.length:=by have : ¬ k < p.kids.length:=(by simpa using hb);omega
   subst hb'
   rw [List.drop_length,widestL] at hi
   repeat (first | refine nav ?_ | refine bo ?_)
   (refine wr fun K R hK hR=>?_;simp only [go_sem,h3'];(try go_ints);(try simp only [go_sem,h3']);(repeat refine And.intro side ?_);(first|refine hK _ ?_|refine hR _ _ ?_);clear hK hR K R)
   repeat (first | refine nav ?_ | refine bo ?_)
   refine endQ_data (by simp only [go_sem]<;>exact rfl) (Le.of_eq ?_) rfl
   rw [hi]
theorem widestL_bd : ∀ (l : List PlanD) (w : Int),(∀ q ∈ l,widestF q ≤ 12) → w ≤ 12 → w ≤ widestL w l ∧ widestL w l ≤ 12
 | [],w,_,h=>⟨Int.le_refl _,h⟩
 | p :: r,w,h1,h=>by
  have:=widestL_bd r (max w (widestF p)) (fun q hq=>h1 q (by simp [hq])) (by have:=h1 p (by simp);omega)
  simp only [widestL];omega
theorem widest_bd : ∀ (p : PlanD),widthR p ≤ widestF p ∧ widestF p ≤ 12 :=
 PlanD.ind fun p ih=>by
  rw [widestF_eq]
  exact widestL_bd p.kids _ (fun q hq=>(ih q hq).2) (widthR_le p).2
theorem pow2_gt (n : Nat) (hn : 1 ≤ n) (k : Nat) : decide (pow2 n k 1 > 4096) = decide (4096 < n ^ k):=by
 rw [pow2_spec n (by omega) k 1 (by omega) (by omega),powL_one n hn]
 by_cases h : n ^ k ≤ 4096
 ·rw [if_pos h,decide_eq_true (by omega),decide_eq_false (by omega)];rfl
 ·rw [if_neg h,decide_eq_false (by omega),decide_eq_true (by omega)];rfl
def checkF (p : PlanD) (s : StrD) : Int :=
 if (!validR p || !validF s) = true then 1 else if fitsF (symsF p) s = false then 4 else if 4096 < s.size.toNat ^ (widestF p).toNat then 5 else 0
theorem check_spec (p : PlanD) (hp : p.Ok) (hc : cntF p ≤ 50000) (s : StrD) (hs : s.Ok) : ACallsD Try.prog 11 [.agg p.cells,.agg s.cells] (.i .i64 (checkF p s)):=by
 have hrv:=rvalid_spec p hp hc
 have hsv:=rsvalid_spec s hs
 have hws:=widest_spec p hp (by omega)
 have hss:=rsyms_spec p hp [] .nsl (.inl ⟨rfl,rfl⟩) (by simp;omega)
 have hsl:=symsF_len p
 rw [List.nil_append] at hss
 have hft:=rfits_spec (symsF p) (by omega) s hs
 have hwb:=widest_bd p
 rw [p.cells_eq] at hrv hws hss ⊢
 unfold StrD.cells
 refine ACalls_of' (n:=27) (rs:=[.tmp 4]) (show Try.prog.funcs[11]? = some Try.f11 by kernel_rfl) rfl rfl rfl (by simp) (by decide +kernel) ?_
 repeat (first | refine nav ?_ | refine bo ?_)
 (refine wr fun K R hK hR=>?_;simp only [go_sem];(try go_ints);(repeat refine And.intro side ?_);(first|refine hK _ ?_|refine hR _ _ ?_);clear hK hR K R)
 repeat (first | refine nav ?_ | refine bo ?_)
 (refine wr fun K R hK hR=>?_;simp only [go_sem];(try go_ints);(repeat refine And.intro side ?_);(first|refine hK _ ?_|refine hR _ _ ?_);clear hK hR K R)
 refine RL_callF (hrv) rfl rfl rfl (by first | (simp only [go_sem]<;>first | exact LeA.refl _ | exact Le.refl _) | exact LeA.refl _) rfl rfl ?_
 (refine rr fun K R hK hR=>?_;simp only [go_sem];(try go_ints);(repeat refine And.intro side ?_);(first|refine hK _ ?_|refine hR _ _ ?_);clear hK hR K R)
 refine RL_callDg rfl (by simp only [go_sem]<;>exact rfl) (fun e=>hsv) rfl rfl rfl (fun e=>by (try simp only [go_sem] at e);simp only [go_sem,e]<;>(try simp only [go_sem])<;>first | exact LeA.refl _ | exact Le.refl _) rfl rfl ?_
 (refine rr fun K R hK hR=>?_;simp only [go_sem];(try go_ints);(repeat refine And.intro side ?_);(first|refine hK _ ?_|refine hR _ _ ?_);clear hK hR K R)
 repeat (first | refine nav ?_ | refine bo ?_)
 refine W_cond (b:=!validR p || !validF s) (by simp only [go_sem]) (fun hb=>?_) (fun hb=>?_)
 ·have : checkF p s = 1:=by unfold checkF;rw [if_pos hb]
  rw [this]
  repeat (first | refine nav ?_ | refine bo ?_)
  (refine wr fun K R hK hR=>?_;simp only [go_sem];(try go_ints);(repeat refine And.intro side ?_);(first|refine hK _ ?_|refine hR _ _ ?_);clear hK hR K R)
  repeat (first | refine nav ?_ | refine bo ?_)
  refine endQ_data (by simp only [go_sem]<;>exact rfl) (Le.of_eq ?_) rfl
  rfl
 ·have hck : checkF p s = if fitsF (symsF p) s = false then 4 else if 4096 < s.size.toNat ^ (widestF p).toNat then 5 else 0:=by unfold checkF;rw [if_neg (by simp [hb])]
  have hv1 : validR p = true:=by cases h : validR p<;>simp_all
  have hv2 : validF s = true:=by cases h : validF s<;>simp_all
  rw [hck]
  rw [fitsR_eq hv2] at hft
  obtain ⟨n,hn,hn1,hn2,_,_⟩:=valid_size hv2
  have hw0 : 0 ≤ widthR p:=by unfold validR at hv1;simp at hv1;omega
  obtain ⟨w,hw⟩ : ∃ w : Nat,widestF p = w:=⟨(widestF p).toNat,by omega⟩
  have hps:=pow_spec n w (by omega) (by omega) (by omega) (by omega)
  have hpg:=pow2_gt n hn1 w
  rw [Int.toNat_natCast] at hps
  rw [hw] at hws
  rw [hn,hw,Int.toNat_natCast,Int.toNat_natCast]
  rw [hn] at hft
  repeat (first | refine nav ?_ | refine bo ?_)
  (refine W_dreg (by decide +kernel) [] [0,1,2,3,4,5] [[],[],[1],[1,2,0],[0,2,1,3],[3,1,2,0,4]] (by decide +kernel) rfl fun K R hK hR=>?_;simp only [List.filterMap_cons,List.filterMap_nil,List.getElem?_cons_zero,List.getElem?_cons_succ,List.cons_append,List.nil_append];simp only [go_sem];(try go_ints);(repeat refine And.intro side ?_);(first|refine hK _ ?_|refine hR _ _ ?_);clear hK hR K R)
  refine D_callD (hss) rfl rfl rfl (by first | (simp only [go_sem]<;>first | exact LeA.refl _ | exact Le.refl _) | exact LeA.refl _) rfl rfl rfl rfl ?_
  (refine D_reg fun K R hK hR=>?_;simp only [go_sem];(try go_ints);(repeat refine And.intro side ?_);(first|refine hK _ ?_|refine hR _ _ ?_);clear hK hR K R)
  refine D_callD (hft) rfl rfl rfl (by first | (simp only [go_sem]<;>first | exact LeA.refl _ | exact Le.refl _) | exact LeA.refl _) rfl rfl rfl rfl ?_
  (refine D_reg fun K R hK hR=>?_;simp only [go_sem];(try go_ints);(repeat refine And.intro side ?_);(first|refine hK _ ?_|refine hR _ _ ?_);clear hK hR K R)
  repeat (first | refine nav ?_ | refine bo ?_)
  refine W_cond (b:=!fitsF (symsF p) s) (by simp only [go_sem]) (fun hb=>?_) (fun hb=>?_)
  ·rw [if_pos (by simpa using hb)]
   repeat (first | refine nav ?_ | refine bo ?_)
   (refine wr fun K R hK hR=>?_;simp only [go_sem];(try go_ints);(repeat refine And.intro side ?_);(first|refine hK _ ?_|refine hR _ _ ?_);clear hK hR K R)
   repeat (first | refine nav ?_ | refine bo ?_)
   refine endQ_data (by simp only [go_sem]<;>exact rfl) (Le.of_eq ?_) rfl
   rfl
  ·rw [if_neg (by simpa using hb)]
   repeat (first | refine nav ?_ | refine bo ?_)
   (refine W_dreg (by decide +kernel) [] [0,1,2,3,4,5,6] [[],[0],[],[2],[2,3,0,1],[1,0,3,2,4],[4,2,3,0,1,5]] (by decide +kernel) rfl fun K R hK hR=>?_;simp only [List.filterMap_cons,List.filterMap_nil,List.getElem?_cons_zero,List.getElem?_cons_succ,List.cons_append,List.nil_append];simp only [go_sem];(try go_ints);(repeat refine And.intro side ?_);(first|refine hK _ ?_|refine hR _ _ ?_);clear hK hR K R)
   refine D_callD (hws) rfl rfl rfl (by first | (simp only [go_sem]<;>first | exact LeA.refl _ | exact Le.refl _) | exact LeA.refl _) rfl rfl rfl rfl ?_
   (refine D_reg fun K R hK hR=>?_;simp only [go_sem];(try go_ints);(repeat refine And.intro side ?_);(first|refine hK _ ?_|refine hR _ _ ?_);clear hK hR K R)
   refine D_callD (hps) rfl rfl rfl (by first | (simp only [go_sem]<;>first | exact LeA.refl _ | exact Le.refl _) | exact LeA.refl _) rfl rfl rfl rfl ?_
   (refine D_reg fun K R hK hR=>?_;simp only [go_sem,hpg];(try go_ints);(try simp only [go_sem,hpg]);(repeat refine And.intro side ?_);(first|refine hK _ ?_|refine hR _ _ ?_);clear hK hR K R)
   repeat (first | refine nav ?_ | refine bo ?_)
   refine W_cond (b:=decide (4096 < n ^ w)) (by simp only [go_sem,hpg]) (fun hb=>?_) (fun hb=>?_)
   ·rw [if_pos (by simpa using hb)]
    repeat (first | refine nav ?_ | refine bo ?_)
    (refine wr fun K R hK hR=>?_;simp only [go_sem];(try go_ints);(repeat refine And.intro side ?_);(first|refine hK _ ?_|refine hR _ _ ?_);clear hK hR K R)
    repeat (first | refine nav ?_ | refine bo ?_)
    refine endQ_data (by simp only [go_sem]<;>exact rfl) (Le.of_eq ?_) rfl
    rfl
   ·rw [if_neg (by simpa using hb)]
    repeat (first | refine nav ?_ | refine bo ?_)
    (refine wr fun K R hK hR=>?_;simp only [go_sem];(try go_ints);(repeat refine And.intro side ?_);(first|refine hK _ ?_|refine hR _ _ ?_);clear hK hR K R)
    repeat (first | refine nav ?_ | refine bo ?_)
    refine endQ_data (by simp only [go_sem]<;>exact rfl) (Le.of_eq ?_) rfl
    rfl
end Go.AW
namespace Go.AW
open Go Go.Proofs TyTry Go.IntWalk
set_option linter.unusedSimpArgs false
set_option linter.unusedVariables false
set_option maxRecDepth 10000
set_option maxHeartbeats 2000000
theorem setN_mem (b : ByteArray) (w : Int) : ∀ ws : Names,badN (b,w) ws = false → ∀ x,x ∈ setN b w ws ↔ x ∈ ws ∨ x = (b,w)
 | [],_,x=>by simp [setN]
 | y :: r,h,x=>by
  unfold badN at h
  simp only [lookN] at h
  simp only [setN]
  by_cases hb : b = y.1
  ·subst hb
   have e : (y.1 == y.1) = true:=by simp
   rw [if_pos e] at h
   rw [if_pos e]
   have hy : y.2 = w:=by simpa using h
   have : (y.1,w) = y:=by rw [← hy]
   rw [this]
   simp only [List.mem_cons]
   constructor
   ·intro h;exact .inl h
   ·rintro (h | h)
    ·exact h
    ·exact .inl h
  ·have e : (b == y.1) = false:=by simpa using hb
   simp only [e,Bool.false_eq_true,if_false] at h ⊢
   have ih:=setN_mem b w r (by unfold badN;exact h) x
   simp only [List.mem_cons,ih,or_assoc]
theorem addN_mem : ∀ (l ws ws' : Names),addN ws l = some ws' → ∀ x,x ∈ ws' ↔ x ∈ ws ∨ x ∈ l
 | [],ws,ws',h,x=>by
  simp only [addN,Option.some.injEq] at h
  subst h;simp
 | y :: l,ws,ws',h,x=>by
  simp only [addN] at h
  split at h
  ·cases h
  ·rename_i hb
   rw [addN_mem l _ _ h x,setN_mem y.1 y.2 ws (by simpa using hb) x]
   simp only [List.mem_cons,or_assoc]
theorem idxI_neg {α : Type} (p : α → Bool) : ∀ (l : List α) (k : Nat),decide (idxI p l k < 0) = !l.any p
 | [],k=>by simp [idxI]
 | x :: l,k=>by
  have ih:=idxI_neg p l (k + 1)
  rw [Int.natCast_add,Int.natCast_one] at ih
  rw [idxI,List.any_cons]
  by_cases h : p x = true
  ·rw [if_pos h,h,decide_eq_false (by omega)];rfl
  ·rw [if_neg h,ih]
   simp [h]
theorem findF_neg (s : StrD) (nm : ByteArray) (w : Int) : decide (findF s nm w < 0) = !(s.rels.any fun q=>q.name.toList == nm.toList && (q.arity == w)):=idxI_neg _ s.rels 0
theorem all_congr_mem {l r : Names} (f : ByteArray × Int → Bool) (h : ∀ x,x ∈ l ↔ x ∈ r) : l.all f = r.all f:=by
 rw [Bool.eq_iff_iff,List.all_eq_true,List.all_eq_true]
 exact ⟨fun k x hx=>k x ((h x).2 hx),fun k x hx=>k x ((h x).1 hx)⟩
theorem fits_named {s : StrD} {p : PlanD} (h : fitsF (symsF p) s = true) : Named s p:=by
 intro x hx
 unfold fitsF at h
 have h1:=List.all_eq_true.1 h x hx
 have h2:=findF_neg s x.1 x.2
 rw [h1] at h2
 simpa using h2
def okRun (p : PlanD) (s : StrD) : Bool:=validR p && validF s && fitsF (symsF p) s && !largeB s.size.toNat p
def outR (p : PlanD) (s : StrD) : List (List Int):=if okRun p s = true then valF s p else []
theorem okRun_iff (p : PlanD) (s : StrD) : okRun p s = true ↔ checkF p s = 0:=by
 unfold okRun checkF largeB
 cases validR p<;>cases validF s<;>cases fitsF (symsF p) s<;>simp
theorem outR_bad {p : PlanD} {s : StrD} (h : checkF p s ≠ 0) : outR p s = []:=by
 unfold outR
 rw [if_neg (fun e=>h ((okRun_iff p s).1 e))]
theorem outR_ok {p : PlanD} {s : StrD} (h : checkF p s = 0) : outR p s = valF s p:=by
 unfold outR
 rw [if_pos ((okRun_iff p s).2 h)]
structure Fine (p : PlanD) (s : StrD) (n : Nat) : Prop where
 size : s.size = n
 n1 : 1 ≤ n
 n2 : n ≤ 64
 r8 : s.rels.length ≤ 8
 rel : ∀ r ∈ s.rels,relOk n r = true
 w0 : 0 ≤ widthR p
 named : Named s p
 small : largeB n p = false
theorem okRun_fine {p : PlanD} {s : StrD} (h : okRun p s = true) : ∃ n,Fine p s n:=by
 simp only [okRun,Bool.and_eq_true,Bool.not_eq_true'] at h
 obtain ⟨⟨⟨h1,h2⟩,h3⟩,h4⟩:=h
 obtain ⟨n,e1,e2,e3,e4,e5⟩:=valid_size h2
 rw [e1,Int.toNat_natCast] at h4
 refine ⟨n,e1,e2,e3,e4,e5,?_,fits_named h3,h4⟩
 unfold validR at h1;simp at h1;omega
theorem Fine.tab {p : PlanD} {s : StrD} {n : Nat} (h : Fine p s n) : Tab n (widthR p).toNat (valF s p):=val_tab h.size h.n1 h.rel p h.w0 h.named
theorem Fine.len {p : PlanD} {s : StrD} {n : Nat} (h : Fine p s n) : (valF s p).length ≤ 4096:=by
 have h1:=h.tab.len h.n1
 have h2:=(big_kid h.n1 h.small).1
 omega
theorem outR_len (p : PlanD) (s : StrD) : (outR p s).length ≤ 4096 ∧ ∀ x ∈ outR p s,x.length ≤ 12:=by
 unfold outR
 split
 ·rename_i h
  obtain ⟨n,hf⟩:=okRun_fine h
  refine ⟨hf.len,fun x hx=>?_⟩
  have:=(hf.tab.el x hx).1
  have:=(widthR_le p).2
  omega
 ·simp
theorem run_spec (p : PlanD) (hp : p.Sm) (s : StrD) (hs : s.Ok) (hr : s.rels.length ≤ 1000000) : ACallsD Try.prog 24 [.agg p.cells,.agg s.cells] (.tup [.sl 1 (tups (outR p s)),.i .i64 (checkF p s)]):=by
 have hol:=outR_len p s
 have h:=prun_spec p hp s (validF s) (findF s) (largeB s.size.toNat p) (outR p s) (valid_spec s hs) (fun _ w n ws _ x _=>find_spec s hr x.1 x.2) (fun hv hw=>?_) (fun w n ws hw hv hff hlg=>?_) (by omega) (fun x hx=>clone_spec x (by have:=hol.2 x hx;omega))
 ·have e : runA (walkF p 1 0 []) (validF s) (findF s) (largeB s.size.toNat p) (outR p s) = .tup [.sl 1 (tups (outR p s)),.i .i64 (checkF p s)]:=by
   have hwv:=walk_valid p
   cases hwx : walkF p 1 0 [] with
   | none =>
    rw [hwx] at hwv
    have hc : checkF p s = 1:=by unfold checkF;rw [← hwv];simp
    rw [outR_bad (by omega),hc];rfl
   | some y =>
    obtain ⟨w,n,ws⟩:=y
    have hlaw:=walkF_law p 1 0 [] (by omega)
    rw [hwx] at hwv hlaw
    have hv1 : validR p = true:=by rw [← hwv];rfl
    unfold lawF at hlaw
    split at hlaw
    ·cases ha : addN [] (symsF p) with
     | none=>rw [ha] at hlaw;cases hlaw
     | some m =>
      rw [ha] at hlaw
      simp only [Option.map_some,Option.some.injEq,Prod.mk.injEq] at hlaw
      obtain ⟨_,_,rfl⟩:=hlaw
      have hmem:=addN_mem _ _ _ ha
      have hany : (ws.any fun x=>decide (findF s x.1 x.2 < 0)) = !fitsF (symsF p) s:=by
       unfold fitsF
       rw [← all_congr_mem _ (fun x=>by rw [hmem x];simp : ∀ x,x ∈ ws ↔ x ∈ symsF p),List.not_all_eq_any_not]
       congr 1
       funext x
       exact findF_neg s x.1 x.2
      simp only [runA]
      rw [hany]
      cases hvs : validF s with
      | false =>
       have hc : checkF p s = 1:=by unfold checkF;rw [hvs];simp
       rw [outR_bad (by omega),hc];rfl
      | true =>
       cases hft : fitsF (symsF p) s with
       | false =>
        have hc : checkF p s = 4:=by unfold checkF;rw [hvs,hv1,hft];rfl
        rw [outR_bad (by omega),hc];rfl
       | true =>
        cases hlb : largeB s.size.toNat p with
        | true =>
         have hc : checkF p s = 5:=by
          unfold checkF;rw [hvs,hv1,hft]
          unfold largeB at hlb
          rw [decide_eq_true_iff] at hlb
          rw [if_neg (by decide),if_neg (by decide),if_pos hlb]
         rw [outR_bad (by omega),hc];rfl
        | false =>
         have hc : checkF p s = 0:=(okRun_iff p s).1 (by unfold okRun;rw [hvs,hv1,hft,hlb];rfl)
         rw [hc];rfl
    ·cases hlaw
  rw [e] at h
  exact h
 ·obtain ⟨n,e1,e2,e3,_,_⟩:=valid_size hv
  have hw0 : 0 ≤ widthR p:=by rw [walk_valid] at hw;unfold validR at hw;simp at hw;omega
  have:=large_spec n e2 e3 p hp hw0
  rw [e1,Int.toNat_natCast];exact this
 ·have hlaw:=walkF_law p 1 0 [] (by omega)
  have hwv:=walk_valid p
  rw [hw] at hlaw hwv
  have hv1 : validR p = true:=by rw [← hwv];rfl
  have hft : fitsF (symsF p) s = true:=by
   unfold lawF at hlaw
   split at hlaw
   ·cases ha : addN [] (symsF p) with
    | none=>rw [ha] at hlaw;cases hlaw
    | some m =>
     rw [ha] at hlaw
     simp only [Option.map_some,Option.some.injEq,Prod.mk.injEq] at hlaw
     obtain ⟨_,_,rfl⟩:=hlaw
     have hmem:=addN_mem _ _ _ ha
     unfold fitsF
     rw [← all_congr_mem _ (fun x=>by rw [hmem x];simp : ∀ x,x ∈ ws ↔ x ∈ symsF p),List.all_eq_true]
     intro x hx
     have h1:=List.any_eq_false.1 hff x hx
     have h2:=findF_neg s x.1 x.2
     have h3 : decide (findF s x.1 x.2 < 0) = false:=by simpa using h1
     rw [h3] at h2
     simpa using h2
   ·cases hlaw
  have hok : okRun p s = true:=by unfold okRun;rw [hv1,hv,hft,hlg];rfl
  obtain ⟨n,hf⟩:=okRun_fine hok
  rw [show outR p s = valF s p from by unfold outR;rw [if_pos hok]]
  exact runs_all hf.size hf.n1 hf.n2 hf.r8 hf.rel p hf.w0 hf.named hf.small
end Go.AW
