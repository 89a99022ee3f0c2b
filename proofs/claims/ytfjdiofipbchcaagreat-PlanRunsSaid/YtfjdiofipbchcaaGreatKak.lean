/-
What a plan with a width looks like; its width by the program; plans that are too large.
-/
import Derived.Test.YtfjdiofipbchcaaGreatKaj
namespace Go.AW
open Go Go.Proofs TyTryz Go.IntWalk
set_option linter.unusedSimpArgs false
set_option linter.unusedVariables false
set_option maxRecDepth 10000
set_option maxHeartbeats 1000000
inductive Node (p : PlanD) : Prop
 | rel : p.kind = 0 → p.kids = [] → nameF p.name = true → widthR p = p.width → Node p
 | all : p.kind = 1 → p.kids = [] → widthR p = p.width → Node p
 | pick (a : PlanD) : p.kind = 2 ∨ p.kind = 3 → p.kids = [a] → 0 ≤ widthR a → widthR p = widthR a → 0 ≤ p.i → p.i < widthR a → 0 ≤ p.j → p.j < widthR a → Node p
 | join (a b : PlanD) : p.kind = 4 → p.kids = [a,b] → 0 ≤ widthR a → 0 ≤ widthR b → widthR p = widthR a + widthR b → Node p
 | project (a : PlanD) : p.kind = 5 → p.kids = [a] → 0 ≤ widthR a → widthR p = p.cols.length → (∀ c ∈ p.cols,0 ≤ c ∧ c < widthR a) → Node p
 | two (a b : PlanD) : p.kind = 6 ∨ p.kind = 7 → p.kids = [a,b] → 0 ≤ widthR a → widthR a = widthR b → widthR p = widthR a → Node p
theorem insideF_iff (n : Int) (l : List Int) : insideF n l = true ↔ ∀ c ∈ l,0 ≤ c ∧ c < n:=by
 unfold insideF
 simp only [Bool.not_eq_true',List.any_eq_false,Bool.or_eq_true,decide_eq_true_eq]
 constructor
 ·intro h c hc;have:=h c hc;omega
 ·intro h c hc;have:=h c hc;omega
theorem node_of {p : PlanD} (h : 0 ≤ widthR p) : Node p:=by
 have hw:=widthR_eq p
 by_cases hk : ∀ q ∈ p.kids,¬ widthR q < 0
 ·rw [widthsR_some hk] at hw
  simp only at hw
  have hcap : 0 ≤ outF p (p.kids.map widthR) ∧ widthR p = outF p (p.kids.map widthR):=by
   unfold capW at hw
   split at hw
   ·omega
   ·omega
  obtain ⟨ho,hwo⟩:=hcap
  have ht : ¬ (decide (p.kind < 0) || decide (p.kind ≥ 8) || !spareF p || ((p.kids.length : Int) != kidsF p.kind)) = true:=fun hb=>by
   have:=node_bad p (p.kids.map widthR) (by simp) hb
   omega
  simp only [Bool.or_eq_true,Bool.not_eq_true',not_or,decide_eq_true_eq,Bool.not_eq_false,bne_iff_ne,ne_eq,Decidable.not_not] at ht
  obtain ⟨⟨⟨k0,k8⟩,hs⟩,hkl⟩:=ht
  unfold spareF at hs
  simp only [Bool.and_eq_true,Bool.or_eq_true,beq_iff_eq,decide_eq_true_eq] at hs
  obtain ⟨⟨⟨s1,s2⟩,s3⟩,s4⟩:=hs
  have hkk : p.kind = 0 ∨ p.kind = 1 ∨ p.kind = 2 ∨ p.kind = 3 ∨ p.kind = 4 ∨ p.kind = 5 ∨ p.kind = 6 ∨ p.kind = 7:=by omega
  have one : p.kids.length = 1 → ∃ a,p.kids = [a]:=fun h=>List.length_eq_one_iff.1 (by omega)
  have two : p.kids.length = 2 → ∃ a b,p.kids = [a,b]:=fun h=>by
   match p.kids,h with
   | [a,b],_=>exact ⟨a,b,rfl⟩
  rcases hkk with e | e | e | e | e | e | e | e
  ·have hk0 : p.kids = []:=List.length_eq_zero_iff.1 (by rw [e] at hkl;have : kidsF 0 = 0:=rfl;omega)
   rw [hk0] at ho hwo
   have hij : p.i = 0 ∧ p.j = 0:=by omega
   have hc : p.cols.length = 0:=by omega
   have hout : outF p [] = if nameF p.name = true then p.width else -1:=by
    unfold outF
    simp [e,hij,hc]
   simp only [List.map_nil] at ho hwo
   rw [hout] at ho hwo
   cases hn : nameF p.name
   ·rw [hn] at ho;simp at ho
   ·rw [hn,if_pos rfl] at hwo
    exact .rel e hk0 hn hwo
  ·have hk0 : p.kids = []:=List.length_eq_zero_iff.1 (by rw [e] at hkl;have : kidsF 1 = 0:=rfl;omega)
   rw [hk0] at ho hwo
   have hij : p.i = 0 ∧ p.j = 0:=by omega
   have hc : p.cols.length = 0:=by omega
   have hn : p.name.size = 0:=by omega
   have hout : outF p [] = p.width:=by
    unfold outF
    simp [e,hij,hc,hn]
   exact .all e hk0 (hwo.trans hout)
  ·obtain ⟨a,ha⟩:=one (by rw [e] at hkl;have : kidsF 2 = 1:=rfl;omega)
   have ha0:=hk a (by rw [ha];simp)
   rw [ha] at ho hwo
   have hc : p.cols.length = 0:=by omega
   have hn : p.name.size = 0:=by omega
   have hw0 : p.width = 0:=by omega
   have hout : outF p [widthR a] = if insideF (widthR a) [p.i,p.j] = true then widthR a else -1:=by
    unfold outF
    simp [e,hc,hn,hw0]
   simp only [List.map_cons,List.map_nil] at ho hwo
   rw [hout] at ho hwo
   by_cases hin : insideF (widthR a) [p.i,p.j] = true
   ·rw [if_pos hin] at hwo
    have hi:=(insideF_iff _ _).1 hin
    have h1:=hi p.i (by simp)
    have h2:=hi p.j (by simp)
    exact .pick a (.inl e) ha (by omega) hwo h1.1 h1.2 h2.1 h2.2
   ·rw [if_neg hin] at ho;omega
  ·obtain ⟨a,ha⟩:=one (by rw [e] at hkl;have : kidsF 3 = 1:=rfl;omega)
   have ha0:=hk a (by rw [ha];simp)
   rw [ha] at ho hwo
   have hc : p.cols.length = 0:=by omega
   have hn : p.name.size = 0:=by omega
   have hw0 : p.width = 0:=by omega
   have hout : outF p [widthR a] = if insideF (widthR a) [p.i,p.j] = true then widthR a else -1:=by
    unfold outF
    simp [e,hc,hn,hw0]
   simp only [List.map_cons,List.map_nil] at ho hwo
   rw [hout] at ho hwo
   by_cases hin : insideF (widthR a) [p.i,p.j] = true
   ·rw [if_pos hin] at hwo
    have hi:=(insideF_iff _ _).1 hin
    have h1:=hi p.i (by simp)
    have h2:=hi p.j (by simp)
    exact .pick a (.inr e) ha (by omega) hwo h1.1 h1.2 h2.1 h2.2
   ·rw [if_neg hin] at ho;omega
  ·obtain ⟨a,b,ha⟩:=two (by rw [e] at hkl;have : kidsF 4 = 2:=rfl;omega)
   have ha0:=hk a (by rw [ha];simp)
   have hb0:=hk b (by rw [ha];simp)
   rw [ha] at ho hwo
   have hij : p.i = 0 ∧ p.j = 0:=by omega
   have hc : p.cols.length = 0:=by omega
   have hn : p.name.size = 0:=by omega
   have hw0 : p.width = 0:=by omega
   have hout : outF p [widthR a,widthR b] = widthR a + widthR b:=by
    unfold outF
    simp [e,hij,hc,hn,hw0]
   exact .join a b e ha (by omega) (by omega) (hwo.trans hout)
  ·obtain ⟨a,ha⟩:=one (by rw [e] at hkl;have : kidsF 5 = 1:=rfl;omega)
   have ha0:=hk a (by rw [ha];simp)
   rw [ha] at ho hwo
   have hij : p.i = 0 ∧ p.j = 0:=by omega
   have hn : p.name.size = 0:=by omega
   have hw0 : p.width = 0:=by omega
   have hout : outF p [widthR a] = if insideF (widthR a) p.cols = true then (p.cols.length : Int) else -1:=by
    unfold outF
    simp [e,hij,hn,hw0]
   simp only [List.map_cons,List.map_nil] at ho hwo
   rw [hout] at ho hwo
   by_cases hin : insideF (widthR a) p.cols = true
   ·rw [if_pos hin] at hwo
    exact .project a e ha (by omega) hwo ((insideF_iff _ _).1 hin)
   ·rw [if_neg hin] at ho;omega
  all_goals
   obtain ⟨a,b,ha⟩:=two (by rw [e] at hkl;have : kidsF 6 = 2:=rfl;have : kidsF 7 = 2:=rfl;omega)
   have ha0:=hk a (by rw [ha];simp)
   have hb0:=hk b (by rw [ha];simp)
   rw [ha] at ho hwo
   have hij : p.i = 0 ∧ p.j = 0:=by omega
   have hc : p.cols.length = 0:=by omega
   have hn : p.name.size = 0:=by omega
   have hw0 : p.width = 0:=by omega
   have hout : outF p [widthR a,widthR b] = if widthR a = widthR b then widthR a else -1:=by
    unfold outF
    simp [e,hij,hc,hn,hw0]
   simp only [List.map_cons,List.map_nil] at ho hwo
   rw [hout] at ho hwo
   by_cases hab : widthR a = widthR b
   ·rw [if_pos hab] at hwo
    exact .two a b (by first | exact .inl e | exact .inr e) ha (by omega) hab hwo
   ·rw [if_neg hab] at ho;omega
 ·exfalso
  have : ∃ q ∈ p.kids,widthR q < 0:=by
   apply Decidable.byContradiction
   intro hn
   exact hk fun q hq hlt=>hn ⟨q,hq,hlt⟩
  obtain ⟨q,hq,hlt⟩:=this
  rw [widthsR_none hq hlt] at hw
  simp only at hw
  omega
theorem width_kid {p : PlanD} (h : 0 ≤ widthR p) : ∀ q ∈ p.kids,0 ≤ widthR q:=by
 intro q hq
 cases node_of h with
 | rel _ hk=>rw [hk] at hq;cases hq
 | all _ hk=>rw [hk] at hq;cases hq
 | pick a _ hk h1=>rw [hk] at hq;simp only [List.mem_singleton] at hq;rw [hq];exact h1
 | join a b _ hk h1 h2=>rw [hk] at hq;simp only [List.mem_cons,List.not_mem_nil,or_false] at hq;rcases hq with rfl | rfl<;>assumption
 | project a _ hk h1=>rw [hk] at hq;simp only [List.mem_singleton] at hq;rw [hq];exact h1
 | two a b _ hk h1 h2=>rw [hk] at hq;simp only [List.mem_cons,List.not_mem_nil,or_false] at hq;rcases hq with rfl | rfl<;>omega
theorem width_spec : ∀ (p : PlanD),p.Sm → 0 ≤ widthR p → ACallsD Tryz.prog 53 [.agg p.cells] (.i .i64 (widthR p)) :=
 PlanD.ind fun p ih hp h=>by
  have hle:=(widthR_le p).2
  have ihk : ∀ q ∈ p.kids,ACallsD Tryz.prog 53 [.agg [.i .i64 q.kind,.i .i64 q.width,.i .i64 q.i,.i .i64 q.j,.s q.name,.sl 1 (ints q.cols),.sl 7 (plans q.kids)]] (.i .i64 (widthR q)):=fun q hq=>by
   have:=ih q hq (hp.kid q hq) (width_kid h q hq)
   rwa [q.cells_eq] at this
  rw [p.cells_eq]
  have f1 : ∀ {a : PlanD},p.kids = [a] → (plans p.kids).length = 1 ∧ (plans p.kids).getD 0 [] = [.i .i64 a.kind,.i .i64 a.width,.i .i64 a.i,.i .i64 a.j,.s a.name,.sl 1 (ints a.cols),.sl 7 (plans a.kids)]:=fun {a} e=>by
   rw [e];exact ⟨rfl,by simp [plans,PlanD.cells_eq]⟩
  have f2 : ∀ {a b : PlanD},p.kids = [a,b] → (plans p.kids).length = 2 ∧ (plans p.kids).getD 0 [] = [.i .i64 a.kind,.i .i64 a.width,.i .i64 a.i,.i .i64 a.j,.s a.name,.sl 1 (ints a.cols),.sl 7 (plans a.kids)] ∧ (plans p.kids).getD 1 [] = [.i .i64 b.kind,.i .i64 b.width,.i .i64 b.i,.i .i64 b.j,.s b.name,.sl 1 (ints b.cols),.sl 7 (plans b.kids)]:=fun {a b} e=>by
   rw [e];exact ⟨rfl,by simp [plans,PlanD.cells_eq],by simp [plans,PlanD.cells_eq]⟩
  refine ACalls_of' (n:=33) (rs:=[.tmp 2]) (show Tryz.prog.funcs[53]? = some Tryz.f53 by kernel_rfl) rfl rfl rfl (by simp) (by decide +kernel) ?_
  repeat (first | refine nav ?_ | refine bo ?_)
  (refine wr fun K R hK hR=>?_;simp only [go_sem];(try go_ints);(repeat refine And.intro side ?_);(first|refine hK _ ?_|refine hR _ _ ?_);clear hK hR K R)
  repeat (first | refine nav ?_ | refine bo ?_)
  cases node_of h with
  | rel e hk hn hw =>
   rw [e,hw]
   repeat' (first | refine nav ?_ | refine bo ?_ | (refine wr fun K R hK hR=>?_;simp only [go_sem];(try go_ints);(repeat refine And.intro side ?_);(first|refine hK _ ?_|refine hR _ _ ?_);clear hK hR K R) | ((refine W_cond (by simp only [go_sem, *]<;>exact rfl) (fun hb=>?_) (fun hb=>?_))<;>(try exact Bool.noConfusion hb)))
   refine endQ_data (by simp only [go_sem]<;>exact rfl) (Le.of_eq ?_) rfl
   rfl
  | all e hk hw =>
   rw [e,hw]
   repeat' (first | refine nav ?_ | refine bo ?_ | (refine wr fun K R hK hR=>?_;simp only [go_sem];(try go_ints);(repeat refine And.intro side ?_);(first|refine hK _ ?_|refine hR _ _ ?_);clear hK hR K R) | ((refine W_cond (by simp only [go_sem, *]<;>exact rfl) (fun hb=>?_) (fun hb=>?_))<;>(try exact Bool.noConfusion hb)))
   refine endQ_data (by simp only [go_sem]<;>exact rfl) (Le.of_eq ?_) rfl
   rfl
  | pick a e hk h1 hw =>
   obtain ⟨g1,g2⟩:=f1 hk
   have hka:=ihk a (by rw [hk];simp)
   rcases e with e | e
   all_goals
    rw [e,hw]
    repeat' (first | refine nav ?_ | refine bo ?_ | (refine wr fun K R hK hR=>?_;simp only [go_sem,g1,g2];(try go_ints);(try simp only [go_sem,g1,g2]);(repeat refine And.intro side ?_);(first|refine hK _ ?_|refine hR _ _ ?_);clear hK hR K R) | ((refine W_cond (by simp only [go_sem, *,g1,g2]<;>exact rfl) (fun hb=>?_) (fun hb=>?_))<;>(try exact Bool.noConfusion hb)))
    refine RL_callF (hka) rfl rfl rfl (by first | (simp only [go_sem]<;>first | exact LeA.refl _ | exact Le.refl _) | exact LeA.refl _) rfl rfl ?_
    (refine rr fun K R hK hR=>?_;simp only [go_sem];(try go_ints);(repeat refine And.intro side ?_);(first|refine hK _ ?_|refine hR _ _ ?_);clear hK hR K R)
    repeat (first | refine nav ?_ | refine bo ?_)
    refine endQ_data (by simp only [go_sem]<;>exact rfl) (Le.of_eq ?_) rfl
    rfl
  | join a b e hk h1 h2 hw =>
   obtain ⟨g1,g2,g3⟩:=f2 hk
   have hka:=ihk a (by rw [hk];simp)
   have hkb:=ihk b (by rw [hk];simp)
   have hla:=(widthR_le a).2
   have hlb:=(widthR_le b).2
   rw [e,hw]
   repeat' (first | refine nav ?_ | refine bo ?_ | (refine wr fun K R hK hR=>?_;simp only [go_sem,g1,g2];(try go_ints);(try simp only [go_sem,g1,g2]);(repeat refine And.intro side ?_);(first|refine hK _ ?_|refine hR _ _ ?_);clear hK hR K R) | ((refine W_cond (by simp only [go_sem, *,g1,g2]<;>exact rfl) (fun hb=>?_) (fun hb=>?_))<;>(try exact Bool.noConfusion hb)))
   (refine W_dreg (by decide +kernel) [] [0,1,2,3,4,5,6,7,8,9,10,11] [[],[0],[0,1],[1,0,2],[2,0,1,3],[],[5],[5,6],[6,5,7],[3,1,0,2,4,7,5,6,8],[8,6,5,7,9,3,1,0,2,4],[4,2,0,1,3,9,7,5,6,8,10]] (by decide +kernel) rfl fun K R hK hR=>?_;simp only [List.filterMap_cons,List.filterMap_nil,List.getElem?_cons_zero,List.getElem?_cons_succ,List.cons_append,List.nil_append];simp only [go_sem,g1,g2,g3];(try go_ints);(try simp only [go_sem,g1,g2,g3]);(repeat refine And.intro side ?_);(first|refine hK _ ?_|refine hR _ _ ?_);clear hK hR K R)
   refine D_callD (hka) rfl rfl rfl (by first | (simp only [go_sem]<;>first | exact LeA.refl _ | exact Le.refl _) | exact LeA.refl _) rfl rfl rfl rfl ?_
   (refine D_reg fun K R hK hR=>?_;simp only [go_sem,g1,g2,g3];(try go_ints);(try simp only [go_sem,g1,g2,g3]);(repeat refine And.intro side ?_);(first|refine hK _ ?_|refine hR _ _ ?_);clear hK hR K R)
   refine D_callD (hkb) rfl rfl rfl (by first | (simp only [go_sem]<;>first | exact LeA.refl _ | exact Le.refl _) | exact LeA.refl _) rfl rfl rfl rfl ?_
   (refine D_reg fun K R hK hR=>?_;simp only [go_sem];(try go_ints);(repeat refine And.intro side ?_);(first|refine hK _ ?_|refine hR _ _ ?_);clear hK hR K R)
   repeat (first | refine nav ?_ | refine bo ?_)
   refine endQ_data (by simp only [go_sem]<;>exact rfl) (Le.of_eq ?_) rfl
   rfl
  | project a e hk h1 hw =>
   have il : (ints p.cols).length = p.cols.length:=by simp [ints]
   rw [e,hw]
   repeat' (first | refine nav ?_ | refine bo ?_ | (refine wr fun K R hK hR=>?_;simp only [go_sem,il];(try go_ints);(try simp only [go_sem,il]);(repeat refine And.intro side ?_);(first|refine hK _ ?_|refine hR _ _ ?_);clear hK hR K R) | ((refine W_cond (by simp only [go_sem, *,il]<;>exact rfl) (fun hb=>?_) (fun hb=>?_))<;>(try exact Bool.noConfusion hb)))
   refine endQ_data (by simp only [go_sem]<;>exact rfl) (Le.of_eq ?_) rfl
   rfl
  | two a b e hk h1 h2 hw =>
   obtain ⟨g1,g2,g3⟩:=f2 hk
   have hka:=ihk a (by rw [hk];simp)
   rcases e with e | e
   all_goals
    rw [e,hw]
    repeat' (first | refine nav ?_ | refine bo ?_ | (refine wr fun K R hK hR=>?_;simp only [go_sem,g1,g2];(try go_ints);(try simp only [go_sem,g1,g2]);(repeat refine And.intro side ?_);(first|refine hK _ ?_|refine hR _ _ ?_);clear hK hR K R) | ((refine W_cond (by simp only [go_sem, *,g1,g2]<;>exact rfl) (fun hb=>?_) (fun hb=>?_))<;>(try exact Bool.noConfusion hb)))
    refine RL_callF (hka) rfl rfl rfl (by first | (simp only [go_sem]<;>first | exact LeA.refl _ | exact Le.refl _) | exact LeA.refl _) rfl rfl ?_
    (refine rr fun K R hK hR=>?_;simp only [go_sem];(try go_ints);(repeat refine And.intro side ?_);(first|refine hK _ ?_|refine hR _ _ ?_);clear hK hR K R)
    repeat (first | refine nav ?_ | refine bo ?_)
    refine endQ_data (by simp only [go_sem]<;>exact rfl) (Le.of_eq ?_) rfl
    rfl
def widestF : PlanD → Int
 | .mk k w i j nm cs ks=>go (widthR (.mk k w i j nm cs ks)) ks
where go : Int → List PlanD → Int
 | w,[]=>w
 | w,p :: r=>go (max w (widestF p)) r
def widestL : Int → List PlanD → Int
 | w,[]=>w
 | w,p :: r=>widestL (max w (widestF p)) r
theorem widest_go : ∀ (l : List PlanD) (w : Int),widestF.go w l = widestL w l
 | [],w=>by simp [widestF.go,widestL]
 | p :: r,w=>by simp only [widestF.go,widestL,widest_go r]
theorem widestF_eq (p : PlanD) : widestF p = widestL (widthR p) p.kids:=by
 cases p;simp only [widestF,widest_go,PlanD.kids]
def largeB (n : Nat) (p : PlanD) : Bool:=decide (4096 < n ^ (widestF p).toNat)
theorem pow_max (n : Nat) (hn : 1 ≤ n) (a b : Int) : decide (4096 < n ^ (max a b).toNat) = (decide (4096 < n ^ a.toNat) || decide (4096 < n ^ b.toNat)):=by
 rcases Int.le_total a b with h | h
 ·rw [Int.max_eq_right h]
  have:=Nat.pow_le_pow_right hn (show a.toNat ≤ b.toNat by omega)
  by_cases h1 : 4096 < n ^ b.toNat
  ·simp [h1]
  ·rw [decide_eq_false h1,decide_eq_false (by omega)];rfl
 ·rw [Int.max_eq_left h]
  have:=Nat.pow_le_pow_right hn (show b.toNat ≤ a.toNat by omega)
  by_cases h1 : 4096 < n ^ a.toNat
  ·simp [h1]
  ·rw [decide_eq_false h1,decide_eq_false (by omega)];rfl
theorem large_go (n : Nat) (hn : 1 ≤ n) : ∀ (l : List PlanD) (w : Int),decide (4096 < n ^ (widestL w l).toNat) = (decide (4096 < n ^ w.toNat) || l.any (largeB n))
 | [],w=>by
  simp only [widestL,List.any_nil,Bool.or_false]
  rfl
 | p :: r,w=>by
  rw [widestL,large_go n hn r,pow_max n hn,List.any_cons,largeB,Bool.or_assoc]
theorem largeB_eq (n : Nat) (hn : 1 ≤ n) (p : PlanD) : largeB n p = (decide (4096 < n ^ (widthR p).toNat) || p.kids.any (largeB n)):=by
 rw [largeB,widestF_eq,large_go n hn]
theorem indexPlan_spec {oc : List Ob} (ho : okO oc = true) {f : FuncId} {caps : List AV} (hc : caps.all (AV.ltk oc.length) = true) (hcd : caps.map AV.dat = caps) (p : PlanD → Bool) (l : List PlanD) (hl : l.length ≤ 1099511627776)
  (h : ∀ x ∈ l,ACallsQ Tryz.prog f (.agg [.i .i64 x.kind,.i .i64 x.width,.i .i64 x.i,.i .i64 x.j,.s x.name,.sl 1 (ints x.cols),.sl 7 (plans x.kids)] :: caps) oc (.b (p x))) : ACallsQ Tryz.prog 83 [.sl 7 (plans l),.fn f caps] oc (.i .i64 (idxI p l 0)):=by
 refine ACalls_of' (n:=19) (rs:=[.tmp 4]) (show Tryz.prog.funcs[83]? = some Tryz.f83 by kernel_rfl) rfl rfl rfl (by simp) (by decide +kernel) ?_
 repeat (first | refine nav ?_ | refine bo ?_)
 (refine wr fun K R hK hR=>?_;simp only [go_sem];(try go_ints);(repeat refine And.intro side ?_);(first|refine hK _ ?_|refine hR _ _ ?_);clear hK hR K R)
 repeat (first | refine nav ?_ | refine bo ?_)
 (refine wr fun K R hK hR=>?_;simp only [go_sem];(try go_ints);(repeat refine And.intro side ?_);(first|refine hK _ ?_|refine hR _ _ ?_);clear hK hR K R)
 repeat (first | refine nav ?_ | refine bo ?_)
 refine W_for 8 19 [5] (fun m t o=>∃ k : Nat,oc = o ∧ t 8 = .i .i64 k ∧ m = l.length - k ∧ k ≤ l.length ∧ idxI p (l.drop k) k = idxI p l 0) l.length ⟨0,rfl,by simp only [go_sem]<;>rfl,by omega,Nat.zero_le _,by simp⟩ ?_
 rintro m t o ⟨k,rfl,h8,rfl,hk,hi⟩
 repeat (first | refine nav ?_ | refine bo ?_)
 (refine wr fun K R hK hR=>?_;simp only [go_sem,h8];(try go_ints);(try simp only [go_sem,h8]);(repeat refine And.intro side ?_);(first|refine hK _ ?_|refine hR _ _ ?_);clear hK hR K R)
 repeat (first | refine nav ?_ | refine bo ?_)
 refine W_cond (by simp only [go_sem]<;>exact rfl) (fun hb=>?_) (fun hb=>?_)
 ·simp at hb
  obtain ⟨x,hx⟩ : ∃ x,l[k]? = some x:=⟨_,List.getElem?_eq_getElem hb⟩
  rw [drop_cons hx,idxI] at hi
  repeat (first | refine nav ?_ | refine bo ?_)
  (refine wr fun K R hK hR=>?_;simp only [go_sem,h8];(try go_ints);(try simp only [go_sem,h8]);(repeat refine And.intro side ?_);(first|refine hK _ ?_|refine hR _ _ ?_);clear hK hR K R)
  repeat (first | refine nav ?_ | refine bo ?_)
  (refine wr fun K R hK hR=>?_;simp only [go_sem,h8,plans_get hx];(try go_ints);(try simp only [go_sem,h8,plans_get hx]);(repeat refine And.intro side ?_);(first|refine hK _ ?_|refine hR _ _ ?_);clear hK hR K R)
  refine RL_callQ (h x (List.mem_of_getElem? hx)) (by simp only [go_sem]<;>exact rfl) rfl rfl (by simp) (by simp only [go_sem,hcd]<;>exact LeA.refl _) ho ?_ rfl ?_
  ·simpa [AV.ltk,AV.ltks] using hc
  (refine rr fun K R hK hR=>?_;simp only [go_sem];(try go_ints);(repeat refine And.intro side ?_);(first|refine hK _ ?_|refine hR _ _ ?_);clear hK hR K R)
  repeat (first | refine nav ?_ | refine bo ?_)
  refine W_cond (by simp only [go_sem]<;>exact rfl) (fun hb=>?_) (fun hb=>?_)
  ·rw [if_pos hb] at hi
   repeat (first | refine nav ?_ | refine bo ?_)
   (refine wr fun K R hK hR=>?_;simp only [go_sem];(try go_ints);(repeat refine And.intro side ?_);(first|refine hK _ ?_|refine hR _ _ ?_);clear hK hR K R)
   repeat (first | refine nav ?_ | refine bo ?_)
   refine endQ_quiet0 (by simp only [go_sem]<;>exact rfl) (Le.of_eq ?_) (by assumption) rfl
   rw [hi]
  ·rw [if_neg (by simp [hb])] at hi
   repeat (first | refine nav ?_ | refine bo ?_)
   (refine wr fun K R hK hR=>?_;simp only [go_sem,h8];(try go_ints);(try simp only [go_sem,h8]);(repeat refine And.intro side ?_);(first|refine hK _ ?_|refine hR _ _ ?_);clear hK hR K R)
   refine forQ_normal (l.length - (k + 1)) (by omega) ⟨k + 1,?_⟩
   ((try simp only [go_sem]);(repeat' refine And.intro ?_ ?_)<;>(try first | with_reducible rfl | omega | with_reducible assumption | (simp;done)))
   exact hi
 ·simp at hb
  have : k = l.length:=by omega
  subst this
  simp [idxI] at hi
  repeat (first | refine nav ?_ | refine bo ?_)
  (refine wr fun K R hK hR=>?_;simp only [go_sem];(try go_ints);(repeat refine And.intro side ?_);(first|refine hK _ ?_|refine hR _ _ ?_);clear hK hR K R)
  repeat (first | refine nav ?_ | refine bo ?_)
  refine endQ_quiet0 (by simp only [go_sem]<;>exact rfl) (Le.of_eq ?_) (by assumption) rfl
  rw [hi]
theorem containsPlan_spec {oc : List Ob} (ho : okO oc = true) {f : FuncId} {caps : List AV} (hc : caps.all (AV.ltk oc.length) = true) (hcd : caps.map AV.dat = caps) (p : PlanD → Bool) (l : List PlanD) (hl : l.length ≤ 1099511627776)
  (h : ∀ x ∈ l,ACallsQ Tryz.prog f (.agg [.i .i64 x.kind,.i .i64 x.width,.i .i64 x.i,.i .i64 x.j,.s x.name,.sl 1 (ints x.cols),.sl 7 (plans x.kids)] :: caps) oc (.b (p x))) : ACallsQ Tryz.prog 54 [.sl 7 (plans l),.fn f caps] oc (.b (l.any p)):=by
 refine ACalls_of' (n:=9) (rs:=[.tmp 4]) (show Tryz.prog.funcs[54]? = some Tryz.f54 by kernel_rfl) rfl rfl rfl (by simp) (by decide +kernel) ?_
 repeat (first | refine nav ?_ | refine bo ?_)
 (refine wr fun K R hK hR=>?_;simp only [go_sem];(try go_ints);(repeat refine And.intro side ?_);(first|refine hK _ ?_|refine hR _ _ ?_);clear hK hR K R)
 repeat (first | refine nav ?_ | refine bo ?_)
 (refine wr fun K R hK hR=>?_;simp only [go_sem];(try go_ints);(repeat refine And.intro side ?_);(first|refine hK _ ?_|refine hR _ _ ?_);clear hK hR K R)
 refine RL_callQ (indexPlan_spec ho hc hcd p l hl h) (by simp only [go_sem]<;>exact rfl) rfl rfl (by simp) (by simp only [go_sem]) ho ?_ rfl ?_
 ·simpa [AV.ltk,ltks_all] using hc
 (refine rr fun K R hK hR=>?_;simp only [go_sem];(try go_ints);(repeat refine And.intro side ?_);(first|refine hK _ ?_|refine hR _ _ ?_);clear hK hR K R)
 repeat (first | refine nav ?_ | refine bo ?_)
 refine endQ_quiet0 (by simp only [go_sem]<;>exact rfl) (Le.of_eq ?_) (by assumption) rfl
 rw [idxI_any p l 0 (by omega)]
theorem large_spec (n : Nat) (hn : 1 ≤ n) (hn2 : n ≤ 64) : ∀ (p : PlanD),p.Sm → 0 ≤ widthR p → ACallsD Tryz.prog 32 [.agg p.cells,.i .i64 n] (.b (largeB n p)) :=
 PlanD.ind fun p ih hp h=>by
  have hle:=(widthR_le p).2
  have hws:=width_spec p hp h
  have hsm:=hp.len
  obtain ⟨w,hw⟩ : ∃ w : Nat,widthR p = w:=⟨(widthR p).toNat,by omega⟩
  have hlb:=largeB_eq n hn p
  have hpe : powerF n w = if 4096 < n ^ w then (0,5) else (((n ^ w : Nat) : Int),0):=by
   unfold powerF
   rw [if_neg (by omega),Int.toNat_natCast,powL_one n hn]
   by_cases hc : n ^ w ≤ 4096
   ·rw [if_pos hc,if_neg (by omega),if_neg (by omega)]
   ·rw [if_neg hc,if_pos (by omega),if_pos (by omega)]
  have hps:=power2_spec n w
  rw [hpe] at hps
  rw [hw] at hws hlb
  rw [Int.toNat_natCast] at hlb
  rw [p.cells_eq] at hws ⊢
  generalize hN : n ^ w = M at *
  refine ACalls_of' (n:=20) (rs:=[.tmp 4]) (show Tryz.prog.funcs[32]? = some Tryz.f32 by kernel_rfl) rfl rfl rfl (by simp) (by decide +kernel) ?_
  repeat (first | refine nav ?_ | refine bo ?_)
  (refine wr fun K R hK hR=>?_;simp only [go_sem];(try go_ints);(repeat refine And.intro side ?_);(first|refine hK _ ?_|refine hR _ _ ?_);clear hK hR K R)
  repeat (first | refine nav ?_ | refine bo ?_)
  by_cases hc : 4096 < M
  ·rw [if_pos hc] at hps
   simp only at hps
   rw [hlb,decide_eq_true hc,Bool.true_or]
   (refine W_dreg (by decide +kernel) [] [0,1,2,3,4,5,6,7,8] [[],[],[1],[1,2,0],[0,2,1,3],[3,1,2,0,4],[3,1,2,0,4],[4,0,2,1,3,5],[5,7,4,0,2,1,3,6]] (by decide +kernel) rfl fun K R hK hR=>?_;simp only [List.filterMap_cons,List.filterMap_nil,List.getElem?_cons_zero,List.getElem?_cons_succ,List.cons_append,List.nil_append];simp only [go_sem];(try go_ints);(repeat refine And.intro side ?_);(first|refine hK _ ?_|refine hR _ _ ?_);clear hK hR K R)
   refine D_callD (hws) rfl rfl rfl (by first | (simp only [go_sem]<;>first | exact LeA.refl _ | exact Le.refl _) | exact LeA.refl _) rfl rfl rfl rfl ?_
   (refine D_reg fun K R hK hR=>?_;simp only [go_sem];(try go_ints);(repeat refine And.intro side ?_);(first|refine hK _ ?_|refine hR _ _ ?_);clear hK hR K R)
   refine D_callD (hps) rfl rfl rfl (by first | (simp only [go_sem]<;>first | exact LeA.refl _ | exact Le.refl _) | exact LeA.refl _) rfl rfl rfl rfl ?_
   (refine D_reg fun K R hK hR=>?_;simp only [go_sem];(try go_ints);(repeat refine And.intro side ?_);(first|refine hK _ ?_|refine hR _ _ ?_);clear hK hR K R)
   repeat (first | refine nav ?_ | refine bo ?_)
   (refine wr fun K R hK hR=>?_;simp only [go_sem];(try go_ints);(repeat refine And.intro side ?_);(first|refine hK _ ?_|refine hR _ _ ?_);clear hK hR K R)
   repeat (first | refine nav ?_ | refine bo ?_)
   refine W_cond (b:=true) (by simp only [go_sem]<;>rfl) (fun _=>?_) (fun hb=>by cases hb)
   repeat (first | refine nav ?_ | refine bo ?_)
   (refine wr fun K R hK hR=>?_;simp only [go_sem];(try go_ints);(repeat refine And.intro side ?_);(first|refine hK _ ?_|refine hR _ _ ?_);clear hK hR K R)
   repeat (first | refine nav ?_ | refine bo ?_)
   refine endQ_data (by simp only [go_sem]<;>exact rfl) (Le.of_eq ?_) rfl
   rfl
  ·rw [if_neg hc] at hps
   simp only at hps
   rw [hlb,decide_eq_false hc,Bool.false_or]
   (refine W_dreg (by decide +kernel) [] [0,1,2,3,4,5,6,7,8] [[],[],[1],[1,2,0],[0,2,1,3],[3,1,2,0,4],[3,1,2,0,4],[4,0,2,1,3,5],[5,7,4,0,2,1,3,6]] (by decide +kernel) rfl fun K R hK hR=>?_;simp only [List.filterMap_cons,List.filterMap_nil,List.getElem?_cons_zero,List.getElem?_cons_succ,List.cons_append,List.nil_append];simp only [go_sem];(try go_ints);(repeat refine And.intro side ?_);(first|refine hK _ ?_|refine hR _ _ ?_);clear hK hR K R)
   refine D_callD (hws) rfl rfl rfl (by first | (simp only [go_sem]<;>first | exact LeA.refl _ | exact Le.refl _) | exact LeA.refl _) rfl rfl rfl rfl ?_
   (refine D_reg fun K R hK hR=>?_;simp only [go_sem];(try go_ints);(repeat refine And.intro side ?_);(first|refine hK _ ?_|refine hR _ _ ?_);clear hK hR K R)
   refine D_callD (hps) rfl rfl rfl (by first | (simp only [go_sem]<;>first | exact LeA.refl _ | exact Le.refl _) | exact LeA.refl _) rfl rfl rfl rfl ?_
   (refine D_reg fun K R hK hR=>?_;simp only [go_sem];(try go_ints);(repeat refine And.intro side ?_);(first|refine hK _ ?_|refine hR _ _ ?_);clear hK hR K R)
   repeat (first | refine nav ?_ | refine bo ?_)
   (refine wr fun K R hK hR=>?_;simp only [go_sem];(try go_ints);(repeat refine And.intro side ?_);(first|refine hK _ ?_|refine hR _ _ ?_);clear hK hR K R)
   repeat (first | refine nav ?_ | refine bo ?_)
   refine W_cond (b:=false) (by simp only [go_sem]<;>rfl) (fun hb=>by cases hb) (fun _=>?_)
   repeat (first | refine nav ?_ | refine bo ?_)
   (refine wr fun K R hK hR=>?_;simp only [go_sem];(try go_ints);(repeat refine And.intro side ?_);(first|refine hK _ ?_|refine hR _ _ ?_);clear hK hR K R)
   refine RL_callQ (containsPlan_spec (f:=55) (oc:=[boxQ p,.cells 1 [[.i .i64 n]]]) (by rfl) (caps:=[.ptr 1 0 0]) (by rfl) rfl (largeB n) p.kids (by omega) fun q hq=>?_) (by simp only [go_sem]<;>exact rfl) rfl rfl (by simp) (by simp only [go_sem]) (by rfl) (by simp [AV.ltk,AV.ltks]) rfl ?_
   ·have ihq:=ih q hq (hp.kid q hq) (width_kid h q hq)
    rw [q.cells_eq] at ihq
    refine ACalls_of' (n:=7) (rs:=[.tmp 3]) (show Tryz.prog.funcs[55]? = some Tryz.f55 by kernel_rfl) rfl rfl rfl (by simp) (by decide +kernel) ?_
    repeat (first | refine nav ?_ | refine bo ?_)
    (refine wr fun K R hK hR=>?_;simp only [go_sem];(try go_ints);(repeat refine And.intro side ?_);(first|refine hK _ ?_|refine hR _ _ ?_);clear hK hR K R)
    repeat (first | refine nav ?_ | refine bo ?_)
    (refine wr fun K R hK hR=>?_;simp only [go_sem];(try go_ints);(repeat refine And.intro side ?_);(first|refine hK _ ?_|refine hR _ _ ?_);clear hK hR K R)
    refine RL_callF (ihq) rfl rfl rfl (by first | (simp only [go_sem]<;>first | exact LeA.refl _ | exact Le.refl _) | exact LeA.refl _) rfl rfl ?_
    (refine rr fun K R hK hR=>?_;simp only [go_sem];(try go_ints);(repeat refine And.intro side ?_);(first|refine hK _ ?_|refine hR _ _ ?_);clear hK hR K R)
    repeat (first | refine nav ?_ | refine bo ?_)
    refine endQ_quiet (by simp only [go_sem]<;>exact rfl) (Le.of_eq ?_) (by rfl) rfl
    rfl
   (refine rr fun K R hK hR=>?_;simp only [go_sem];(try go_ints);(repeat refine And.intro side ?_);(first|refine hK _ ?_|refine hR _ _ ?_);clear hK hR K R)
   repeat (first | refine nav ?_ | refine bo ?_)
   refine endQ_data (by simp only [go_sem]<;>exact rfl) (Le.of_eq ?_) rfl
   rfl
end Go.AW
namespace Go.AW
open Go Go.Proofs TyTryz Go.IntWalk
set_option linter.unusedSimpArgs false
set_option linter.unusedVariables false
set_option maxRecDepth 10000
set_option maxHeartbeats 1000000
theorem OpW_eqNil {P : Program} {n : Nat} {s : St} {o : Oper} {T T2 e : TypeId} {x d sz : Nat} {rows : List (List AV)} {K : St → Prop} (hop : o.op = .binOp .eql T (.tmp x) (.const (.slice none 0 0)) T2)
  (hu : ukOf P T = .slice e) (hd : o.dst = some d) (hdn : d < n) (hx : s.t x = .sl sz rows) (hK : ∀ b,K ⟨upd s.t d (.b b),s.o⟩) : OpW P n o s K:=by
 intro g ac w hn hat0
 subst hn
 obtain ⟨⟨m,reg,h1,h2,h3⟩,h4,h5,h6⟩:=hat0
 have vx:=h1.tv x
 rw [hx] at vx
 simp only [V] at vx
 obtain ⟨a1,c1,hux,_⟩:=vx
 have e:=eqS (P:=P) (w:=w) 9999 (uk_slice hu)
 have heq : (Op.equal T (.slice a1 rows.length c1) (.slice none 0 0)).run P w = .ok a1.isNone w:=by
  unfold Op.equal
  rw [show Op.maxDepth = 9999 + 1 from rfl]
  generalize 9999 = dd at *
  cases a1 with
  | none=>unfold Op.equalIn;rw [srun_bind_ok (run_und (uk_slice hu))];rfl
  | some q=>exact e.2.2 _ _ _
 have hexec : (execOp ac.eval o).run P w = .ok (.value (.bool a1.isNone)) w:=by
  unfold execOp
  rw [hop]
  simp only
  have e1 : ac.eval (.tmp x) = .slice a1 rows.length c1:=hux
  have e2 : ac.eval (.const (.slice none 0 0)) = .slice none 0 0:=rfl
  have e3 : eqGuard .eql T (.tmp x) (.const (.slice none 0 0)) (.slice a1 rows.length c1) (.slice none 0 0) = pure ():=by unfold eqGuard;split<;>rfl
  rw [e1,e2,e3]
  show Sem.run P (do let v ← binOp .eql T (.slice a1 rows.length c1) (.slice none 0 0);pure (Next.value v)) w = _
  rw [srun_bind_ok (binOp_eql_nilish rfl rfl heq).1];rfl
 refine Oper.wp_mono (fun a' w' h=>h) ((Does.wp (s':=⟨upd s.t d (.b a1.isNone),s.o⟩) (.inl ⟨_,_,hexec,?_⟩)) (fun a' w' h'=>⟨_,hK _,h'⟩))
 rw [hd]
 exact At.put (d:=some d) (av:=.b a1.isNone) (s:=⟨s.t,_⟩) h1 h2 h3 h4 h5 h6 (by simpa [dstOk] using hdn) (by simp only [V]) (.inl rfl)
theorem clone0_spec : ACallsD Tryz.prog 35 [.sl 1 []] (.sl 1 []):=by
 refine ACalls_of' (n:=8) (rs:=[.tmp 2]) (show Tryz.prog.funcs[35]? = some Tryz.f35 by kernel_rfl) rfl rfl rfl (by simp) (by decide +kernel) ?_
 repeat (first | refine nav ?_ | refine bo ?_)
 (refine wr fun K R hK hR=>?_;simp only [go_sem];(try go_ints);(repeat refine And.intro side ?_);(first|refine hK _ ?_|refine hR _ _ ?_);clear hK hR K R)
 repeat (first | refine nav ?_ | refine bo ?_)
 (refine W_part [] 1 fun R hR=>?_;simp only [go_sem];(try go_ints);(repeat refine And.intro side ?_);refine hR _ _ ?_;clear hR R)
 refine RL_cons rfl (OpW_eqNil rfl rfl rfl (by decide) (by simp only [go_sem]<;>rfl) fun b=>?_)
 (refine rr fun K R hK hR=>?_;simp only [go_sem];(try go_ints);(repeat refine And.intro side ?_);(first|refine hK _ ?_|refine hR _ _ ?_);clear hK hR K R)
 repeat (first | refine nav ?_ | refine bo ?_)
 refine W_cond (b:=b) (by simp only [go_sem]) (fun hb=>?_) (fun hb=>?_)
 ·repeat (first | refine nav ?_ | refine bo ?_)
  (refine wr fun K R hK hR=>?_;simp only [go_sem];(try go_ints);(repeat refine And.intro side ?_);(first|refine hK _ ?_|refine hR _ _ ?_);clear hK hR K R)
  repeat (first | refine nav ?_ | refine bo ?_)
  refine endQ_data (by simp only [go_sem]<;>exact rfl) (Le.dat _ _) rfl
 ·repeat (first | refine nav ?_ | refine bo ?_)
  (refine W_reg [5] fun K R hK hR=>?_;simp only [go_sem,and_self,↓reduceIte];(try go_ints);(try simp only [go_sem,and_self,↓reduceIte]);(repeat refine And.intro side ?_);(first|refine hK _ ?_|refine hR _ _ ?_);clear hK hR K R)
  repeat (first | refine nav ?_ | refine bo ?_)
  refine endQ_data (by simp only [go_sem]<;>exact rfl) (Le.dat _ _) rfl
theorem clone_spec (l : List Int) (hl : l.length ≤ 1048576) : ACallsD Tryz.prog 35 [.sl 1 (ints l)] (.sl 1 (ints l)):=by
 rcases Nat.eq_zero_or_pos l.length with h | h
 ·have : l = []:=List.length_eq_zero_iff.1 h
  subst this
  exact clone0_spec
 have il : (ints l).length = l.length:=by simp [ints]
 refine ACalls_of' (n:=8) (rs:=[.tmp 2]) (show Tryz.prog.funcs[35]? = some Tryz.f35 by kernel_rfl) rfl rfl rfl (by simp) (by decide +kernel) ?_
 repeat (first | refine nav ?_ | refine bo ?_)
 (refine wr fun K R hK hR=>?_;simp only [go_sem];(try go_ints);(repeat refine And.intro side ?_);(first|refine hK _ ?_|refine hR _ _ ?_);clear hK hR K R)
 repeat (first | refine nav ?_ | refine bo ?_)
 (refine wr fun K R hK hR=>?_;simp only [go_sem,h,il];(try go_ints);(try simp only [go_sem,h,il]);(repeat refine And.intro side ?_);(first|refine hK _ ?_|refine hR _ _ ?_);clear hK hR K R)
 repeat (first | refine nav ?_ | refine bo ?_)
 refine W_cond (b:=false) (by simp only [go_sem]) (fun hb=>by cases hb) (fun _=>?_)
 repeat (first | refine nav ?_ | refine bo ?_)
 (refine W_reg [5] fun K R hK hR=>?_;simp only [go_sem,il,and_self,↓reduceIte];(try go_ints);(try simp only [go_sem,il,and_self,↓reduceIte]);(repeat refine And.intro side ?_);(first|refine hK _ ?_|refine hR _ _ ?_);clear hK hR K R)
 repeat (first | refine nav ?_ | refine bo ?_)
 refine endQ_data (by simp only [go_sem]<;>exact rfl) (Le.dat _ _) rfl
end Go.AW
namespace Go.AW
open Go Go.Proofs TyTryz Go.IntWalk
set_option linter.unusedSimpArgs false
set_option linter.unusedVariables false
set_option maxRecDepth 10000
set_option maxHeartbeats 1000000
def relF (s : StrD) (nm : ByteArray) (w : Int) : List (List Int):=match s.rels[(findF s nm w).toNat]? with
 | some r=>r.tuples
 | none=>[]
def stepV (s : StrD) (p : PlanD) (vs : List (List (List Int))) : List (List Int) :=
 if p.kind = 0 then relF s p.name p.width
 else if p.kind = 1 then allT s.size.toNat p.width.toNat
 else if p.kind = 2 ∨ p.kind = 3 then (vs.getD 0 []).filter (pickF p)
 else if p.kind = 4 then joinF (vs.getD 0 []) (vs.getD 1 [])
 else if p.kind = 5 then sortT ((vs.getD 0 []).map (placesF p.cols))
 else if p.kind = 6 then unionF (vs.getD 0 []) (vs.getD 1 [])
 else minusF (vs.getD 0 []) (vs.getD 1 [])
mutual
def valF (s : StrD) : PlanD → List (List Int)
 | .mk k w i j nm cs ks=>stepV s (.mk k w i j nm cs ks) (valL s ks)
def valL (s : StrD) : List PlanD → List (List (List Int))
 | []=>[]
 | p :: r=>valF s p :: valL s r
end
theorem valL_map (s : StrD) : ∀ l : List PlanD,valL s l = l.map (valF s)
 | []=>rfl
 | p :: r=>by simp only [valL,List.map_cons,valL_map s r]
theorem valF_eq (s : StrD) (p : PlanD) : valF s p = stepV s p (p.kids.map (valF s)):=by
 cases p;simp only [valF,valL_map,PlanD.kids]
theorem symsL_mem {x : ByteArray × Int} : ∀ {l : List PlanD} {q : PlanD},q ∈ l → x ∈ symsF q → x ∈ symsL l
 | p :: r,q,hq,hx=>by
  simp only [symsL,List.mem_append]
  rcases List.mem_cons.1 hq with rfl | hq
  ·exact .inl hx
  ·exact .inr (symsL_mem hq hx)
theorem relOk_tab {n : Nat} {r : RelD} (h : relOk n r = true) : 0 ≤ r.arity ∧ r.arity ≤ 12 ∧ Tab n r.arity.toNat r.tuples:=by
 simp only [relOk,Bool.and_eq_true,decide_eq_true_eq] at h
 obtain ⟨⟨⟨⟨_,h0⟩,h12⟩,_⟩,ht⟩:=h
 refine ⟨h0,h12,?_⟩
 rw [tuplesF,List.all_eq_true] at ht
 have key : ∀ i t,r.tuples[i]? = some t → ((t.length : Int) = r.arity ∧ (∀ x : Int,x ∈ t → 0 ≤ x ∧ x < n) ∧ (i = 0 ∨ cmpL (r.tuples.getD (i - 1) []) t < 0)):=by
  intro i t hi
  have h1:=ht i (by simpa using (List.getElem?_eq_some_iff.1 hi).1)
  simp only [tupOk,List.getD_eq_getElem?_getD,hi,Option.getD_some,Bool.and_eq_true,beq_iff_eq,Bool.not_eq_true',List.any_eq_false,Bool.or_eq_true,decide_eq_true_eq] at h1
  refine ⟨h1.1.1,fun x hx=>?_,by rw [List.getD_eq_getElem?_getD];exact h1.2⟩
  have:=h1.1.2 x hx
  omega
 constructor
 ·unfold Up
  rw [List.pairwise_iff_getElem]
  intro i j hi hj hij
  have step : ∀ d i,(hh : i + (d + 1) < r.tuples.length) → cmpL (r.tuples.getD i []) (r.tuples.getD (i + (d + 1)) []) < 0:=by
   intro d
   induction d with
   | zero =>
    intro i hh
    have:=key (i + 1) _ (List.getElem?_eq_getElem hh)
    have h2:=this.2.2.resolve_left (by omega)
    rw [show r.tuples.getD (i + (0 + 1)) [] = r.tuples[i + 1] by simp [hh]]
    exact h2
   | succ d ih =>
    intro i hh
    have h1:=ih i (by omega)
    have:=key (i + (d + 1) + 1) _ (List.getElem?_eq_getElem (by omega))
    have h2:=this.2.2.resolve_left (by omega)
    rw [show r.tuples.getD (i + (d + 1 + 1)) [] = r.tuples[i + (d + 1) + 1]'(by omega) by rw [List.getD_eq_getElem?_getD,show i + (d + 1 + 1) = i + (d + 1) + 1 by omega,List.getElem?_eq_getElem (by omega)];rfl]
    exact cmpL_trans h1 h2
  have:=step (j - i - 1) i (by omega)
  rw [show i + (j - i - 1 + 1) = j by omega] at this
  simpa [hi,hj] using this
 ·intro t ht'
  obtain ⟨i,hi⟩:=List.getElem?_of_mem ht'
  have:=key i t hi
  exact ⟨by omega,this.2.1⟩
theorem valid_size {s : StrD} (h : validF s = true) : ∃ n : Nat,s.size = n ∧ 1 ≤ n ∧ n ≤ 64 ∧ s.rels.length ≤ 8 ∧ ∀ r ∈ s.rels,relOk n r = true:=by
 simp only [validF,Bool.and_eq_true,decide_eq_true_eq,List.all_eq_true,List.mem_range] at h
 obtain ⟨⟨⟨h1,h2⟩,h3⟩,h4⟩:=h
 refine ⟨s.size.toNat,by omega,by omega,by omega,by omega,fun r hr=>?_⟩
 obtain ⟨i,hi⟩:=List.getElem?_of_mem hr
 have:=h4 i (List.getElem?_eq_some_iff.1 hi).1
 rw [hi] at this
 simp only [Bool.and_eq_true] at this
 rw [show ((s.size.toNat : Nat) : Int) = s.size by omega]
 exact this.1
theorem find_get {s : StrD} {nm : ByteArray} {w : Int} (h : 0 ≤ findF s nm w) : ∃ r,s.rels[(findF s nm w).toNat]? = some r ∧ r.name.toList = nm.toList ∧ r.arity = w:=by
 obtain ⟨j,hj⟩ : ∃ j : Nat,findF s nm w = j:=⟨_,(Int.toNat_of_nonneg h).symm⟩
 rw [hj]
 unfold findF at hj
 obtain ⟨_,x,hx,hp⟩:=idxI_get _ s.rels 0 j (by simpa using hj)
 simp only [Bool.and_eq_true,beq_iff_eq] at hp
 exact ⟨x,by simpa using hx,hp.1,hp.2⟩
def Named (s : StrD) (p : PlanD) : Prop:=∀ x ∈ symsF p,0 ≤ findF s x.1 x.2
theorem Named.kid {s : StrD} {p q : PlanD} (h : Named s p) (hk : p.kind ≠ 0) (hq : q ∈ p.kids) : Named s q:=fun x hx=>h x (by
 rw [symsF_eq,if_neg hk];exact symsL_mem hq hx)
theorem val_tab {s : StrD} {n : Nat} (hn : s.size = n) (hn1 : 1 ≤ n) (hrel : ∀ r ∈ s.rels,relOk n r = true) : ∀ (p : PlanD),0 ≤ widthR p → Named s p → Tab n (widthR p).toNat (valF s p) :=
 PlanD.ind fun p ih h hnm=>by
  rw [valF_eq]
  cases node_of h with
  | rel e hk hnn hw =>
   rw [stepV,if_pos e,hw]
   have hx:=hnm (p.name,p.width) (by rw [symsF_eq,if_pos e];simp)
   obtain ⟨r,hr,_,ha⟩:=find_get hx
   unfold relF
   rw [hr]
   have:=relOk_tab (hrel r (List.mem_of_getElem? hr))
   rw [ha] at this
   exact this.2.2
  | all e hk hw =>
   rw [stepV,if_neg (by omega),if_pos e,hw,hn,Int.toNat_natCast]
   exact allT_tab n _ hn1
  | pick a e hk h1 hw =>
   have iha:=ih a (by rw [hk];simp) h1 (hnm.kid (by omega) (by rw [hk];simp))
   rw [stepV,if_neg (by omega),if_neg (by omega),if_pos e,hk,hw]
   exact iha.filter _
  | join a b e hk h1 h2 hw =>
   have iha:=ih a (by rw [hk];simp) h1 (hnm.kid (by omega) (by rw [hk];simp))
   have ihb:=ih b (by rw [hk];simp) h2 (hnm.kid (by omega) (by rw [hk];simp))
   rw [stepV,if_neg (by omega),if_neg (by omega),if_neg (by omega),if_pos e,hk,hw,Int.toNat_add h1 h2]
   exact joinF_tab iha ihb
  | project a e hk h1 hw hin =>
   have iha:=ih a (by rw [hk];simp) h1 (hnm.kid (by omega) (by rw [hk];simp))
   rw [stepV,if_neg (by omega),if_neg (by omega),if_neg (by omega),if_neg (by omega),if_pos e,hk,hw,Int.toNat_natCast]
   refine sortT_tab fun t ht=>?_
   obtain ⟨u,hu,rfl⟩:=List.mem_map.1 ht
   exact places_in (iha.el u hu) fun c hc=>by have:=hin c hc;omega
  | two a b e hk h1 h2 hw =>
   have iha:=ih a (by rw [hk];simp) h1 (hnm.kid (by omega) (by rw [hk];simp))
   have ihb:=ih b (by rw [hk];simp) (by omega) (hnm.kid (by omega) (by rw [hk];simp))
   rw [stepV,if_neg (by omega),if_neg (by omega),if_neg (by omega),if_neg (by omega),if_neg (by omega),hk,hw]
   rcases e with e | e
   ·rw [if_pos e]
    refine sortT_tab fun t ht=>?_
    rcases List.mem_append.1 ht with ht | ht
    ·exact iha.el t ht
    ·rw [h2];exact ihb.el t ht
   ·rw [if_neg (by omega)]
    exact iha.filter _
theorem big_kid {n : Nat} (hn : 1 ≤ n) {p : PlanD} (h : largeB n p = false) : n ^ (widthR p).toNat ≤ 4096 ∧ ∀ q ∈ p.kids,largeB n q = false:=by
 rw [largeB_eq n hn,Bool.or_eq_false_iff,decide_eq_false_iff_not] at h
 refine ⟨by omega,fun q hq=>?_⟩
 have:=List.any_eq_false.1 h.2 q hq
 simpa using this
theorem runs_all {s : StrD} {n : Nat} (hn : s.size = n) (hn1 : 1 ≤ n) (hn2 : n ≤ 64) (hr8 : s.rels.length ≤ 8) (hrel : ∀ r ∈ s.rels,relOk n r = true) : ∀ (p : PlanD),0 ≤ widthR p → Named s p → largeB n p = false → Runs s p (valF s p) :=
 PlanD.ind fun p ih h hnm hlg=>by
  have hb:=big_kid hn1 hlg
  have hwl:=(widthR_le p).2
  have kidT : ∀ q ∈ p.kids,p.kind ≠ 0 → Tab n (widthR q).toNat (valF s q) ∧ (valF s q).length ≤ 4096 ∧ (∀ t ∈ valF s q,t.length ≤ 12):=fun q hq h0=>by
   have ht:=val_tab hn hn1 hrel q (width_kid h q hq) (hnm.kid h0 hq)
   have:=ht.len hn1
   have hk:=(big_kid hn1 (hb.2 q hq)).1
   have hwq:=(widthR_le q).2
   exact ⟨ht,by omega,fun t htm=>by rw [(ht.el t htm).1];omega⟩
  have kidR : ∀ q ∈ p.kids,p.kind ≠ 0 → Runs s q (valF s q):=fun q hq h0=>ih q hq (width_kid h q hq) (hnm.kid h0 hq) (hb.2 q hq)
  have e8 : 0 ≤ p.kind ∧ p.kind < 8:=by
   cases node_of h with
   | rel e=>omega
   | all e=>omega
   | pick a e=>omega
   | join a b e=>omega
   | project a e=>omega
   | two a b e=>omega
  have hkl : p.kids.length ≤ 2:=by
   cases node_of h with
   | rel e hk=>rw [hk];simp
   | all e hk=>rw [hk];simp
   | pick a e hk=>rw [hk];simp
   | join a b e hk=>rw [hk];simp
   | project a e hk=>rw [hk];simp
   | two a b e hk=>rw [hk];simp
  have hval:=valF_eq s p
  refine run_step s p (p.kids.map (valF s)) _ e8 (by omega) (by simp) (fun i x l hx hl=>?_) ?_
  ·rw [List.getElem?_map,hx] at hl
   simp only [Option.map_some,Option.some.injEq] at hl
   subst hl
   have h0 : p.kind ≠ 0:=by
    intro e
    cases node_of h with
    | rel e hk=>rw [hk] at hx;cases hx
    | all e'=>omega
    | pick a e'=>omega
    | join a b e'=>omega
    | project a e'=>omega
    | two a b e'=>omega
   exact kidR x (List.mem_of_getElem? hx) h0
  rw [hval]
  cases node_of h with
  | rel e hk hnn hw =>
   rw [stepV,if_pos e,hk]
   have hx:=hnm (p.name,p.width) (by rw [symsF_eq,if_pos e];simp)
   obtain ⟨r,hr,_,ha⟩:=find_get hx
   have hf:=find_spec s (by omega) p.name p.width
   unfold relF
   rw [hr]
   rw [show findF s p.name p.width = ((findF s p.name p.width).toNat : Int) from (Int.toNat_of_nonneg hx).symm] at hf
   exact rel_spec (by omega) e hf hr
  | all e hk hw =>
   rw [stepV,if_neg (by omega),if_pos e,hk,hn,Int.toNat_natCast]
   have hb1:=hb.1
   rw [hw] at hb1
   exact all_meth e hn hn1 hn2 (show p.width = ((p.width.toNat : Nat) : Int) by omega) (by omega) hb1
  | pick a e hk h1 hw i0 i1 j0 j1 =>
   obtain ⟨ta,la,wa⟩:=kidT a (by rw [hk];simp) (by omega)
   rw [stepV,if_neg (by omega),if_neg (by omega),if_pos e,hk]
   refine meth_any ?_
   have hm : methF p.kind = 58:=by rcases e with e | e<;>rw [e]<;>rfl
   rw [hm]
   refine pick_spec p (valF s a) e (by omega) (fun x hx=>by have:=wa x hx;omega) fun x hx=>?_
   have:=(ta.el x hx).1
   omega
  | join a b e hk h1 h2 hw =>
   obtain ⟨ta,la,wa⟩:=kidT a (by rw [hk];simp) (by omega)
   obtain ⟨tb,lb,wb⟩:=kidT b (by rw [hk];simp) (by omega)
   rw [stepV,if_neg (by omega),if_neg (by omega),if_neg (by omega),if_pos e,hk]
   have hab : (valF s a).length * (valF s b).length ≤ 4096:=by
    have:=Nat.mul_le_mul (ta.len hn1) (tb.len hn1)
    rw [← Nat.pow_add,← Int.toNat_add h1 h2,← hw] at this
    have:=hb.1
    omega
   exact meth_join _ _ e (by omega) (by omega) (by omega) (fun t ht=>by have:=wa t ht;omega) (fun t ht=>by have:=wb t ht;omega)
  | project a e hk h1 hw hin =>
   obtain ⟨ta,la,wa⟩:=kidT a (by rw [hk];simp) (by omega)
   rw [stepV,if_neg (by omega),if_neg (by omega),if_neg (by omega),if_neg (by omega),if_pos e,hk]
   have hcl : p.cols.length ≤ 12:=by omega
   refine meth_project (valF s a) _ e (fun hne=>?_) (fun hnil=>?_) (by omega) (by omega) (fun t ht=>by have:=wa t ht;omega) fun t ht c hc=>?_
   ·exact sorted_spec _ (by simpa using hne) (by simp;omega) (fun x hx=>by
     obtain ⟨u,hu,rfl⟩:=List.mem_map.1 hx
     simp [placesF];omega)
   ·show sortT ((valF s a).map (placesF p.cols)) = []
    rw [hnil];unfold sortT sortL;simp [ddN]
   ·have:=hin c hc
    have:=(ta.el t ht).1
    omega
  | two a b e hk h1 h2 hw =>
   obtain ⟨ta,la,wa⟩:=kidT a (by rw [hk];simp) (by omega)
   obtain ⟨tb,lb,wb⟩:=kidT b (by rw [hk];simp) (by omega)
   rw [stepV,if_neg (by omega),if_neg (by omega),if_neg (by omega),if_neg (by omega),if_neg (by omega),hk]
   rcases e with e | e
   ·rw [if_pos e]
    refine meth_any ?_
    rw [show methF p.kind = 61 by rw [e];rfl]
    exact union_spec p _ _ (by omega) (by omega) (fun t ht=>by have:=wa t ht;omega) (fun t ht=>by have:=wb t ht;omega)
   ·rw [if_neg (by omega)]
    refine meth_any ?_
    rw [show methF p.kind = 62 by rw [e];rfl]
    exact minus_spec p _ _ tb.up.rise (by omega) (by omega) (fun t ht=>by have:=wa t ht;omega) (fun t ht=>by have:=wb t ht;omega)
end Go.AW
namespace Go.AW
open Go Go.Proofs TyTryz Go.IntWalk
set_option linter.unusedSimpArgs false
set_option linter.unusedVariables false
set_option maxRecDepth 10000
set_option maxHeartbeats 2000000
theorem widest_spec : ∀ (p : PlanD),p.Ok → cntF p ≤ 100000 → ACallsD Tryz.prog 20 [.agg p.cells] (.i .i64 (widestF p)) :=
 PlanD.ind fun p ih hp hc=>by
  have hws:=rwidth_spec p hp hc
  have h3:=hp.len
  have hce:=cntF_eq p
  rw [PlanD.cells_eq] at hws ⊢
  refine ACalls_of' (n:=23) (rs:=[.tmp 2]) (show Tryz.prog.funcs[20]? = some Tryz.f20 by kernel_rfl) rfl rfl rfl (by simp) (by decide +kernel) ?_
  repeat (first | refine nav ?_ | refine bo ?_)
  (refine wr fun K R hK hR=>?_;simp only [go_sem];(try go_ints);(repeat refine And.intro side ?_);(first|refine hK _ ?_|refine hR _ _ ?_);clear hK hR K R)
  repeat (first | refine nav ?_ | refine bo ?_)
  (refine wr fun K R hK hR=>?_;simp only [go_sem];(try go_ints);(repeat refine And.intro side ?_);(first|refine hK _ ?_|refine hR _ _ ?_);clear hK hR K R)
  refine RL_callF (hws) rfl rfl rfl (by first | (simp only [go_sem]<;>first | exact LeA.refl _ | exact Le.refl _) | exact LeA.refl _) rfl rfl ?_
  (refine rr fun K R hK hR=>?_;simp only [go_sem];(try go_ints);(repeat refine And.intro side ?_);(first|refine hK _ ?_|refine hR _ _ ?_);clear hK hR K R)
  repeat (first | refine nav ?_ | refine bo ?_)
  (refine wr fun K R hK hR=>?_;simp only [go_sem];(try go_ints);(repeat refine And.intro side ?_);(first|refine hK _ ?_|refine hR _ _ ?_);clear hK hR K R)
  repeat (first | refine nav ?_ | refine bo ?_)
  refine W_for 7 22 [3,4] (fun m t o=>∃ (k : Nat) (w : Int),[boxP p] = o ∧ t 4 = .i .i64 k ∧ t 3 = .i .i64 w ∧ m = p.kids.length - k ∧ k ≤ p.kids.length ∧ widestL w (p.kids.drop k) = widestF p) p.kids.length ⟨0,widthR p,rfl,by simp only [go_sem]<;>rfl,by simp only [go_sem]<;>rfl,by omega,by omega,by rw [widestF_eq];rfl⟩ ?_
  rintro m t o ⟨k,w,rfl,h4,h3',rfl,hk,hi⟩
  repeat (first | refine nav ?_ | refine bo ?_)
  (refine wr fun K R hK hR=>?_;simp only [go_sem,h4];(try go_ints);(try simp only [go_sem,h4]);(repeat refine And.intro side ?_);(first|refine hK _ ?_|refine hR _ _ ?_);clear hK hR K R)
  repeat (first | refine nav ?_ | refine bo ?_)
  refine W_cond (by simp only [go_sem]<;>exact rfl) (fun hb=>?_) (fun hb=>?_)
  ·have hb1 : k < p.kids.length:=by simpa using hb
   obtain ⟨x,hx⟩ : ∃ x,p.kids[k]? = some x:=⟨_,List.getElem?_eq_getElem hb1⟩
   have hxm:=List.mem_of_getElem? hx
   rw [drop_kids hx,widestL] at hi
   have hcm:=cnt_mem hxm
   have ihx:=ih x hxm (hp.kid x hxm) (by omega)
   rw [x.cells_eq] at ihx
   repeat (first | refine nav ?_ | refine bo ?_)
   (refine wr fun K R hK hR=>?_;simp only [go_sem,h4,h3',plans_get hx];(try go_ints);(try simp only [go_sem,h4,h3',plans_get hx]);(repeat refine And.intro side ?_);(first|refine hK _ ?_|refine hR _ _ ?_);clear hK hR K R)
   refine RL_callF (ihx) rfl rfl rfl (by first | (simp only [go_sem]<;>first | exact LeA.refl _ | exact Le.refl _) | exact LeA.refl _) rfl rfl ?_
   (refine rr fun K R hK hR=>?_;simp only [go_sem];(try go_ints);(repeat refine And.intro side ?_);(first|refine hK _ ?_|refine hR _ _ ?_);clear hK hR K R)
   repeat (first | refine nav ?_ | refine bo ?_)
   (refine wr fun K R hK hR=>?_;simp only [go_sem,h4];(try go_ints);(try simp only [go_sem,h4]);(repeat refine And.intro side ?_);(first|refine hK _ ?_|refine hR _ _ ?_);clear hK hR K R)
   refine forQ_normal (p.kids.length - (k + 1)) (by omega) ⟨k + 1,max w (widestF x),rfl,by simp only [go_sem]<;>rfl,by simp only [go_sem]<;>(congr 1;split<;>omega),rfl,hb1,hi⟩
  ·have hb' : k = p.kids.length:=by have : ¬ k < p.kids.length:=(by simpa using hb);omega
   subst hb'
   rw [List.drop_length,widestL] at hi
   repeat (first | refine nav ?_ | refine bo ?_)
   (refine wr fun K R hK hR=>?_;simp only [go_sem,h3'];(try go_ints);(try simp only [go_sem,h3']);(repeat refine And.intro side ?_);(first|refine hK _ ?_|refine hR _ _ ?_);clear hK hR K R)
   repeat (first | refine nav ?_ | refine bo ?_)
   refine endQ_data (by simp only [go_sem]<;>exact rfl) (Le.of_eq ?_) rfl
   rw [hi]
theorem widestL_bd : ∀ (l : List PlanD) (w : Int),(∀ q ∈ l,widestF q ≤ 12) → w ≤ 12 → w ≤ widestL w l ∧ widestL w l ≤ 12
 | [],w,_,h=>⟨Int.le_refl _,h⟩
 | p :: r,w,h1,h=>by
  have:=widestL_bd r (max w (widestF p)) (fun q hq=>h1 q (by simp [hq])) (by have:=h1 p (by simp);omega)
  simp only [widestL];omega
theorem widest_bd : ∀ (p : PlanD),widthR p ≤ widestF p ∧ widestF p ≤ 12 :=
 PlanD.ind fun p ih=>by
  rw [widestF_eq]
  exact widestL_bd p.kids _ (fun q hq=>(ih q hq).2) (widthR_le p).2
theorem pow2_gt (n : Nat) (hn : 1 ≤ n) (k : Nat) : decide (pow2 n k 1 > 4096) = decide (4096 < n ^ k):=by
 rw [pow2_spec n (by omega) k 1 (by omega) (by omega),powL_one n hn]
 by_cases h : n ^ k ≤ 4096
 ·rw [if_pos h,decide_eq_true (by omega),decide_eq_false (by omega)];rfl
 ·rw [if_neg h,decide_eq_false (by omega),decide_eq_true (by omega)];rfl
def checkF (p : PlanD) (s : StrD) : Int :=
 if (!validR p || !validF s) = true then 1 else if fitsF (symsF p) s = false then 4 else if 4096 < s.size.toNat ^ (widestF p).toNat then 5 else 0
theorem check_spec (p : PlanD) (hp : p.Ok) (hc : cntF p ≤ 50000) (s : StrD) (hs : s.Ok) : ACallsD Tryz.prog 8 [.agg p.cells,.agg s.cells] (.i .i64 (checkF p s)):=by
 have hrv:=rvalid_spec p hp hc
 have hsv:=rsvalid_spec s hs
 have hws:=widest_spec p hp (by omega)
 have hss:=rsyms_spec p hp [] .nsl (.inl ⟨rfl,rfl⟩) (by simp;omega)
 have hsl:=symsF_len p
 rw [List.nil_append] at hss
 have hft:=rfits_spec (symsF p) (by omega) s hs
 have hwb:=widest_bd p
 rw [p.cells_eq] at hrv hws hss ⊢
 unfold StrD.cells
 refine ACalls_of' (n:=27) (rs:=[.tmp 4]) (show Tryz.prog.funcs[8]? = some Tryz.f8 by kernel_rfl) rfl rfl rfl (by simp) (by decide +kernel) ?_
 repeat (first | refine nav ?_ | refine bo ?_)
 (refine wr fun K R hK hR=>?_;simp only [go_sem];(try go_ints);(repeat refine And.intro side ?_);(first|refine hK _ ?_|refine hR _ _ ?_);clear hK hR K R)
 repeat (first | refine nav ?_ | refine bo ?_)
 (refine wr fun K R hK hR=>?_;simp only [go_sem];(try go_ints);(repeat refine And.intro side ?_);(first|refine hK _ ?_|refine hR _ _ ?_);clear hK hR K R)
 refine RL_callF (hrv) rfl rfl rfl (by first | (simp only [go_sem]<;>first | exact LeA.refl _ | exact Le.refl _) | exact LeA.refl _) rfl rfl ?_
 (refine rr fun K R hK hR=>?_;simp only [go_sem];(try go_ints);(repeat refine And.intro side ?_);(first|refine hK _ ?_|refine hR _ _ ?_);clear hK hR K R)
 refine RL_callDg rfl (by simp only [go_sem]<;>exact rfl) (fun e=>hsv) rfl rfl rfl (fun e=>by (try simp only [go_sem] at e);simp only [go_sem,e]<;>(try simp only [go_sem])<;>first | exact LeA.refl _ | exact Le.refl _) rfl rfl ?_
 (refine rr fun K R hK hR=>?_;simp only [go_sem];(try go_ints);(repeat refine And.intro side ?_);(first|refine hK _ ?_|refine hR _ _ ?_);clear hK hR K R)
 repeat (first | refine nav ?_ | refine bo ?_)
 refine W_cond (b:=!validR p || !validF s) (by simp only [go_sem]) (fun hb=>?_) (fun hb=>?_)
 ·have : checkF p s = 1:=by unfold checkF;rw [if_pos hb]
  rw [this]
  repeat (first | refine nav ?_ | refine bo ?_)
  (refine wr fun K R hK hR=>?_;simp only [go_sem];(try go_ints);(repeat refine And.intro side ?_);(first|refine hK _ ?_|refine hR _ _ ?_);clear hK hR K R)
  repeat (first | refine nav ?_ | refine bo ?_)
  refine endQ_data (by simp only [go_sem]<;>exact rfl) (Le.of_eq ?_) rfl
  rfl
 ·have hck : checkF p s = if fitsF (symsF p) s = false then 4 else if 4096 < s.size.toNat ^ (widestF p).toNat then 5 else 0:=by unfold checkF;rw [if_neg (by simp [hb])]
  have hv1 : validR p = true:=by cases h : validR p<;>simp_all
  have hv2 : validF s = true:=by cases h : validF s<;>simp_all
  rw [hck]
  rw [fitsR_eq hv2] at hft
  obtain ⟨n,hn,hn1,hn2,_,_⟩:=valid_size hv2
  have hw0 : 0 ≤ widthR p:=by unfold validR at hv1;simp at hv1;omega
  obtain ⟨w,hw⟩ : ∃ w : Nat,widestF p = w:=⟨(widestF p).toNat,by omega⟩
  have hps:=pow_spec n w (by omega) (by omega) (by omega) (by omega)
  have hpg:=pow2_gt n hn1 w
  rw [Int.toNat_natCast] at hps
  rw [hw] at hws
  rw [hn,hw,Int.toNat_natCast,Int.toNat_natCast]
  rw [hn] at hft
  repeat (first | refine nav ?_ | refine bo ?_)
  (refine W_dreg (by decide +kernel) [] [0,1,2,3,4,5] [[],[],[1],[1,2,0],[0,2,1,3],[3,1,2,0,4]] (by decide +kernel) rfl fun K R hK hR=>?_;simp only [List.filterMap_cons,List.filterMap_nil,List.getElem?_cons_zero,List.getElem?_cons_succ,List.cons_append,List.nil_append];simp only [go_sem];(try go_ints);(repeat refine And.intro side ?_);(first|refine hK _ ?_|refine hR _ _ ?_);clear hK hR K R)
  refine D_callD (hss) rfl rfl rfl (by first | (simp only [go_sem]<;>first | exact LeA.refl _ | exact Le.refl _) | exact LeA.refl _) rfl rfl rfl rfl ?_
  (refine D_reg fun K R hK hR=>?_;simp only [go_sem];(try go_ints);(repeat refine And.intro side ?_);(first|refine hK _ ?_|refine hR _ _ ?_);clear hK hR K R)
  refine D_callD (hft) rfl rfl rfl (by first | (simp only [go_sem]<;>first | exact LeA.refl _ | exact Le.refl _) | exact LeA.refl _) rfl rfl rfl rfl ?_
  (refine D_reg fun K R hK hR=>?_;simp only [go_sem];(try go_ints);(repeat refine And.intro side ?_);(first|refine hK _ ?_|refine hR _ _ ?_);clear hK hR K R)
  repeat (first | refine nav ?_ | refine bo ?_)
  refine W_cond (b:=!fitsF (symsF p) s) (by simp only [go_sem]) (fun hb=>?_) (fun hb=>?_)
  ·rw [if_pos (by simpa using hb)]
   repeat (first | refine nav ?_ | refine bo ?_)
   (refine wr fun K R hK hR=>?_;simp only [go_sem];(try go_ints);(repeat refine And.intro side ?_);(first|refine hK _ ?_|refine hR _ _ ?_);clear hK hR K R)
   repeat (first | refine nav ?_ | refine bo ?_)
   refine endQ_data (by simp only [go_sem]<;>exact rfl) (Le.of_eq ?_) rfl
   rfl
  ·rw [if_neg (by simpa using hb)]
   repeat (first | refine nav ?_ | refine bo ?_)
   (refine W_dreg (by decide +kernel) [] [0,1,2,3,4,5,6] [[],[0],[],[2],[2,3,0,1],[1,0,3,2,4],[4,2,3,0,1,5]] (by decide +kernel) rfl fun K R hK hR=>?_;simp only [List.filterMap_cons,List.filterMap_nil,List.getElem?_cons_zero,List.getElem?_cons_succ,List.cons_append,List.nil_append];simp only [go_sem];(try go_ints);(repeat refine And.intro side ?_);(first|refine hK _ ?_|refine hR _ _ ?_);clear hK hR K R)
   refine D_callD (hws) rfl rfl rfl (by first | (simp only [go_sem]<;>first | exact LeA.refl _ | exact Le.refl _) | exact LeA.refl _) rfl rfl rfl rfl ?_
   (refine D_reg fun K R hK hR=>?_;simp only [go_sem];(try go_ints);(repeat refine And.intro side ?_);(first|refine hK _ ?_|refine hR _ _ ?_);clear hK hR K R)
   refine D_callD (hps) rfl rfl rfl (by first | (simp only [go_sem]<;>first | exact LeA.refl _ | exact Le.refl _) | exact LeA.refl _) rfl rfl rfl rfl ?_
   (refine D_reg fun K R hK hR=>?_;simp only [go_sem,hpg];(try go_ints);(try simp only [go_sem,hpg]);(repeat refine And.intro side ?_);(first|refine hK _ ?_|refine hR _ _ ?_);clear hK hR K R)
   repeat (first | refine nav ?_ | refine bo ?_)
   refine W_cond (b:=decide (4096 < n ^ w)) (by simp only [go_sem,hpg]) (fun hb=>?_) (fun hb=>?_)
   ·rw [if_pos (by simpa using hb)]
    repeat (first | refine nav ?_ | refine bo ?_)
    (refine wr fun K R hK hR=>?_;simp only [go_sem];(try go_ints);(repeat refine And.intro side ?_);(first|refine hK _ ?_|refine hR _ _ ?_);clear hK hR K R)
    repeat (first | refine nav ?_ | refine bo ?_)
    refine endQ_data (by simp only [go_sem]<;>exact rfl) (Le.of_eq ?_) rfl
    rfl
   ·rw [if_neg (by simpa using hb)]
    repeat (first | refine nav ?_ | refine bo ?_)
    (refine wr fun K R hK hR=>?_;simp only [go_sem];(try go_ints);(repeat refine And.intro side ?_);(first|refine hK _ ?_|refine hR _ _ ?_);clear hK hR K R)
    repeat (first | refine nav ?_ | refine bo ?_)
    refine endQ_data (by simp only [go_sem]<;>exact rfl) (Le.of_eq ?_) rfl
    rfl
end Go.AW
namespace Go.AW
open Go Go.Proofs TyTryz Go.IntWalk
set_option linter.unusedSimpArgs false
set_option linter.unusedVariables false
set_option maxRecDepth 10000
theorem bools_dat (l : List Bool) : (bools l).map (fun r=>r.map AV.dat) = bools l:=by simp [bools,Function.comp_def,AV.dat]
theorem bools_plain (l : List Bool) : ((bools l).all fun r=>r.all fun c=>c.dat.ltk 0 && c.dat.plain) = true:=by simp [bools,AV.dat,AV.ltk,AV.plain]
theorem tabO_unref {id M : Nat} {nm : ByteArray} {k : Int} {L : List Bool} (hL : L.length = M) : (Ob.cells 3 [[.s nm,.i .i64 k,.ref id 0 M]]).unref id 1 (bools L) = .cells 3 [[.s nm,.i .i64 k,.sl 1 (bools L)]]:=by
 have h1 : (bools L).length = M:=by rw [bools_len,hL]
 have h2 : (bools L).take M = bools L:=List.take_of_length_le (by omega)
 simp [Ob.unref,AV.unref,h1,h2]
abbrev zTab : Ob:=.cells 3 [[AV.s ByteArray.empty,AV.i IntKind.i64 0,AV.own 1 []]]
structure ITab (ext : List (Nat × AV)) (PRE : List Ob) (M : Nat) (nm : ByteArray) (k : Nat) (L : List Bool) (v : List AV) (b tt : Nat) (d : Nat → Bool) (x : St) : Prop where
 ext : ∀ y ∈ ext,x.t y.1 = y.2
 ok : okO x.o = true
 len : PRE.length ≤ x.o.length
 pre : ∀ (i : Nat) (y : Ob),PRE[i]? = some y → x.o[i]? = some y
 v : ∀ i < 7,d i = true → x.t (b + i) = v.getD i .any
 k7 : d 7 = true → ∃ id,x.t (b + 7) = .agg [.s nm,.i .i64 k,.ref id 0 M] ∧ PRE.length ≤ id ∧ x.o[id]? = some (.cells 1 (bools L))
 k8 : d 8 = true → d 9 = false → ∃ j,x.t tt = .ptr j 0 0 ∧ PRE.length ≤ j ∧ x.o[j]? = some zTab
 k9 : d 9 = true → ∃ j id,x.t tt = .ptr j 0 0 ∧ PRE.length ≤ j ∧ PRE.length ≤ id ∧ id ≠ j ∧ x.o[j]? = some (.cells 3 [[.s nm,.i .i64 k,.ref id 0 M]]) ∧ x.o[id]? = some (.cells 1 (bools L))
 c9 : d 9 = true → d 7 = true ∧ d 8 = true
section
variable {ext : List (Nat × AV)} {PRE : List Ob} {M : Nat} {nm : ByteArray} {k : Nat} {L : List Bool} {v : List AV} {b tt : Nat} {d : Nat → Bool} {t : Nat → AV} {o : List Ob}
theorem ITab.init (h1 : ∀ y ∈ ext,t y.1 = y.2) (h2 : okO o = true) : ITab ext o M nm k L v b tt (fun j=>decide (10 ≤ j)) ⟨t,o⟩ :=
 ⟨h1,h2,Nat.le_refl _,fun _ _ h=>h,fun i hi h=>by simp at h;omega,fun h=>by simp at h,fun h=>by simp at h,fun h=>by simp at h,fun h=>by simp at h⟩
theorem ITab.quiet (h : ITab ext PRE M nm k L v b tt d ⟨t,o⟩) (i : Nat) (hi : i < 7) (hb : (ext.all fun y=>y.1 != b + i) = true) (ht : tt ≠ b + i) :
  ITab ext PRE M nm k L v b tt (fun j=>d j || j == i) ⟨upd t (b + i) (v.getD i .any),o⟩:=by
 obtain ⟨h1,h2,h3,h4,h5,h6,h7,h8,hc9⟩:=h
 rw [List.all_eq_true] at hb
 have e7 : (7 == i) = false:=by simp;omega
 have e8 : (8 == i) = false:=by simp;omega
 have e9 : (9 == i) = false:=by simp;omega
 refine ⟨fun y hy=>?_,h2,h3,h4,fun j hj hd=>?_,fun hd=>?_,fun hd hd9=>?_,fun hd=>?_,fun hd=>by
  simp only [e9,Bool.or_false] at hd
  have:=hc9 hd
  exact ⟨by rw [this.1];rfl,by rw [this.2];rfl⟩⟩
 ·have:=hb y hy
  show upd t (b + i) _ y.1 = _
  rw [upd_ne _ _ _ (by simpa using this)];exact h1 y hy
 ·show upd t (b + i) _ (b + j) = _
  by_cases e : j = i
  ·subst e;rw [upd_same]
  ·rw [upd_ne _ _ _ (by omega)]
   have : (j == i) = false:=by simpa using e
   simp only [this,Bool.or_false] at hd
   exact h5 j hj hd
 ·simp only [e7,Bool.or_false] at hd
  obtain ⟨id,a,b',c⟩:=h6 hd
  exact ⟨id,by show upd t (b + i) _ (b + 7) = _;rw [upd_ne _ _ _ (by omega)];exact a,b',c⟩
 ·simp only [e8,e9,Bool.or_false] at hd hd9
  obtain ⟨j,a,b',c⟩:=h7 hd hd9
  exact ⟨j,by show upd t (b + i) _ tt = _;rw [upd_ne _ _ _ ht];exact a,b',c⟩
 ·simp only [e9,Bool.or_false] at hd
  obtain ⟨j,id,a,b'⟩:=h8 hd
  exact ⟨j,id,by show upd t (b + i) _ tt = _;rw [upd_ne _ _ _ ht];exact a,b'⟩
theorem ITab.call {n : Nat} {f : List Int → Bool} {r : AV} {o' : List Ob} (h : ITab ext PRE (n ^ k) nm k (hasF n k f) v b tt d ⟨t,o⟩) (hd7 : d 7 = false) (hr : TabP o nm n k f r o') (hb : (ext.all fun y=>y.1 != b + 7) = true) (ht : tt ≠ b + 7) :
  ITab ext PRE (n ^ k) nm k (hasF n k f) v b tt (fun j=>d j || j == 7) ⟨upd t (b + 7) r,o'⟩:=by
 obtain ⟨h1,h2,h3,h4,h5,h6,h7,h8,hc9⟩:=h
 obtain ⟨id,rfl,r1,r2,r3,r4,r5⟩:=hr
 have h9d : d 9 = false:=by
  cases h : d 9 with
  | false=>rfl
  | true=>have:=(hc9 h).1;rw [hd7] at this;cases this
 rw [List.all_eq_true] at hb
 have keep : ∀ (i : Nat) (y : Ob),o[i]? = some y → o'[i]? = some y:=fun i y hy=>by
  rw [r3 i (List.getElem?_eq_some_iff.1 hy).1];exact hy
 refine ⟨fun y hy=>?_,r5,by have : PRE.length ≤ o.length:=h3;show PRE.length ≤ o'.length;omega,fun i y hy=>keep i y (h4 i y hy),fun j hj hd=>?_,fun hd=>?_,fun hd hd9=>?_,fun hd=>?_,fun hd=>by simp [h9d] at hd⟩
 ·have:=hb y hy
  show upd t (b + 7) _ y.1 = _
  rw [upd_ne _ _ _ (by simpa using this)];exact h1 y hy
 ·show upd t (b + 7) _ (b + j) = _
  rw [upd_ne _ _ _ (by omega)]
  have : (j == 7) = false:=by simp;omega
  simp only [this,Bool.or_false] at hd
  exact h5 j hj hd
 ·exact ⟨id,by show upd t (b + 7) _ (b + 7) = _;rw [upd_same],by have : PRE.length ≤ o.length:=h3;omega,r4⟩
 ·simp only [show ((8 : Nat) == 7) = false from rfl,show ((9 : Nat) == 7) = false from rfl,Bool.or_false] at hd hd9
  obtain ⟨j,a,b',c⟩:=h7 hd hd9
  exact ⟨j,by show upd t (b + 7) _ tt = _;rw [upd_ne _ _ _ ht];exact a,b',keep _ _ c⟩
 ·simp only [show ((9 : Nat) == 7) = false from rfl,Bool.or_false] at hd
  rw [h9d] at hd;cases hd
theorem ITab.alloc (h : ITab ext PRE M nm k L v b tt d ⟨t,o⟩) (hd8 : d 8 = false) (hb : (ext.all fun y=>y.1 != tt) = true) (ht : (decide (tt < b) || decide (b + 8 ≤ tt)) = true) :
  ITab ext PRE M nm k L v b tt (fun j=>d j || j == 8) ⟨upd t tt (.ptr o.length 0 0),o ++ [zTab]⟩:=by
 obtain ⟨h1,h2,h3,h4,h5,h6,h7,h8,hc9⟩:=h
 rw [List.all_eq_true] at hb
 simp only [Bool.or_eq_true,decide_eq_true_eq] at ht
 have h9d : d 9 = false:=by
  cases h : d 9 with
  | false=>rfl
  | true=>have:=(hc9 h).2;rw [hd8] at this;cases this
 refine ⟨fun y hy=>?_,okO_app h2 rfl,by have : PRE.length ≤ o.length:=h3;show PRE.length ≤ (o ++ [zTab]).length;simp;omega,fun i y hy=>app_get _ (h4 i y hy),fun j hj hd=>?_,fun hd=>?_,fun hd hd9=>?_,fun hd=>?_,fun hd=>by simp [h9d] at hd⟩
 ·have:=hb y hy
  show upd t tt _ y.1 = _
  rw [upd_ne _ _ _ (by simpa using this)];exact h1 y hy
 ·show upd t tt _ (b + j) = _
  rw [upd_ne _ _ _ (by omega)]
  have : (j == 8) = false:=by simp;omega
  simp only [this,Bool.or_false] at hd
  exact h5 j hj hd
 ·simp only [show ((7 : Nat) == 8) = false from rfl,Bool.or_false] at hd
  obtain ⟨id,a,b',c⟩:=h6 hd
  exact ⟨id,by show upd t tt _ (b + 7) = _;rw [upd_ne _ _ _ (by omega)];exact a,b',app_get _ c⟩
 ·exact ⟨o.length,by show upd t tt _ tt = _;rw [upd_same],h3,by simp⟩
 ·simp only [show ((9 : Nat) == 8) = false from rfl,Bool.or_false] at hd
  rw [h9d] at hd;cases hd
theorem ITab.pair (h : ITab ext PRE M nm k L v b tt d ⟨t,o⟩) (h7d : d 7 = true) (h8d : d 8 = true) (h9d : d 9 = false) :
  ∃ j id,t tt = .ptr j 0 0 ∧ t (b + 7) = .agg [.s nm,.i .i64 k,.ref id 0 M] ∧ o[j]? = some zTab ∧
   ITab ext PRE M nm k L v b tt (fun j=>d j || j == 9) ⟨t,o.set j (.cells 3 [[.s nm,.i .i64 k,.ref id 0 M]])⟩:=by
 obtain ⟨h1,h2,h3,h4,h5,h6,h7,h8,hc9⟩:=h
 obtain ⟨id,a1,a2,a3⟩:=h6 h7d
 obtain ⟨j,b1,b2,b3⟩:=h7 h8d h9d
 have hne : id ≠ j:=by
  rintro rfl
  have e:=Option.some.inj (a3.symm.trans b3)
  unfold zTab at e
  simp at e
 have hlt:=(List.getElem?_eq_some_iff.1 b3).1
 have hil:=(List.getElem?_eq_some_iff.1 a3).1
 simp only at hlt hil a1 a2 a3 b1 b2 b3
 have hid : (o.set j (.cells 3 [[.s nm,.i .i64 k,.ref id 0 M]]))[id]? = some (.cells 1 (bools L)):=by rw [List.getElem?_set_ne (by omega)];exact a3
 refine ⟨j,id,b1,a1,b3,h1,okO_set' h2 (by simp [Ob.ltk,AV.ltk,hil]),by simpa using h3,fun i y hy=>?_,fun i hi hd=>?_,fun hd=>⟨id,a1,a2,hid⟩,fun hd hd9=>?_,fun hd=>⟨j,id,b1,b2,a2,hne,?_,hid⟩,fun _=>⟨by rw [h7d];rfl,by rw [h8d];rfl⟩⟩
 ·have hi:=(List.getElem?_eq_some_iff.1 hy).1
  show (o.set j _)[i]? = _
  rw [List.getElem?_set_ne (by omega)];exact h4 i y hy
 ·have : (i == 9) = false:=by simp;omega
  simp only [this,Bool.or_false] at hd
  exact h5 i hi hd
 ·simp at hd9
 ·show (o.set j _)[j]? = _
  rw [List.getElem?_set_self hlt]
end
end Go.AW
