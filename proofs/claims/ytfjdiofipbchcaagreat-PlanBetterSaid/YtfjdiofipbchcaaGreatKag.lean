/-
The document's structures: tuples, powers, relations.
-/
import Derived.Test.YtfjdiofipbchcaaGreatKaf
import Derived.Shelf.Spec.SlicesGrow
namespace Go.AW
open Go Go.Proofs TyTryz Go.IntWalk
set_option linter.unusedSimpArgs false
set_option linter.unusedVariables false
set_option maxRecDepth 10000
set_option maxHeartbeats 1000000
def lessL : List Int → List Int → Bool
 | a :: l,b :: r=>if a = b then lessL l r else decide (a < b)
 | _,_=>false
theorem less_spec (a b : List Int) (ha : a.length ≤ 1099511627776) (hab : a.length = b.length) : ACallsD Tryz.prog 74 [.sl 1 (ints a),.sl 1 (ints b)] (.b (lessL a b)):=by
 refine ACalls_of' (n:=30) (rs:=[.tmp 4]) (show Tryz.prog.funcs[74]? = some Tryz.f74 by kernel_rfl) rfl rfl rfl (by simp) (by decide +kernel) ?_
 repeat (first | refine nav ?_ | refine bo ?_)
 (refine wr fun K R hK hR=>?_;simp only [go_sem];(try go_ints);(repeat refine And.intro side ?_);(first|refine hK _ ?_|refine hR _ _ ?_);clear hK hR K R)
 repeat (first | refine nav ?_ | refine bo ?_)
 (refine wr fun K R hK hR=>?_;simp only [go_sem];(try go_ints);(repeat refine And.intro side ?_);(first|refine hK _ ?_|refine hR _ _ ?_);clear hK hR K R)
 repeat (first | refine nav ?_ | refine bo ?_)
 refine W_for 6 30 [5] (fun m t o=>∃ k : Nat,[] = o ∧ t 5 = .i .i64 k ∧ m = a.length - k ∧ k ≤ a.length ∧ lessL (a.drop k) (b.drop k) = lessL a b) a.length ⟨0,rfl,by simp only [go_sem]<;>rfl,by omega,Nat.zero_le _,rfl⟩ ?_
 rintro m t o ⟨k,rfl,h5,rfl,hk,hi⟩
 repeat (first | refine nav ?_ | refine bo ?_)
 (refine wr fun K R hK hR=>?_;simp only [go_sem,h5];(try go_ints);(try simp only [go_sem,h5]);(repeat refine And.intro side ?_);(first|refine hK _ ?_|refine hR _ _ ?_);clear hK hR K R)
 repeat (first | refine nav ?_ | refine bo ?_)
 refine W_cond (by simp only [go_sem]<;>exact rfl) (fun hb=>?_) (fun hb=>?_)
 ·simp at hb
  obtain ⟨x,hx⟩ : ∃ x,a[k]? = some x:=⟨_,List.getElem?_eq_getElem hb⟩
  obtain ⟨y,hy⟩ : ∃ y,b[k]? = some y:=⟨_,List.getElem?_eq_getElem (by omega)⟩
  rw [drop_cons hx,drop_cons hy,lessL] at hi
  repeat (first | refine nav ?_ | refine bo ?_)
  (refine W_dreg (by decide +kernel) [] [0,1,2,3,4,5,6,7,8] [[],[],[1,0],[0,1,2],[],[],[5,4],[4,5,6],[6,5,4,7,2,1,0,3]] (by decide +kernel) rfl fun K R hK hR=>?_;simp only [List.filterMap_cons,List.filterMap_nil,List.getElem?_cons_zero,List.getElem?_cons_succ,List.cons_append,List.nil_append];simp only [go_sem,h5,ints_get hx,ints_get hy];(try go_ints);(try simp only [go_sem,h5,ints_get hx,ints_get hy]);(repeat refine And.intro side ?_);(first|refine hK _ ?_|refine hR _ _ ?_);clear hK hR K R)
  repeat (first | refine nav ?_ | refine bo ?_)
  refine W_cond (by simp only [go_sem]<;>exact rfl) (fun hd=>?_) (fun hd=>?_)
  ·rw [if_neg (by simpa using hd)] at hi
   repeat (first | refine nav ?_ | refine bo ?_)
   (refine W_dreg (by decide +kernel) [] [0,1,2,3,4,5,6,7,8,9] [[],[],[1,0],[0,1,2],[],[],[5,4],[4,5,6],[6,5,4,7,2,1,0,3],[3,0,1,2,7,4,5,6,8]] (by decide +kernel) rfl fun K R hK hR=>?_;simp only [List.filterMap_cons,List.filterMap_nil,List.getElem?_cons_zero,List.getElem?_cons_succ,List.cons_append,List.nil_append];simp only [go_sem,h5,ints_get hx,ints_get hy];(try go_ints);(try simp only [go_sem,h5,ints_get hx,ints_get hy]);(repeat refine And.intro side ?_);(first|refine hK _ ?_|refine hR _ _ ?_);clear hK hR K R)
   repeat (first | refine nav ?_ | refine bo ?_)
   refine endQ_data (by simp only [go_sem]<;>exact rfl) (Le.of_eq ?_) rfl
   rw [hi]
  ·rw [if_pos (by simpa using hd)] at hi
   repeat (first | refine nav ?_ | refine bo ?_)
   (refine wr fun K R hK hR=>?_;simp only [go_sem,h5];(try go_ints);(try simp only [go_sem,h5]);(repeat refine And.intro side ?_);(first|refine hK _ ?_|refine hR _ _ ?_);clear hK hR K R)
   refine forQ_normal (a.length - (k + 1)) (by omega) ⟨k + 1,?_⟩
   ((try simp only [go_sem]);(repeat' refine And.intro ?_ ?_)<;>(try first | with_reducible rfl | omega | with_reducible assumption | (simp;done)))
 ·simp at hb
  have : k = a.length:=by omega
  subst this
  rw [List.drop_length,lessL] at hi
  ·repeat (first | refine nav ?_ | refine bo ?_)
   (refine wr fun K R hK hR=>?_;simp only [go_sem];(try go_ints);(repeat refine And.intro side ?_);(first|refine hK _ ?_|refine hR _ _ ?_);clear hK hR K R)
   repeat (first | refine nav ?_ | refine bo ?_)
   refine endQ_data (by simp only [go_sem]<;>exact rfl) (Le.of_eq ?_) rfl
   rw [← hi]
  ·intro a l b r h;cases h
theorem lessL_cmp : ∀ (a b : List Int),a.length = b.length → lessL a b = decide (cmpL a b < 0)
 | [],[],_=>rfl
 | a :: l,b :: r,h=>by
  rw [lessL,cmpL]
  have ih:=lessL_cmp l r (by simpa using h)
  by_cases hab : a = b
  ·rw [if_pos hab,ih,if_neg (by subst hab;simp [cmpF])]
  ·rw [if_neg hab,if_pos (by simp [cmpF];omega)]
   simp only [cmpF]
   by_cases h1 : a < b
   ·simp [h1]
   ·simp [h1];split<;>omega
theorem equal_spec (a b : List Int) (ha : a.length ≤ 1099511627776) : ACallsD Tryz.prog 28 [.sl 1 (ints a),.sl 1 (ints b)] (.b (decide (a = b))):=by
 refine ACalls_of' (n:=26) (rs:=[.tmp 4]) (show Tryz.prog.funcs[28]? = some Tryz.f28 by kernel_rfl) rfl rfl rfl (by simp) (by decide +kernel) ?_
 repeat (first | refine nav ?_ | refine bo ?_)
 (refine wr fun K R hK hR=>?_;simp only [go_sem];(try go_ints);(repeat refine And.intro side ?_);(first|refine hK _ ?_|refine hR _ _ ?_);clear hK hR K R)
 repeat (first | refine nav ?_ | refine bo ?_)
 (refine wr fun K R hK hR=>?_;simp only [go_sem];(try go_ints);(repeat refine And.intro side ?_);(first|refine hK _ ?_|refine hR _ _ ?_);clear hK hR K R)
 repeat (first | refine nav ?_ | refine bo ?_)
 refine W_cond (by simp only [go_sem]<;>exact rfl) (fun hb=>?_) (fun hb=>?_)
 ·repeat (first | refine nav ?_ | refine bo ?_)
  (refine wr fun K R hK hR=>?_;simp only [go_sem];(try go_ints);(repeat refine And.intro side ?_);(first|refine hK _ ?_|refine hR _ _ ?_);clear hK hR K R)
  repeat (first | refine nav ?_ | refine bo ?_)
  refine endQ_data (by simp only [go_sem]<;>exact rfl) (Le.of_eq ?_) rfl
  rw [decide_eq_false]
  rintro rfl
  simp at hb
 ·have hl : a.length = b.length:=by simp at hb;omega
  repeat (first | refine nav ?_ | refine bo ?_)
  (refine wr fun K R hK hR=>?_;simp only [go_sem];(try go_ints);(repeat refine And.intro side ?_);(first|refine hK _ ?_|refine hR _ _ ?_);clear hK hR K R)
  repeat (first | refine nav ?_ | refine bo ?_)
  refine W_for 11 26 [5] (fun m t o=>∃ k : Nat,[] = o ∧ t 5 = .i .i64 k ∧ m = a.length - k ∧ k ≤ a.length ∧ (a.drop k = b.drop k ↔ a = b)) a.length ⟨0,rfl,by simp only [go_sem]<;>rfl,by omega,Nat.zero_le _,Iff.rfl⟩ ?_
  rintro m t o ⟨k,rfl,h5,rfl,hk,hi⟩
  repeat (first | refine nav ?_ | refine bo ?_)
  (refine wr fun K R hK hR=>?_;simp only [go_sem,h5];(try go_ints);(try simp only [go_sem,h5]);(repeat refine And.intro side ?_);(first|refine hK _ ?_|refine hR _ _ ?_);clear hK hR K R)
  repeat (first | refine nav ?_ | refine bo ?_)
  refine W_cond (by simp only [go_sem]<;>exact rfl) (fun hb=>?_) (fun hb=>?_)
  ·simp at hb
   obtain ⟨x,hx⟩ : ∃ x,a[k]? = some x:=⟨_,List.getElem?_eq_getElem hb⟩
   obtain ⟨y,hy⟩ : ∃ y,b[k]? = some y:=⟨_,List.getElem?_eq_getElem (by omega)⟩
   rw [drop_cons hx,drop_cons hy,List.cons.injEq] at hi
   repeat (first | refine nav ?_ | refine bo ?_)
   (refine W_dreg (by decide +kernel) [] [0,1,2,3,4,5,6,7,8] [[],[],[1,0],[0,1,2],[],[],[5,4],[4,5,6],[6,5,4,7,2,1,0,3]] (by decide +kernel) rfl fun K R hK hR=>?_;simp only [List.filterMap_cons,List.filterMap_nil,List.getElem?_cons_zero,List.getElem?_cons_succ,List.cons_append,List.nil_append];simp only [go_sem,h5,ints_get hx,ints_get hy];(try go_ints);(try simp only [go_sem,h5,ints_get hx,ints_get hy]);(repeat refine And.intro side ?_);(first|refine hK _ ?_|refine hR _ _ ?_);clear hK hR K R)
   repeat (first | refine nav ?_ | refine bo ?_)
   refine W_cond (by simp only [go_sem]<;>exact rfl) (fun hd=>?_) (fun hd=>?_)
   ·repeat (first | refine nav ?_ | refine bo ?_)
    (refine wr fun K R hK hR=>?_;simp only [go_sem];(try go_ints);(repeat refine And.intro side ?_);(first|refine hK _ ?_|refine hR _ _ ?_);clear hK hR K R)
    repeat (first | refine nav ?_ | refine bo ?_)
    refine endQ_data (by simp only [go_sem]<;>exact rfl) (Le.of_eq ?_) rfl
    have hd : x ≠ y:=by simpa using hd
    rw [decide_eq_false]
    exact fun h=>hd (hi.2 h).1
   ·have hd : x = y:=by simpa using hd
    repeat (first | refine nav ?_ | refine bo ?_)
    (refine wr fun K R hK hR=>?_;simp only [go_sem,h5];(try go_ints);(try simp only [go_sem,h5]);(repeat refine And.intro side ?_);(first|refine hK _ ?_|refine hR _ _ ?_);clear hK hR K R)
    refine forQ_normal (a.length - (k + 1)) (by omega) ⟨k + 1,?_⟩
    ((try simp only [go_sem]);(repeat' refine And.intro ?_ ?_)<;>(try first | with_reducible rfl | omega | with_reducible assumption | (simp;done)))
    exact ⟨fun h=>hi.1 ⟨hd,h⟩,fun h=>(hi.2 h).2⟩
  ·simp at hb
   have : k = a.length:=by omega
   subst this
   rw [List.drop_length,List.drop_eq_nil_of_le (by omega)] at hi
   repeat (first | refine nav ?_ | refine bo ?_)
   (refine wr fun K R hK hR=>?_;simp only [go_sem];(try go_ints);(repeat refine And.intro side ?_);(first|refine hK _ ?_|refine hR _ _ ?_);clear hK hR K R)
   repeat (first | refine nav ?_ | refine bo ?_)
   refine endQ_data (by simp only [go_sem]<;>exact rfl) (Le.of_eq ?_) rfl
   rw [decide_eq_true (hi.1 rfl)]
def inT (n : Int) (t : List Int) : Bool:=!(t.any fun x=>decide (x < 0) || decide (x ≥ n))
theorem in_spec (n : Int) (t : List Int) (ht : t.length ≤ 1099511627776) : ACallsD Tryz.prog 73 [.i .i64 n,.sl 1 (ints t)] (.b (inT n t)):=by
 refine ACalls_of' (n:=25) (rs:=[.tmp 4]) (show Tryz.prog.funcs[73]? = some Tryz.f73 by kernel_rfl) rfl rfl rfl (by simp) (by decide +kernel) ?_
 repeat (first | refine nav ?_ | refine bo ?_)
 (refine wr fun K R hK hR=>?_;simp only [go_sem];(try go_ints);(repeat refine And.intro side ?_);(first|refine hK _ ?_|refine hR _ _ ?_);clear hK hR K R)
 repeat (first | refine nav ?_ | refine bo ?_)
 (refine wr fun K R hK hR=>?_;simp only [go_sem];(try go_ints);(repeat refine And.intro side ?_);(first|refine hK _ ?_|refine hR _ _ ?_);clear hK hR K R)
 repeat (first | refine nav ?_ | refine bo ?_)
 refine W_for 6 25 [5] (fun m t' o=>∃ k : Nat,[] = o ∧ t' 5 = .i .i64 k ∧ m = t.length - k ∧ k ≤ t.length ∧ inT n (t.drop k) = inT n t) t.length ⟨0,rfl,by simp only [go_sem]<;>rfl,by omega,Nat.zero_le _,rfl⟩ ?_
 rintro m t' o ⟨k,rfl,h5,rfl,hk,hi⟩
 repeat (first | refine nav ?_ | refine bo ?_)
 (refine wr fun K R hK hR=>?_;simp only [go_sem,h5];(try go_ints);(try simp only [go_sem,h5]);(repeat refine And.intro side ?_);(first|refine hK _ ?_|refine hR _ _ ?_);clear hK hR K R)
 repeat (first | refine nav ?_ | refine bo ?_)
 refine W_cond (by simp only [go_sem]<;>exact rfl) (fun hb=>?_) (fun hb=>?_)
 ·simp at hb
  obtain ⟨x,hx⟩ : ∃ x,t[k]? = some x:=⟨_,List.getElem?_eq_getElem hb⟩
  have hstep : inT n (x :: t.drop (k + 1)) = (!(decide (x < 0) || decide (x ≥ n)) && inT n (t.drop (k + 1))):=by simp [inT]
  rw [drop_cons hx,hstep] at hi
  have hlt : decide (k < t.length) = true:=by simpa using hb
  repeat (first | refine nav ?_ | refine bo ?_)
  (refine wr fun K R hK hR=>?_;simp only [go_sem,h5,ints_get hx,hlt,Bool.or_true];(try go_ints);(try simp only [go_sem,h5,ints_get hx,hlt,Bool.or_true]);(repeat refine And.intro side ?_);(first|refine hK _ ?_|refine hR _ _ ?_);clear hK hR K R)
  repeat (first | refine nav ?_ | refine bo ?_)
  refine W_cond (by simp only [go_sem]<;>exact rfl) (fun hd=>?_) (fun hd=>?_)
  ·rw [hd] at hi
   repeat (first | refine nav ?_ | refine bo ?_)
   (refine wr fun K R hK hR=>?_;simp only [go_sem];(try go_ints);(repeat refine And.intro side ?_);(first|refine hK _ ?_|refine hR _ _ ?_);clear hK hR K R)
   repeat (first | refine nav ?_ | refine bo ?_)
   refine endQ_data (by simp only [go_sem]<;>exact rfl) (Le.of_eq ?_) rfl
   rw [← hi];rfl
  ·rw [hd] at hi
   repeat (first | refine nav ?_ | refine bo ?_)
   (refine wr fun K R hK hR=>?_;simp only [go_sem,h5];(try go_ints);(try simp only [go_sem,h5]);(repeat refine And.intro side ?_);(first|refine hK _ ?_|refine hR _ _ ?_);clear hK hR K R)
   refine forQ_normal (t.length - (k + 1)) (by omega) ⟨k + 1,?_⟩
   ((try simp only [go_sem]);(repeat' refine And.intro ?_ ?_)<;>(try first | with_reducible rfl | omega | with_reducible assumption | (simp;done)))
   simpa using hi
 ·simp at hb
  have : k = t.length:=by omega
  subst this
  rw [List.drop_length] at hi
  repeat (first | refine nav ?_ | refine bo ?_)
  (refine wr fun K R hK hR=>?_;simp only [go_sem];(try go_ints);(repeat refine And.intro side ?_);(first|refine hK _ ?_|refine hR _ _ ?_);clear hK hR K R)
  repeat (first | refine nav ?_ | refine bo ?_)
  refine endQ_data (by simp only [go_sem]<;>exact rfl) (Le.of_eq ?_) rfl
  rw [← hi];rfl
def pow2 (n : Int) : Nat → Int → Int
 | 0,p=>p
 | k + 1,p=>if p ≤ 4096 then pow2 n k (p * n) else p
theorem pow2_big (n : Int) : ∀ (k : Nat) (p : Int),4096 < p → pow2 n k p = p
 | 0,_,_=>rfl
 | k + 1,p,h=>by rw [pow2,if_neg (by omega)]
theorem pow2_spec (n : Int) (hn : 1 ≤ n) : ∀ (k : Nat) (p : Int),1 ≤ p → p ≤ 4096 → decide (pow2 n k p > 4096) = !decide (powL n 4096 k p ≥ 0)
 | 0,p,h1,h2=>by
  rw [pow2,powL,decide_eq_false (by omega),decide_eq_true (by omega)];rfl
 | k + 1,p,h1,h2=>by
  rw [pow2,if_pos h2,powL]
  have hp : 1 ≤ p * n:=by
   have:=Int.mul_le_mul h1 hn (by omega) (by omega);simpa using this
  split
  ·rename_i h
   rw [pow2_big n k _ h,decide_eq_true h]
   rfl
  ·rename_i h
   exact pow2_spec n hn k _ hp (by omega)
theorem pow_spec (n k : Int) (hn : 1 ≤ n) (hn2 : n ≤ 64) (hk : 0 ≤ k) (hk2 : k ≤ 12) : ACallsD Tryz.prog 19 [.i .i64 n,.i .i64 k] (.i .i64 (pow2 n k.toNat 1)):=by
 obtain ⟨k,rfl⟩:=Int.eq_ofNat_of_zero_le hk
 rw [Int.toNat_natCast]
 refine ACalls_of' (n:=20) (rs:=[.tmp 4]) (show Tryz.prog.funcs[19]? = some Tryz.f19 by kernel_rfl) rfl rfl rfl (by simp) (by decide +kernel) ?_
 repeat (first | refine nav ?_ | refine bo ?_)
 (refine wr fun K R hK hR=>?_;simp only [go_sem];(try go_ints);(repeat refine And.intro side ?_);(first|refine hK _ ?_|refine hR _ _ ?_);clear hK hR K R)
 repeat (first | refine nav ?_ | refine bo ?_)
 (refine wr fun K R hK hR=>?_;simp only [go_sem];(try go_ints);(repeat refine And.intro side ?_);(first|refine hK _ ?_|refine hR _ _ ?_);clear hK hR K R)
 repeat (first | refine nav ?_ | refine bo ?_)
 (refine wr fun K R hK hR=>?_;simp only [go_sem];(try go_ints);(repeat refine And.intro side ?_);(first|refine hK _ ?_|refine hR _ _ ?_);clear hK hR K R)
 repeat (first | refine nav ?_ | refine bo ?_)
 refine W_for 7 19 [5,6] (fun m t o=>∃ (i : Nat) (p : Int),[] = o ∧ t 6 = .i .i64 i ∧ t 5 = .i .i64 p ∧ m = k - i ∧ i ≤ k ∧ 1 ≤ p ∧ p ≤ 262144 ∧ pow2 n (k - i) p = pow2 n k 1) k ⟨0,1,rfl,by simp only [go_sem]<;>rfl,by simp only [go_sem]<;>rfl,by omega,Nat.zero_le _,by omega,by omega,by simp⟩ ?_
 rintro m t o ⟨i,p,rfl,h6,h5,rfl,hik,hp1,hp2,hi⟩
 repeat (first | refine nav ?_ | refine bo ?_)
 (refine wr fun K R hK hR=>?_;simp only [go_sem,h6,h5];(try go_ints);(try simp only [go_sem,h6,h5]);(repeat refine And.intro side ?_);(first|refine hK _ ?_|refine hR _ _ ?_);clear hK hR K R)
 repeat (first | refine nav ?_ | refine bo ?_)
 refine W_cond (by simp only [go_sem]<;>exact rfl) (fun hb=>?_) (fun hb=>?_)
 ·simp only [Bool.or_eq_true,Bool.and_eq_true,Bool.not_eq_true',Bool.not_eq_false',Bool.and_eq_false_iff,Bool.or_eq_false_iff,decide_eq_true_eq,decide_eq_false_iff_not,Bool.not_eq_eq_eq_not,Bool.not_true,Bool.not_false] at hb
  obtain ⟨hb1,hb2⟩:=hb
  have hpn : 1 ≤ p * n ∧ p * n ≤ 262144:=by
   constructor
   ·have:=Int.mul_le_mul hp1 hn (by omega) (by omega);simpa using this
   ·have:=Int.mul_le_mul hb2 hn2 (by omega) (by omega);simpa using this
  rw [show k - i = (k - (i + 1)) + 1 by omega,pow2,if_pos hb2] at hi
  repeat (first | refine nav ?_ | refine bo ?_)
  (refine wr fun K R hK hR=>?_;simp only [go_sem,h5];(try go_ints);(try simp only [go_sem,h5]);(repeat refine And.intro side ?_);(first|refine hK _ ?_|refine hR _ _ ?_);clear hK hR K R)
  repeat (first | refine nav ?_ | refine bo ?_)
  (refine wr fun K R hK hR=>?_;simp only [go_sem,h6];(try go_ints);(try simp only [go_sem,h6]);(repeat refine And.intro side ?_);(first|refine hK _ ?_|refine hR _ _ ?_);clear hK hR K R)
  refine forQ_normal (k - (i + 1)) (by omega) ⟨i + 1,p * n,?_⟩
  ((try simp only [go_sem]);(repeat' refine And.intro ?_ ?_)<;>(try first | with_reducible rfl | omega | with_reducible assumption | (simp;done)))
 ·simp only [Bool.or_eq_true,Bool.and_eq_true,Bool.not_eq_true',Bool.not_eq_false',Bool.and_eq_false_iff,Bool.or_eq_false_iff,decide_eq_true_eq,decide_eq_false_iff_not,Bool.not_eq_eq_eq_not,Bool.not_true,Bool.not_false] at hb
  have hres : p = pow2 n k 1:=by
   rw [← hi]
   rcases hb with h | h
   ·rw [show k - i = 0 by omega];rfl
   ·rw [pow2_big n _ _ (by omega)]
  repeat (first | refine nav ?_ | refine bo ?_)
  (refine wr fun K R hK hR=>?_;simp only [go_sem,h5];(try go_ints);(try simp only [go_sem,h5]);(repeat refine And.intro side ?_);(first|refine hK _ ?_|refine hR _ _ ?_);clear hK hR K R)
  repeat (first | refine nav ?_ | refine bo ?_)
  refine endQ_data (by simp only [go_sem]<;>exact rfl) (Le.of_eq ?_) rfl
  rw [hres]
theorem rrel_spec (n : Int) (hn : 1 ≤ n) (hn2 : n ≤ 64) (r : RelD) (hr : r.Ok) : ACallsD Tryz.prog 43 [.i .i64 n,.agg [.s r.name,.i .i64 r.arity,.sl 1 (tups r.tuples)]] (.b (relOk n r)):=by
 refine ACalls_of' (n:=72) (rs:=[.tmp 4]) (show Tryz.prog.funcs[43]? = some Tryz.f43 by kernel_rfl) rfl rfl rfl (by simp) (by decide +kernel) ?_
 repeat (first | refine nav ?_ | refine bo ?_)
 (refine wr fun K R hK hR=>?_;simp only [go_sem];(try go_ints);(repeat refine And.intro side ?_);(first|refine hK _ ?_|refine hR _ _ ?_);clear hK hR K R)
 repeat (first | refine nav ?_ | refine bo ?_)
 (refine wr fun K R hK hR=>?_;simp only [go_sem];(try go_ints);(repeat refine And.intro side ?_);(first|refine hK _ ?_|refine hR _ _ ?_);clear hK hR K R)
 refine RL_callF (rname_spec r.name (by have:=hr.name;omega)) rfl rfl rfl (by first | (simp only [go_sem]<;>first | exact LeA.refl _ | exact Le.refl _) | exact LeA.refl _) rfl rfl ?_
 (refine rr fun K R hK hR=>?_;simp only [go_sem];(try go_ints);(repeat refine And.intro side ?_);(first|refine hK _ ?_|refine hR _ _ ?_);clear hK hR K R)
 refine RL_callDg rfl (by simp only [go_sem]<;>exact rfl) (fun e=>pow_spec n r.arity hn hn2 (by have:=e;simp at this;omega) (by have:=e;simp at this;omega)) rfl rfl rfl (fun e=>by (try simp only [go_sem] at e);simp only [go_sem,e]<;>(try simp only [go_sem])<;>first | exact LeA.refl _ | exact Le.refl _) rfl rfl ?_
 (refine rr fun K R hK hR=>?_;simp only [go_sem];(try go_ints);(repeat refine And.intro side ?_);(first|refine hK _ ?_|refine hR _ _ ?_);clear hK hR K R)
 repeat (first | refine nav ?_ | refine bo ?_)
 have hc1 : decide (r.arity < 0) = !decide (0 ≤ r.arity):=by
  by_cases h : r.arity < 0
  ·simp [h]
  ·simp [h];omega
 have hc2 : decide (r.arity > 12) = !decide (r.arity ≤ 12):=by
  by_cases h : r.arity > 12
  ·simp [h]
  ·simp [h];omega
 have hcm : decide (pow2 n r.arity.toNat 1 > 4096) = !decide (powL n 4096 r.arity.toNat 1 ≥ 0):=pow2_spec n hn _ 1 (by omega) (by omega)
 refine W_cond (by simp only [go_sem,hcm,hc1,hc2]<;>exact rfl) (fun hc=>?_) (fun hc=>?_)
 ·have hno : relOk n r = false:=by
   rw [relOk]
   revert hc
   cases nameF r.name<;>cases decide (0 ≤ r.arity)<;>cases decide (r.arity ≤ 12)<;>cases decide (powL n 4096 r.arity.toNat 1 ≥ 0)<;>simp
  repeat (first | refine nav ?_ | refine bo ?_)
  (refine wr fun K R hK hR=>?_;simp only [go_sem];(try go_ints);(repeat refine And.intro side ?_);(first|refine hK _ ?_|refine hR _ _ ?_);clear hK hR K R)
  repeat (first | refine nav ?_ | refine bo ?_)
  refine endQ_data (by simp only [go_sem]<;>exact rfl) (Le.of_eq ?_) rfl
  rw [hno]
 ·have hyes : relOk n r = tuplesF n r.arity r.tuples:=by
   rw [relOk]
   revert hc
   cases nameF r.name<;>cases decide (0 ≤ r.arity)<;>cases decide (r.arity ≤ 12)<;>cases decide (powL n 4096 r.arity.toNat 1 ≥ 0)<;>simp
  have hlen:=hr.len
  repeat (first | refine nav ?_ | refine bo ?_)
  (refine wr fun K R hK hR=>?_;simp only [go_sem];(try go_ints);(repeat refine And.intro side ?_);(first|refine hK _ ?_|refine hR _ _ ?_);clear hK hR K R)
  repeat (first | refine nav ?_ | refine bo ?_)
  refine W_for 27 72 [5] (fun m t o=>∃ k : Nat,[Ob.cells 3 [[.s r.name,.i .i64 r.arity,.sl 1 (tups r.tuples)]]] = o ∧ t 5 = .i .i64 k ∧ m = r.tuples.length - k ∧ k ≤ r.tuples.length ∧ ∀ i < k,tupOk n r.arity r.tuples i = true) r.tuples.length ⟨0,rfl,by simp only [go_sem]<;>rfl,by omega,Nat.zero_le _,by simp⟩ ?_
  rintro m t o ⟨k,rfl,h5,rfl,hk,hi⟩
  repeat (first | refine nav ?_ | refine bo ?_)
  (refine wr fun K R hK hR=>?_;simp only [go_sem,h5];(try go_ints);(try simp only [go_sem,h5]);(repeat refine And.intro side ?_);(first|refine hK _ ?_|refine hR _ _ ?_);clear hK hR K R)
  repeat (first | refine nav ?_ | refine bo ?_)
  refine W_cond (by simp only [go_sem]<;>exact rfl) (fun hb=>?_) (fun hb=>?_)
  ·simp at hb
   obtain ⟨x,hx⟩ : ∃ x,r.tuples[k]? = some x:=⟨_,List.getElem?_eq_getElem hb⟩
   have hxl:=hr.tup x (List.mem_of_getElem? hx)
   have e1 : ((k : Int) - 1).toNat = k - 1:=by omega
   obtain ⟨y,hy⟩ : ∃ y,r.tuples[k - 1]? = some y:=⟨_,List.getElem?_eq_getElem (by omega)⟩
   have hyl:=hr.tup y (List.mem_of_getElem? hy)
   have hya : 0 < k → (y.length : Int) = r.arity:=by
    intro h0
    have:=hi (k - 1) (by omega)
    simp only [tupOk,List.getD_eq_getElem?_getD,hy,Option.getD_some,Bool.and_eq_true,beq_iff_eq] at this
    exact this.1.1
   have hspec : tupOk n r.arity r.tuples k = (((x.length : Int) == r.arity) && inT n x && (decide (k = 0) || decide (cmpL y x < 0))):=by
    simp only [tupOk,List.getD_eq_getElem?_getD,hx,hy,Option.getD_some,inT]
   have hk0 : decide ((k : Int) > 0) = !decide (k = 0):=by
    by_cases h : k = 0
    ·simp [h]
    ·simp [h];omega
   repeat (first | refine nav ?_ | refine bo ?_)
   (refine W_dreg (by decide +kernel) [] [0,1,2,3,4,5,6,7,8,9,10,11,12,13,14,15,16,17,18,19,20,21,22,23,24,25,26,27,28,29,30,31,32,33,34,35,36,37] [[],[0],[],[2,0,1],[1,0,2,3],[3,2,0,1,4],[],[6],[6,7,4,1,0,2,3,5],[5,3,2,0,1,4,7,6,8],[8,6,7,4,1,0,2,3,5,9],[8,6,7,4,1,0,2,3,5,9],[9,5,3,2,0,1,4,7,6,8,11],[8,6,7,4,1,0,2,3,5,9],[13,11,8,6,7,4,1,0,2,3,5,9,12],[12,9,5,3,2,0,1,4,7,6,8,11,13,14],[14,13,11,12,15,9,5,3,2,0,1,4,7,6,8,10],[10,8,6,7,4,1,0,2,3,5,9,15,12,11,13,14,16],[16,14,13,11,12,15,10,17,8,6,7,4,1,0,2,3,5,9],[9,5,3,2,0,1,4,7,6,8,17,10,15,12,11,13,14,16,18],[18,16,14,13,11,12,15,10,17,8,6,7,4,1,0,2,3,5,9,19],[19,9,5,3,2,0,1,4,7,6,8,17,10,15,12,11,13,14,16,18,20],[20,18,16,14,13,11,12,15,10,17,8,6,7,4,1,0,2,3,5,9,19,21],[21,19,9,5,3,2,0,1,4,7,6,8,17,10,15,12,11,13,14,16,18,20,22],[22,20,18,16,14,13,11,12,15,10,17,8,6,7,4,1,0,2,3,5,9,19,21,23],[21,19,9,5,3,2,0,1,4,7,6,8,17,10,15,12,11,13,14,16,18,20,22],[22,20,18,16,14,13,11,12,15,10,17,8,6,7,4,1,0,2,3,5,9,19,21,25],[25,26,23,21,19,9,5,3,2,0,1,4,7,6,8,17,10,15,12,11,13,14,16,18,20,22,24],[24,22,20,18,16,14,13,11,12,15,10,17,8,6,7,4,1,0,2,3,5,9,19,21,23,26,25,27],[21,19,9,5,3,2,0,1,4,7,6,8,17,10,15,12,11,13,14,16,18,20,22],[22,20,18,16,14,13,11,12,15,10,17,8,6,7,4,1,0,2,3,5,9,19,21,29],[21,19,9,5,3,2,0,1,4,7,6,8,17,10,15,12,11,13,14,16,18,20,22],[31,29,21,19,9,5,3,2,0,1,4,7,6,8,17,10,15,12,11,13,14,16,18,20,22,30],[30,22,20,18,16,14,13,11,12,15,10,17,8,6,7,4,1,0,2,3,5,9,19,21,29,31,32],[32,31,29,30,33,27,25,26,23,21,19,9,5,3,2,0,1,4,7,6,8,17,10,15,12,11,13,14,16,18,20,22,24,28],[28,24,22,20,18,16,14,13,11,12,15,10,17,8,6,7,4,1,0,2,3,5,9,19,21,23,26,25,27,33,30,29,31,32,34],[34,32,31,29,30,33,27,25,26,23,24,28,35,21,19,9,5,3,2,0,1,4,7,6,8,17,10,15,12,11,13,14,16,18,20,22],[22,20,21,35,28,24,23,26,25,27,33,30,29,31,32,34,36,18,16,14,13,11,12,15,10,17,8,6,7,4,1,0,2,3,5,9,19]] (by decide +kernel) rfl fun K R hK hR=>?_;simp only [List.filterMap_cons,List.filterMap_nil,List.getElem?_cons_zero,List.getElem?_cons_succ,List.cons_append,List.nil_append];simp only [go_sem,h5,tups_get hx];(try go_ints);(try simp only [go_sem,h5,tups_get hx]);(repeat refine And.intro side ?_);(first|refine hK _ ?_|refine hR _ _ ?_);clear hK hR K R)
   refine D_callDg rfl (by simp only [go_sem]<;>exact rfl) (fun e=>in_spec n x hxl) rfl rfl rfl (fun e=>by (try simp only [go_sem] at e);simp only [go_sem,e]<;>(try simp only [go_sem])<;>first | exact LeA.refl _ | exact Le.refl _) rfl rfl rfl rfl ?_
   (refine D_reg fun K R hK hR=>?_;simp only [go_sem,h5,e1,tups_get hx,tups_get hy];(try go_ints);(try simp only [go_sem,h5,e1,tups_get hx,tups_get hy]);(repeat refine And.intro side ?_);(first|refine hK _ ?_|refine hR _ _ ?_);clear hK hR K R)
   refine D_callDg rfl (by simp only [go_sem]<;>exact rfl) (fun e=>less_spec y x hyl (by have:=e;simp [bne] at this;have:=hya (by omega);omega)) rfl rfl rfl (fun e=>by (try simp only [go_sem] at e);simp only [go_sem,e]<;>(try simp only [go_sem])<;>first | exact LeA.refl _ | exact Le.refl _) rfl rfl rfl rfl ?_
   (refine D_reg fun K R hK hR=>?_;simp only [go_sem];(try go_ints);(repeat refine And.intro side ?_);(first|refine hK _ ?_|refine hR _ _ ?_);clear hK hR K R)
   repeat (first | refine nav ?_ | refine bo ?_)
   refine W_cond (by simp only [go_sem]<;>exact rfl) (fun hc=>?_) (fun hc=>?_)
   ·have hno : tupOk n r.arity r.tuples k = false:=by
     rw [hspec]
     rw [hk0] at hc
     simp only [Bool.or_eq_true,Bool.and_eq_true,Bool.not_eq_true',Bool.not_eq_false',Bool.and_eq_false_iff,Bool.or_eq_false_iff,decide_eq_true_eq,decide_eq_false_iff_not,Bool.not_eq_eq_eq_not,Bool.not_true,Bool.not_false,bne_iff_ne,ne_eq] at hc
     rcases hc with (hc | hc) | ⟨hc1,hc2⟩
     ·simp [hc]
     ·simp [hc]
     ·by_cases hxa : (x.length : Int) = r.arity
      ·have hk1 : 0 < k:=by first | omega | (simp at hc1;omega)
       rw [lessL_cmp y x (by have:=hya hk1;omega)] at hc2
       rw [hc2,decide_eq_false (show ¬ k = 0 by omega)]
       simp
      ·simp [hxa]
    repeat (first | refine nav ?_ | refine bo ?_)
    (refine wr fun K R hK hR=>?_;simp only [go_sem];(try go_ints);(repeat refine And.intro side ?_);(first|refine hK _ ?_|refine hR _ _ ?_);clear hK hR K R)
    repeat (first | refine nav ?_ | refine bo ?_)
    refine endQ_data (by simp only [go_sem]<;>exact rfl) (Le.of_eq ?_) rfl
    rw [hyes,AV.b.injEq,eq_comm,tuplesF,List.all_eq_false]
    exact ⟨k,by simpa using hb,by simp [hno]⟩
   ·have hyes' : tupOk n r.arity r.tuples k = true:=by
     rw [hspec]
     rw [hk0] at hc
     simp only [Bool.or_eq_true,Bool.and_eq_true,Bool.not_eq_true',Bool.not_eq_false',Bool.and_eq_false_iff,Bool.or_eq_false_iff,decide_eq_true_eq,decide_eq_false_iff_not,Bool.not_eq_eq_eq_not,Bool.not_true,Bool.not_false,bne_eq_false_iff_eq] at hc
     obtain ⟨⟨hc1,hc2⟩,hc3⟩:=hc
     rw [hc2,Bool.and_true]
     by_cases hk1 : k = 0
     ·simp [hc1,hk1]
     ·rw [← lessL_cmp y x (by have:=hya (by omega);omega)]
      rcases hc3 with h | h
      ·simp [hk1] at h
      ·simp [hc1,h]
    repeat (first | refine nav ?_ | refine bo ?_)
    (refine wr fun K R hK hR=>?_;simp only [go_sem,h5];(try go_ints);(try simp only [go_sem,h5]);(repeat refine And.intro side ?_);(first|refine hK _ ?_|refine hR _ _ ?_);clear hK hR K R)
    refine forQ_normal (r.tuples.length - (k + 1)) (by omega) ⟨k + 1,?_⟩
    ((try simp only [go_sem]);(repeat' refine And.intro ?_ ?_)<;>(try first | with_reducible rfl | omega | with_reducible assumption | (simp;done)))
    intro i hik
    rcases Nat.lt_succ_iff_lt_or_eq.1 hik with h | rfl
    ·exact hi i h
    ·exact hyes'
  ·simp at hb
   have : k = r.tuples.length:=by omega
   subst this
   repeat (first | refine nav ?_ | refine bo ?_)
   (refine wr fun K R hK hR=>?_;simp only [go_sem];(try go_ints);(repeat refine And.intro side ?_);(first|refine hK _ ?_|refine hR _ _ ?_);clear hK hR K R)
   repeat (first | refine nav ?_ | refine bo ?_)
   refine endQ_data (by simp only [go_sem]<;>exact rfl) (Le.of_eq ?_) rfl
   rw [hyes,AV.b.injEq,eq_comm,tuplesF,List.all_eq_true]
   exact fun i hi'=>hi i (by simpa using hi')
def rfindF (s : StrD) (name : ByteArray) : Int:=idxI (fun q : RelD=>q.name.toList == name.toList) s.rels 0
theorem rfind_spec (s : StrD) (hs : s.Ok) (name : ByteArray) : ACallsD Tryz.prog 63 [.agg [.i .i64 s.size,.sl 3 (rels s.rels)],.s name] (.i .i64 (rfindF s name)):=by
 have hlen:=hs.len
 refine ACalls_of' (n:=22) (rs:=[.tmp 4]) (show Tryz.prog.funcs[63]? = some Tryz.f63 by kernel_rfl) rfl rfl rfl (by simp) (by decide +kernel) ?_
 repeat (first | refine nav ?_ | refine bo ?_)
 (refine wr fun K R hK hR=>?_;simp only [go_sem];(try go_ints);(repeat refine And.intro side ?_);(first|refine hK _ ?_|refine hR _ _ ?_);clear hK hR K R)
 repeat (first | refine nav ?_ | refine bo ?_)
 (refine wr fun K R hK hR=>?_;simp only [go_sem];(try go_ints);(repeat refine And.intro side ?_);(first|refine hK _ ?_|refine hR _ _ ?_);clear hK hR K R)
 repeat (first | refine nav ?_ | refine bo ?_)
 refine W_for 6 22 [5] (fun m t o=>∃ k : Nat,[Ob.cells 2 [[.i .i64 s.size,.sl 3 (rels s.rels)]]] = o ∧ t 5 = .i .i64 k ∧ m = s.rels.length - k ∧ k ≤ s.rels.length ∧ idxI (fun q : RelD=>q.name.toList == name.toList) (s.rels.drop k) k = rfindF s name) s.rels.length ⟨0,rfl,by simp only [go_sem]<;>rfl,by omega,Nat.zero_le _,rfl⟩ ?_
 rintro m t o ⟨k,rfl,h5,rfl,hk,hi⟩
 repeat (first | refine nav ?_ | refine bo ?_)
 (refine wr fun K R hK hR=>?_;simp only [go_sem,h5];(try go_ints);(try simp only [go_sem,h5]);(repeat refine And.intro side ?_);(first|refine hK _ ?_|refine hR _ _ ?_);clear hK hR K R)
 repeat (first | refine nav ?_ | refine bo ?_)
 refine W_cond (by simp only [go_sem]<;>exact rfl) (fun hb=>?_) (fun hb=>?_)
 ·simp at hb
  obtain ⟨r,hr⟩ : ∃ r,s.rels[k]? = some r:=⟨_,List.getElem?_eq_getElem hb⟩
  rw [drop_cons hr,idxI] at hi
  repeat (first | refine nav ?_ | refine bo ?_)
  (refine wr fun K R hK hR=>?_;simp only [go_sem,h5,rels_get hr];(try go_ints);(try simp only [go_sem,h5,rels_get hr]);(repeat refine And.intro side ?_);(first|refine hK _ ?_|refine hR _ _ ?_);clear hK hR K R)
  repeat (first | refine nav ?_ | refine bo ?_)
  refine W_cond (by simp only [go_sem]<;>exact rfl) (fun hd=>?_) (fun hd=>?_)
  ·rw [if_pos hd] at hi
   repeat (first | refine nav ?_ | refine bo ?_)
   (refine wr fun K R hK hR=>?_;simp only [go_sem,h5];(try go_ints);(try simp only [go_sem,h5]);(repeat refine And.intro side ?_);(first|refine hK _ ?_|refine hR _ _ ?_);clear hK hR K R)
   repeat (first | refine nav ?_ | refine bo ?_)
   refine endQ_data (by simp only [go_sem]<;>exact rfl) (Le.of_eq ?_) rfl
   rw [hi]
  ·rw [if_neg (by simp [hd])] at hi
   repeat (first | refine nav ?_ | refine bo ?_)
   (refine wr fun K R hK hR=>?_;simp only [go_sem,h5];(try go_ints);(try simp only [go_sem,h5]);(repeat refine And.intro side ?_);(first|refine hK _ ?_|refine hR _ _ ?_);clear hK hR K R)
   refine forQ_normal (s.rels.length - (k + 1)) (by omega) ⟨k + 1,?_⟩
   ((try simp only [go_sem]);(repeat' refine And.intro ?_ ?_)<;>(try first | with_reducible rfl | omega | with_reducible assumption | (simp;done)))
   rw [Int.natCast_add,Int.natCast_one];exact hi
 ·simp at hb
  have : k = s.rels.length:=by omega
  subst this
  rw [List.drop_length,idxI] at hi
  repeat (first | refine nav ?_ | refine bo ?_)
  (refine wr fun K R hK hR=>?_;simp only [go_sem];(try go_ints);(repeat refine And.intro side ?_);(first|refine hK _ ?_|refine hR _ _ ?_);clear hK hR K R)
  repeat (first | refine nav ?_ | refine bo ?_)
  refine endQ_data (by simp only [go_sem]<;>exact rfl) (Le.of_eq ?_) rfl
  rw [← hi]
end Go.AW
namespace Go.AW
open Go Go.Proofs TyTryz Go.IntWalk
set_option linter.unusedSimpArgs false
set_option linter.unusedVariables false
set_option maxRecDepth 10000
set_option maxHeartbeats 1000000
theorem drop_kids {l : List PlanD} {k : Nat} {q : PlanD} (h : l[k]? = some q) : l.drop k = q :: l.drop (k + 1):=drop_cons h
mutual
/-- The number of a plan's nodes. -/
def cntF : PlanD → Nat
 | .mk _ _ _ _ _ _ ks=>1 + cntL ks
def cntL : List PlanD → Nat
 | []=>0
 | p :: r=>cntF p + cntL r
end
mutual
/-- A plan's depth. -/
def deepF : PlanD → Nat
 | .mk _ _ _ _ _ _ ks=>deepL ks + 1
def deepL : List PlanD → Nat
 | []=>0
 | p :: r=>max (deepF p) (deepL r)
end
mutual
/-- A plan's weight,as the law counts it. -/
def weighF : PlanD → Nat → Nat → Nat
 | .mk _ _ _ _ nm cs ks,n,most=>weighL ks (n + 1 + cs.length + nm.size / 100) most
def weighL : List PlanD → Nat → Nat → Nat
 | [],n,_=>n
 | p :: r,n,most=>if n ≤ most then weighL r (weighF p n most) most else n
end
theorem cntF_eq (p : PlanD) : cntF p = 1 + cntL p.kids:=by cases p;rfl
theorem deepF_eq (p : PlanD) : deepF p = deepL p.kids + 1:=by cases p;rfl
theorem cntF_pos (p : PlanD) : 1 ≤ cntF p:=by rw [cntF_eq];omega
theorem kids_cnt : ∀ l : List PlanD,l.length ≤ cntL l
 | []=>Nat.le_refl _
 | p :: r=>by
  have:=kids_cnt r
  have:=cntF_pos p
  simp only [cntL,List.length_cons];omega
theorem cnt_mem : ∀ {l : List PlanD} {p : PlanD},p ∈ l → cntF p ≤ cntL l
 | q :: r,p,h=>by
  simp only [cntL]
  rcases List.mem_cons.1 h with rfl | h
  ·omega
  ·have:=cnt_mem h;omega
theorem deepL_le : ∀ (l : List PlanD),(∀ p ∈ l,deepF p ≤ cntF p) → deepL l ≤ cntL l
 | [],_=>Nat.le_refl _
 | p :: r,h=>by
  simp only [deepL,cntL]
  have h1:=h p (by simp)
  have h2:=deepL_le r fun q hq=>h q (by simp [hq])
  omega
theorem deepF_le : ∀ (p : PlanD),deepF p ≤ cntF p :=
 PlanD.ind fun p ih=>by
  rw [deepF_eq,cntF_eq]
  have:=deepL_le p.kids ih
  omega
theorem weighF_eq (p : PlanD) (n most : Nat) : weighF p n most = weighL p.kids (n + 1 + p.cols.length + p.name.size / 100) most:=by cases p;rfl
theorem weighL_ge : ∀ (l : List PlanD),(∀ p ∈ l,∀ n most,n ≤ weighF p n most) → ∀ n most,n ≤ weighL l n most
 | [],_,_,_=>Nat.le_refl _
 | p :: r,h,n,most=>by
  simp only [weighL]
  split
  ·exact Nat.le_trans (h p (by simp) n most) (weighL_ge r (fun q hq=>h q (by simp [hq])) _ _)
  ·exact Nat.le_refl _
theorem weighF_ge : ∀ (p : PlanD) (n most : Nat),n ≤ weighF p n most :=
 PlanD.ind fun p ih n most=>by
  rw [weighF_eq]
  exact Nat.le_trans (by omega) (weighL_ge p.kids ih _ _)
theorem weighL_cnt : ∀ (l : List PlanD),(∀ p ∈ l,∀ n most,weighF p n most ≤ most → n + cntF p ≤ weighF p n most) → ∀ n most,weighL l n most ≤ most → n + cntL l ≤ weighL l n most
 | [],_,n,most,_=>by simp [weighL,cntL]
 | p :: r,h,n,most,hw=>by
  simp only [weighL] at hw ⊢
  split at hw
  ·rename_i hn
   rw [if_pos hn]
   have h1:=weighL_cnt r (fun q hq=>h q (by simp [hq])) _ _ hw
   have h2:=h p (by simp) n most (by have:=weighL_ge r (fun q _=>weighF_ge q) (weighF p n most) most;omega)
   simp only [cntL];omega
  ·omega
theorem weighF_cnt : ∀ (p : PlanD) (n most : Nat),weighF p n most ≤ most → n + cntF p ≤ weighF p n most :=
 PlanD.ind fun p ih n most hw=>by
  rw [weighF_eq] at hw ⊢
  have:=weighL_cnt p.kids ih _ _ hw
  rw [cntF_eq];omega
theorem weighF_le : ∀ (p : PlanD) (n most : Nat),p.Ok → n ≤ most → weighF p n most ≤ most + 2 ^ 52 :=
 PlanD.ind fun p ih n most hp hn=>by
  rw [weighF_eq]
  have h1:=hp.cols
  have h2:=hp.name
  have key : ∀ (l : List PlanD),(∀ q ∈ l,∀ n most,q.Ok → n ≤ most → weighF q n most ≤ most + 2 ^ 52) → (∀ q ∈ l,q.Ok) → ∀ m,m ≤ most + 2 ^ 52 → weighL l m most ≤ most + 2 ^ 52:=by
   intro l
   induction l with
   | nil=>intro _ _ m hm;exact hm
   | cons q r ihr =>
    intro h1 h2 m hm
    simp only [weighL]
    split
    ·rename_i hmm
     exact ihr (fun x hx=>h1 x (by simp [hx])) (fun x hx=>h2 x (by simp [hx])) _ (h1 q (by simp) m most (h2 q (by simp)) hmm)
    ·exact hm
  exact key p.kids ih hp.kid _ (by omega)
inductive PlanD.Sm : PlanD → Prop
 | mk (p : PlanD) : p.name.size ≤ 1073741824 → p.cols.length ≤ 1073741824 → p.kids.length ≤ 1073741824 → (∀ k ∈ p.kids,k.Sm) → p.Sm
theorem PlanD.Sm.name {p : PlanD} : p.Sm → p.name.size ≤ 1073741824 | .mk _ h _ _ _=>h
theorem PlanD.Sm.cols {p : PlanD} : p.Sm → p.cols.length ≤ 1073741824 | .mk _ _ h _ _=>h
theorem PlanD.Sm.len {p : PlanD} : p.Sm → p.kids.length ≤ 1073741824 | .mk _ _ _ h _=>h
theorem PlanD.Sm.kid {p : PlanD} : p.Sm → ∀ k ∈ p.kids,k.Sm | .mk _ _ _ _ h=>h
theorem weighL_sm {most : Nat} : ∀ (l : List PlanD) (n : Nat),weighL l n most ≤ most → ∀ q ∈ l,∃ m,weighF q m most ≤ most
 | [],_,_,q,hq=>by cases hq
 | p :: r,n,hw,q,hq=>by
  simp only [weighL] at hw
  split at hw
  ·have h1:=weighL_ge r (fun q _=>weighF_ge q) (weighF p n most) most
   rcases List.mem_cons.1 hq with rfl | hq
   ·exact ⟨n,by omega⟩
   ·exact weighL_sm r _ hw q hq
  ·omega
theorem sm_of_weigh {most : Nat} (hm : most ≤ 100000) : ∀ (p : PlanD) (n : Nat),weighF p n most ≤ most → p.Sm :=
 PlanD.ind fun p ih n hw=>by
  have hc:=weighF_cnt p n most hw
  rw [weighF_eq] at hw
  have h1:=weighL_ge p.kids (fun q _=>weighF_ge q) (n + 1 + p.cols.length + p.name.size / 100) most
  rw [cntF_eq] at hc
  have h2:=kids_cnt p.kids
  refine ⟨p,by omega,by omega,?_,fun q hq=>?_⟩
  ·have:=weighL_cnt p.kids (fun q _=>weighF_cnt q) _ _ hw
   omega
  ·obtain ⟨m,h⟩:=weighL_sm p.kids _ hw q hq
   exact ih q hq m h
theorem weigh_spec : ∀ (p : PlanD),p.Ok → ∀ (n most : Nat),n ≤ most → most ≤ 100000 → ACallsD Tryz.prog 42 [.agg p.cells,.i .i64 n,.i .i64 most] (.i .i64 (weighF p n most)) :=
 PlanD.ind fun p ih hp n most hn hm=>by
  have h1:=hp.cols
  have h2:=hp.name
  have h3:=hp.len
  have hwle:=weighF_le p n most hp hn
  have hmt : ∀ (a : Nat),a ≤ 1125899906842624 → Int.tdiv (a : Int) 100 = ((a / 100 : Nat) : Int):=fun a _=>by rw [Int.tdiv_eq_ediv_of_nonneg (by omega)];omega
  rw [PlanD.cells_eq]
  refine ACalls_of' (n:=40) (rs:=[.tmp 6]) (show Tryz.prog.funcs[42]? = some Tryz.f42 by kernel_rfl) rfl rfl rfl (by simp) (by decide +kernel) ?_
  repeat (first | refine nav ?_ | refine bo ?_)
  (refine wr fun K R hK hR=>?_;simp only [go_sem];(try go_ints);(repeat refine And.intro side ?_);(first|refine hK _ ?_|refine hR _ _ ?_);clear hK hR K R)
  repeat (first | refine nav ?_ | refine bo ?_)
  (refine wr fun K R hK hR=>?_;simp only [go_sem,hmt _ h2];(try go_ints);(try simp only [go_sem,hmt _ h2]);(repeat refine And.intro side ?_);(first|refine hK _ ?_|refine hR _ _ ?_);clear hK hR K R)
  repeat (first | refine nav ?_ | refine bo ?_)
  (refine wr fun K R hK hR=>?_;simp only [go_sem];(try go_ints);(repeat refine And.intro side ?_);(first|refine hK _ ?_|refine hR _ _ ?_);clear hK hR K R)
  repeat (first | refine nav ?_ | refine bo ?_)
  refine W_for 19 39 [1,7] (fun m t o=>∃ (k m' : Nat),[Ob.cells 7 [[AV.i .i64 p.kind,.i .i64 p.width,.i .i64 p.i,.i .i64 p.j,.s p.name,.sl 1 (ints p.cols),.sl 7 (plans p.kids)]]] = o ∧ t 7 = .i .i64 k ∧ t 1 = .i .i64 m' ∧ m = p.kids.length - k ∧ k ≤ p.kids.length ∧ m' ≤ most + 2 ^ 52 ∧ weighL (p.kids.drop k) m' most = weighF p n most) p.kids.length
   ⟨0,n + 1 + p.cols.length + p.name.size / 100,rfl,by simp only [go_sem]<;>rfl,by simp only [go_sem]<;>(congr 1<;>omega),by omega,by omega,by omega,by rw [weighF_eq];rfl⟩ ?_
  rintro m t o ⟨k,m',rfl,h7,h1',rfl,hk,hml,hi⟩
  repeat (first | refine nav ?_ | refine bo ?_)
  (refine wr fun K R hK hR=>?_;simp only [go_sem,h7,h1'];(try go_ints);(try simp only [go_sem,h7,h1']);(repeat refine And.intro side ?_);(first|refine hK _ ?_|refine hR _ _ ?_);clear hK hR K R)
  repeat (first | refine nav ?_ | refine bo ?_)
  refine W_cond (by simp only [go_sem]<;>exact rfl) (fun hb=>?_) (fun hb=>?_)
  ·simp only [Bool.and_eq_true,decide_eq_true_eq] at hb
   have hb1 : k < p.kids.length:=by omega
   have hb2 : m' ≤ most:=by omega
   obtain ⟨x,hx⟩ : ∃ x,p.kids[k]? = some x:=⟨_,List.getElem?_eq_getElem hb1⟩
   have hxm:=List.mem_of_getElem? hx
   rw [drop_kids hx,weighL,if_pos hb2] at hi
   have hxl:=weighF_le x m' most (hp.kid x hxm) hb2
   have hcx:=x.cells_eq
   repeat (first | refine nav ?_ | refine bo ?_)
   (refine wr fun K R hK hR=>?_;simp only [go_sem,h7,h1',plans_get hx];(try go_ints);(try simp only [go_sem,h7,h1',plans_get hx]);(repeat refine And.intro side ?_);(first|refine hK _ ?_|refine hR _ _ ?_);clear hK hR K R)
   have ihx:=ih x hxm (hp.kid x hxm) m' most hb2 hm
   rw [hcx] at ihx
   refine RL_callF (ihx) rfl rfl rfl (by first | (simp only [go_sem]<;>first | exact LeA.refl _ | exact Le.refl _) | exact LeA.refl _) rfl rfl ?_
   (refine rr fun K R hK hR=>?_;simp only [go_sem];(try go_ints);(repeat refine And.intro side ?_);(first|refine hK _ ?_|refine hR _ _ ?_);clear hK hR K R)
   repeat (first | refine nav ?_ | refine bo ?_)
   (refine wr fun K R hK hR=>?_;simp only [go_sem,h7];(try go_ints);(try simp only [go_sem,h7]);(repeat refine And.intro side ?_);(first|refine hK _ ?_|refine hR _ _ ?_);clear hK hR K R)
   refine forQ_normal (p.kids.length - (k + 1)) (by omega) ⟨k + 1,weighF x m' most,?_⟩
   ((try simp only [go_sem]);(repeat' refine And.intro ?_ ?_)<;>(try first | with_reducible rfl | omega | with_reducible assumption | (simp;done)))
  ·have hb' : ¬ (k < p.kids.length ∧ m' ≤ most):=by simpa using hb
   have hi' : m' = weighF p n most:=by
    rcases Nat.lt_or_ge k p.kids.length with hlt | hge
    ·obtain ⟨x,hx⟩ : ∃ x,p.kids[k]? = some x:=⟨_,List.getElem?_eq_getElem hlt⟩
     rw [drop_kids hx,weighL,if_neg (by omega)] at hi
     exact hi
    ·rw [List.drop_eq_nil_of_le hge,weighL] at hi;exact hi
   repeat (first | refine nav ?_ | refine bo ?_)
   (refine wr fun K R hK hR=>?_;simp only [go_sem,h1'];(try go_ints);(try simp only [go_sem,h1']);(repeat refine And.intro side ?_);(first|refine hK _ ?_|refine hR _ _ ?_);clear hK hR K R)
   repeat (first | refine nav ?_ | refine bo ?_)
   refine endQ_data (by simp only [go_sem]<;>exact rfl) (Le.of_eq ?_) rfl
   rw [hi']
theorem count_spec : ∀ (p : PlanD),p.Ok → cntF p ≤ 100000 → ACallsD Tryz.prog 18 [.agg p.cells] (.tup [.i .i64 (cntF p),.i .i64 (deepF p)]) :=
 PlanD.ind fun p ih hp hc=>by
  rw [PlanD.cells_eq]
  refine ACalls_of' (n:=34) (rs:=[.tmp 2,.tmp 3]) (show Tryz.prog.funcs[18]? = some Tryz.f18 by kernel_rfl) rfl rfl rfl (by simp) (by decide +kernel) ?_
  repeat (first | refine nav ?_ | refine bo ?_)
  (refine wr fun K R hK hR=>?_;simp only [go_sem];(try go_ints);(repeat refine And.intro side ?_);(first|refine hK _ ?_|refine hR _ _ ?_);clear hK hR K R)
  repeat (first | refine nav ?_ | refine bo ?_)
  (refine wr fun K R hK hR=>?_;simp only [go_sem];(try go_ints);(repeat refine And.intro side ?_);(first|refine hK _ ?_|refine hR _ _ ?_);clear hK hR K R)
  repeat (first | refine nav ?_ | refine bo ?_)
  (refine wr fun K R hK hR=>?_;simp only [go_sem];(try go_ints);(repeat refine And.intro side ?_);(first|refine hK _ ?_|refine hR _ _ ?_);clear hK hR K R)
  repeat (first | refine nav ?_ | refine bo ?_)
  have hdk:=deepF_le p
  refine W_for 9 31 [4,5,6,7,8] (fun m t o=>∃ (k n' d' : Nat),[Ob.cells 7 [[AV.i .i64 p.kind,.i .i64 p.width,.i .i64 p.i,.i .i64 p.j,.s p.name,.sl 1 (ints p.cols),.sl 7 (plans p.kids)]]] = o ∧ t 6 = .i .i64 k ∧ t 4 = .i .i64 n' ∧ t 5 = .i .i64 d' ∧ m = p.kids.length - k ∧ k ≤ p.kids.length ∧ n' + cntL (p.kids.drop k) = cntF p ∧ max d' (deepL (p.kids.drop k)) + 1 = deepF p) p.kids.length
   ⟨0,1,0,rfl,by simp only [go_sem]<;>rfl,by simp only [go_sem]<;>rfl,by simp only [go_sem]<;>rfl,by omega,by omega,by rw [cntF_eq,List.drop_zero],by rw [deepF_eq,List.drop_zero];omega⟩ ?_
  rintro m t o ⟨k,n',d',rfl,h6,h4,h5,rfl,hk,hi,hj⟩
  have h3:=hp.len
  repeat (first | refine nav ?_ | refine bo ?_)
  (refine wr fun K R hK hR=>?_;simp only [go_sem,h6];(try go_ints);(try simp only [go_sem,h6]);(repeat refine And.intro side ?_);(first|refine hK _ ?_|refine hR _ _ ?_);clear hK hR K R)
  repeat (first | refine nav ?_ | refine bo ?_)
  refine W_cond (by simp only [go_sem]<;>exact rfl) (fun hb=>?_) (fun hb=>?_)
  ·have hb1 : k < p.kids.length:=by simpa using hb
   obtain ⟨x,hx⟩ : ∃ x,p.kids[k]? = some x:=⟨_,List.getElem?_eq_getElem hb1⟩
   have hxm:=List.mem_of_getElem? hx
   rw [drop_kids hx,cntL] at hi
   rw [drop_kids hx,deepL] at hj
   have hcx:=x.cells_eq
   have hdx:=deepF_le x
   repeat (first | refine nav ?_ | refine bo ?_)
   (refine wr fun K R hK hR=>?_;simp only [go_sem,h6,plans_get hx];(try go_ints);(try simp only [go_sem,h6,plans_get hx]);(repeat refine And.intro side ?_);(first|refine hK _ ?_|refine hR _ _ ?_);clear hK hR K R)
   have ihx:=ih x hxm (hp.kid x hxm) (by omega)
   rw [hcx] at ihx
   refine RL_callF (ihx) rfl rfl rfl (by first | (simp only [go_sem]<;>first | exact LeA.refl _ | exact Le.refl _) | exact LeA.refl _) rfl rfl ?_
   (refine rr fun K R hK hR=>?_;simp only [go_sem];(try go_ints);(repeat refine And.intro side ?_);(first|refine hK _ ?_|refine hR _ _ ?_);clear hK hR K R)
   repeat (first | refine nav ?_ | refine bo ?_)
   (refine wr fun K R hK hR=>?_;simp only [go_sem,h4,h5];(try go_ints);(try simp only [go_sem,h4,h5]);(repeat refine And.intro side ?_);(first|refine hK _ ?_|refine hR _ _ ?_);clear hK hR K R)
   repeat (first | refine nav ?_ | refine bo ?_)
   (refine wr fun K R hK hR=>?_;simp only [go_sem,h6];(try go_ints);(try simp only [go_sem,h6]);(repeat refine And.intro side ?_);(first|refine hK _ ?_|refine hR _ _ ?_);clear hK hR K R)
   refine forQ_normal (p.kids.length - (k + 1)) (by omega) ⟨k + 1,n' + cntF x,max d' (deepF x),rfl,by simp only [go_sem]<;>simp,by simp only [go_sem]<;>simp,by simp only [go_sem]<;>(congr 1;split<;>omega),rfl,by omega,by omega,by omega⟩
  ·have hb' : k = p.kids.length:=by have : ¬ k < p.kids.length:=(by simpa using hb);omega
   subst hb'
   rw [List.drop_length,cntL] at hi
   rw [List.drop_length,deepL] at hj
   repeat (first | refine nav ?_ | refine bo ?_)
   (refine wr fun K R hK hR=>?_;simp only [go_sem,h4,h5];(try go_ints);(try simp only [go_sem,h4,h5]);(repeat refine And.intro side ?_);(first|refine hK _ ?_|refine hR _ _ ?_);clear hK hR K R)
   repeat (first | refine nav ?_ | refine bo ?_)
   refine endQ_data (by simp only [go_sem]<;>exact rfl) (Le.of_eq ?_) rfl
   have e1 : n' = cntF p:=by omega
   have e2 : (d' : Int) + 1 = deepF p:=by omega
   rw [e1,e2]
theorem few_spec (p : PlanD) (hp : p.Ok) (most : Nat) (hm : most ≤ 100000) : ACallsD Tryz.prog 21 [.i .i64 most,.sl 7 (plans [p])] (.b (decide (weighF p 0 most ≤ most))):=by
 have hwle:=weighF_le p 0 most hp (by omega)
 have hpl : (plans [p]).getD 0 [] = _:=plans_get (l:=[p]) (k:=0) (x:=p) rfl
 refine ACalls_of' (n:=28) (rs:=[.tmp 4]) (show Tryz.prog.funcs[21]? = some Tryz.f21 by kernel_rfl) rfl rfl rfl (by simp) (by decide +kernel) ?_
 repeat (first | refine nav ?_ | refine bo ?_)
 (refine wr fun K R hK hR=>?_;simp only [go_sem];(try go_ints);(repeat refine And.intro side ?_);(first|refine hK _ ?_|refine hR _ _ ?_);clear hK hR K R)
 repeat (first | refine nav ?_ | refine bo ?_)
 (refine wr fun K R hK hR=>?_;simp only [go_sem];(try go_ints);(repeat refine And.intro side ?_);(first|refine hK _ ?_|refine hR _ _ ?_);clear hK hR K R)
 repeat (first | refine nav ?_ | refine bo ?_)
 (refine wr fun K R hK hR=>?_;simp only [go_sem];(try go_ints);(repeat refine And.intro side ?_);(first|refine hK _ ?_|refine hR _ _ ?_);clear hK hR K R)
 repeat (first | refine nav ?_ | refine bo ?_)
 refine W_for 7 25 [5,6] (fun m t o=>∃ (k m' : Nat),[] = o ∧ t 6 = .i .i64 k ∧ t 5 = .i .i64 m' ∧ m = 1 - k ∧ (k = 0 ∧ m' = 0 ∨ k = 1 ∧ m' = weighF p 0 most)) 1 ⟨0,0,rfl,by simp only [go_sem]<;>rfl,by simp only [go_sem]<;>rfl,by omega,.inl ⟨rfl,rfl⟩⟩ ?_
 rintro m t o ⟨k,m',rfl,h6,h5,rfl,hkm⟩
 have hm' : m' ≤ most + 2 ^ 52:=by omega
 repeat (first | refine nav ?_ | refine bo ?_)
 (refine wr fun K R hK hR=>?_;simp only [go_sem,h6,h5];(try go_ints);(try simp only [go_sem,h6,h5]);(repeat refine And.intro side ?_);(first|refine hK _ ?_|refine hR _ _ ?_);clear hK hR K R)
 repeat (first | refine nav ?_ | refine bo ?_)
 rcases hkm with ⟨rfl,rfl⟩ | ⟨rfl,rfl⟩
 ·refine W_cond (b:=true) (by simp only [go_sem]<;>simp) (fun _=>?_) (fun hb=>by cases hb)
  repeat (first | refine nav ?_ | refine bo ?_)
  (refine wr fun K R hK hR=>?_;simp only [go_sem,h6,h5,hpl];(try go_ints);(try simp only [go_sem,h6,h5,hpl]);(repeat refine And.intro side ?_);(first|refine hK _ ?_|refine hR _ _ ?_);clear hK hR K R)
  have hw:=weigh_spec p hp 0 most (by omega) hm
  rw [PlanD.cells_eq] at hw
  refine RL_callF (hw) rfl rfl rfl (by first | (simp only [go_sem]<;>first | exact LeA.refl _ | exact Le.refl _) | exact LeA.refl _) rfl rfl ?_
  (refine rr fun K R hK hR=>?_;simp only [go_sem];(try go_ints);(repeat refine And.intro side ?_);(first|refine hK _ ?_|refine hR _ _ ?_);clear hK hR K R)
  repeat (first | refine nav ?_ | refine bo ?_)
  (refine wr fun K R hK hR=>?_;simp only [go_sem,h6];(try go_ints);(try simp only [go_sem,h6]);(repeat refine And.intro side ?_);(first|refine hK _ ?_|refine hR _ _ ?_);clear hK hR K R)
  refine forQ_normal 0 (by omega) ⟨1,weighF p 0 most,?_⟩
  ((try simp only [go_sem]);(repeat' refine And.intro ?_ ?_)<;>(try first | with_reducible rfl | omega | with_reducible assumption | (simp;done)))
 ·refine W_cond (b:=false) (by simp only [go_sem]<;>simp) (fun hb=>by cases hb) (fun _=>?_)
  repeat (first | refine nav ?_ | refine bo ?_)
  (refine wr fun K R hK hR=>?_;simp only [go_sem,h5];(try go_ints);(try simp only [go_sem,h5]);(repeat refine And.intro side ?_);(first|refine hK _ ?_|refine hR _ _ ?_);clear hK hR K R)
  repeat (first | refine nav ?_ | refine bo ?_)
  refine endQ_data (by simp only [go_sem]<;>exact rfl) (Le.of_eq ?_) rfl
  simp
end Go.AW
namespace Go.AW
open Go Go.Proofs TyTryz Go.IntWalk
set_option linter.unusedSimpArgs false
set_option linter.unusedVariables false
set_option maxRecDepth 10000
set_option maxHeartbeats 1000000
abbrev Names:=List (ByteArray × Int)
def nsyms (l : Names) : List (List AV):=l.map fun x=>[.s x.1,.i .i64 x.2]
theorem nsyms_len (l : Names) : (nsyms l).length = l.length:=by simp [nsyms]
theorem nsyms_get {l : Names} {k : Nat} {x : ByteArray × Int} (h : l[k]? = some x) : (nsyms l).getD k [] = [.s x.1,.i .i64 x.2]:=by simp [nsyms,h]
theorem syms_snoc (l : Names) (x : ByteArray × Int) : nsyms (l ++ [x]) = nsyms l ++ [[.s x.1,.i .i64 x.2]]:=by simp [nsyms]
attribute [go_sem] nsyms_len
mutual
/-- The names and widths of a plan's relations. -/
def symsF : PlanD → Names
 | .mk k w _ _ nm _ ks=>if k = 0 then [(nm,w)] else symsL ks
def symsL : List PlanD → Names
 | []=>[]
 | p :: r=>symsF p ++ symsL r
end
theorem symsF_eq (p : PlanD) : symsF p = if p.kind = 0 then [(p.name,p.width)] else symsL p.kids:=by cases p;rfl
theorem symsL_len : ∀ (l : List PlanD),(∀ p ∈ l,(symsF p).length ≤ cntF p) → (symsL l).length ≤ cntL l
 | [],_=>Nat.le_refl _
 | p :: r,h=>by
  simp only [symsL,cntL,List.length_append]
  have h1:=h p (by simp)
  have h2:=symsL_len r fun q hq=>h q (by simp [hq])
  omega
theorem symsF_len : ∀ (p : PlanD),(symsF p).length ≤ cntF p :=
 PlanD.ind fun p ih=>by
  rw [symsF_eq,cntF_eq]
  have:=symsL_len p.kids ih
  split
  ·simp
  ·omega
theorem rsyms_spec : ∀ (p : PlanD),p.Ok → ∀ (acc : Names) (a : AV),(a = .nsl ∧ acc = [] ∨ a = .own 2 (nsyms acc)) → acc.length + cntF p ≤ 100000 → ACallsD Tryz.prog 17 [.agg p.cells,a] (.own 2 (nsyms (acc ++ symsF p))) :=
 PlanD.ind fun p ih hp acc a ha hc=>by
  have h3:=hp.len
  have hcp:=cntF_pos p
  have hkl : p.kids.length ≤ 100000:=by
   have:=kids_cnt p.kids
   rw [cntF_eq] at hc;omega
  rw [PlanD.cells_eq]
  refine ACalls_of' (n:=32) (rs:=[.tmp 4]) (show Tryz.prog.funcs[17]? = some Tryz.f17 by kernel_rfl) rfl rfl rfl (by simp) (by decide +kernel) ?_
  repeat (first | refine nav ?_ | refine bo ?_)
  (refine wr fun K R hK hR=>?_;simp only [go_sem];(try go_ints);(repeat refine And.intro side ?_);(first|refine hK _ ?_|refine hR _ _ ?_);clear hK hR K R)
  repeat (first | refine nav ?_ | refine bo ?_)
  (refine wr fun K R hK hR=>?_;simp only [go_sem];(try go_ints);(repeat refine And.intro side ?_);(first|refine hK _ ?_|refine hR _ _ ?_);clear hK hR K R)
  repeat (first | refine nav ?_ | refine bo ?_)
  refine W_cond (b:=p.kind == 0) (by simp only [go_sem]) (fun hb=>?_) (fun hb=>?_)
  ·have hk : symsF p = [(p.name,p.width)]:=by rw [symsF_eq,if_pos (by simpa using hb)]
   rw [hk]
   rw [syms_snoc]
   rcases ha with ⟨rfl,rfl⟩ | rfl
   ·repeat (first | refine nav ?_ | refine bo ?_)
    (refine W_reg [9] fun K R hK hR=>?_;simp only [go_sem];(try go_ints);(repeat refine And.intro side ?_);(first|refine hK _ ?_|refine hR _ _ ?_);clear hK hR K R)
    repeat (first | refine nav ?_ | refine bo ?_)
    refine endQ_data (by simp only [go_sem]<;>exact rfl) (Le.of_eq ?_) rfl
    rfl
   ·have hl : (nsyms acc).length = acc.length:=nsyms_len acc
    repeat (first | refine nav ?_ | refine bo ?_)
    (refine W_reg [9] fun K R hK hR=>?_;simp only [go_sem,hl];(try go_ints);(try simp only [go_sem,hl]);(repeat refine And.intro side ?_);(first|refine hK _ ?_|refine hR _ _ ?_);clear hK hR K R)
    repeat (first | refine nav ?_ | refine bo ?_)
    refine endQ_data (by simp only [go_sem]<;>exact rfl) (Le.of_eq ?_) rfl
    rfl
  ·have hk : symsF p = symsL p.kids:=by rw [symsF_eq,if_neg (by simpa using hb)]
   rw [hk]
   rw [cntF_eq] at hc
   repeat (first | refine nav ?_ | refine bo ?_)
   (refine wr fun K R hK hR=>?_;simp only [go_sem];(try go_ints);(repeat refine And.intro side ?_);(first|refine hK _ ?_|refine hR _ _ ?_);clear hK hR K R)
   repeat (first | refine nav ?_ | refine bo ?_)
   refine W_for 17 31 [1,5] (fun m t o=>∃ (k : Nat) (ac : Names),[Ob.cells 7 [[AV.i .i64 p.kind,.i .i64 p.width,.i .i64 p.i,.i .i64 p.j,.s p.name,.sl 1 (ints p.cols),.sl 7 (plans p.kids)]]] = o ∧ t 5 = .i .i64 k ∧ (t 1 = .nsl ∧ ac = [] ∨ t 1 = .own 2 (nsyms ac)) ∧ m = p.kids.length - k ∧ k ≤ p.kids.length ∧ ac ++ symsL (p.kids.drop k) = acc ++ symsL p.kids ∧ ac.length + cntL (p.kids.drop k) ≤ 100000) p.kids.length
    ⟨0,acc,rfl,by simp only [go_sem]<;>rfl,by simp only [go_sem]<;>exact ha,by omega,by omega,rfl,by rw [List.drop_zero];omega⟩ ?_
   rintro m t o ⟨k,ac,rfl,h5,h1,rfl,hk,hi,hcl⟩
   repeat (first | refine nav ?_ | refine bo ?_)
   (refine wr fun K R hK hR=>?_;simp only [go_sem,h5];(try go_ints);(try simp only [go_sem,h5]);(repeat refine And.intro side ?_);(first|refine hK _ ?_|refine hR _ _ ?_);clear hK hR K R)
   repeat (first | refine nav ?_ | refine bo ?_)
   refine W_cond (by simp only [go_sem]<;>exact rfl) (fun hb=>?_) (fun hb=>?_)
   ·have hb1 : k < p.kids.length:=by simpa using hb
    obtain ⟨x,hx⟩ : ∃ x,p.kids[k]? = some x:=⟨_,List.getElem?_eq_getElem hb1⟩
    have hxm:=List.mem_of_getElem? hx
    rw [drop_kids hx,symsL,← List.append_assoc] at hi
    rw [drop_kids hx,cntL] at hcl
    have hcx:=x.cells_eq
    have hsl:=symsF_len x
    have ihx:=ih x hxm (hp.kid x hxm) ac _ (.inr rfl) (by omega)
    rw [hcx] at ihx
    have hcl2 : (ac ++ symsF x).length + cntL (p.kids.drop (k + 1)) ≤ 100000:=by rw [List.length_append];omega
    repeat (first | refine nav ?_ | refine bo ?_)
    rcases h1 with ⟨h1,rfl⟩ | h1
    ·(refine wr fun K R hK hR=>?_;simp only [go_sem,h5,h1,plans_get hx];(try go_ints);(try simp only [go_sem,h5,h1,plans_get hx]);(repeat refine And.intro side ?_);(first|refine hK _ ?_|refine hR _ _ ?_);clear hK hR K R)
     refine RL_callF (ihx) rfl rfl rfl (by first | (simp only [go_sem]<;>first | exact LeA.refl _ | exact Le.refl _) | exact LeA.refl _) rfl rfl ?_
     (refine rr fun K R hK hR=>?_;simp only [go_sem];(try go_ints);(repeat refine And.intro side ?_);(first|refine hK _ ?_|refine hR _ _ ?_);clear hK hR K R)
     repeat (first | refine nav ?_ | refine bo ?_)
     (refine wr fun K R hK hR=>?_;simp only [go_sem,h5];(try go_ints);(try simp only [go_sem,h5]);(repeat refine And.intro side ?_);(first|refine hK _ ?_|refine hR _ _ ?_);clear hK hR K R)
     refine forQ_normal (p.kids.length - (k + 1)) (by omega) ⟨k + 1,[] ++ symsF x,?_⟩
     ((try simp only [go_sem]);(repeat' refine And.intro ?_ ?_)<;>(try first | with_reducible rfl | omega | with_reducible assumption | (simp;done)))
     simpa using hi
    ·(refine W_reg [29] fun K R hK hR=>?_;simp only [go_sem,h5,h1,plans_get hx];(try go_ints);(try simp only [go_sem,h5,h1,plans_get hx]);(repeat refine And.intro side ?_);(first|refine hK _ ?_|refine hR _ _ ?_);clear hK hR K R)
     refine RL_callF (ihx) rfl rfl rfl (by first | (simp only [go_sem]<;>first | exact LeA.refl _ | exact Le.refl _) | exact LeA.refl _) rfl rfl ?_
     (refine rr fun K R hK hR=>?_;simp only [go_sem];(try go_ints);(repeat refine And.intro side ?_);(first|refine hK _ ?_|refine hR _ _ ?_);clear hK hR K R)
     repeat (first | refine nav ?_ | refine bo ?_)
     (refine wr fun K R hK hR=>?_;simp only [go_sem,h5];(try go_ints);(try simp only [go_sem,h5]);(repeat refine And.intro side ?_);(first|refine hK _ ?_|refine hR _ _ ?_);clear hK hR K R)
     refine forQ_normal (p.kids.length - (k + 1)) (by omega) ⟨k + 1,ac ++ symsF x,?_⟩
     ((try simp only [go_sem]);(repeat' refine And.intro ?_ ?_)<;>(try first | with_reducible rfl | omega | with_reducible assumption | (simp;done)))
     simpa using hi
   ·have hb' : k = p.kids.length:=by have : ¬ k < p.kids.length:=(by simpa using hb);omega
    subst hb'
    rw [List.drop_length,symsL,List.append_nil] at hi
    rw [← hi]
    rcases h1 with ⟨h1,rfl⟩ | h1
    ·repeat (first | refine nav ?_ | refine bo ?_)
     (refine wr fun K R hK hR=>?_;simp only [go_sem,h1];(try go_ints);(try simp only [go_sem,h1]);(repeat refine And.intro side ?_);(first|refine hK _ ?_|refine hR _ _ ?_);clear hK hR K R)
     repeat (first | refine nav ?_ | refine bo ?_)
     refine endQ_data (by simp only [go_sem]<;>exact rfl) (Le.of_eq ?_) rfl
     rfl
    ·repeat (first | refine nav ?_ | refine bo ?_)
     (refine W_reg [31] fun K R hK hR=>?_;simp only [go_sem,h1];(try go_ints);(try simp only [go_sem,h1]);(repeat refine And.intro side ?_);(first|refine hK _ ?_|refine hR _ _ ?_);clear hK hR K R)
     repeat (first | refine nav ?_ | refine bo ?_)
     refine endQ_data (by simp only [go_sem]<;>exact rfl) (Le.of_eq ?_) rfl
     rfl
def clash (l : Names) (i k : Nat) : Bool:=(l.getD k (⟨#[]⟩,0)).1.toList == (l.getD i (⟨#[]⟩,0)).1.toList && (l.getD k (⟨#[]⟩,0)).2 != (l.getD i (⟨#[]⟩,0)).2
def oneW (l : Names) : Bool:=(List.range l.length).all fun i=>(List.range i).all fun k=>!clash l i k
theorem oneW_true {l : Names} (h : ∀ i < l.length,∀ k < i,clash l i k = false) : oneW l = true:=by
 unfold oneW
 rw [List.all_eq_true]
 intro i hi
 rw [List.all_eq_true]
 intro k hk
 rw [h i (List.mem_range.1 hi) k (List.mem_range.1 hk)];rfl
theorem oneW_false {l : Names} {i k : Nat} (hi : i < l.length) (hk : k < i) (h : clash l i k = true) : oneW l = false:=by
 rw [Bool.eq_false_iff]
 intro e
 unfold oneW at e
 rw [List.all_eq_true] at e
 have:=e i (List.mem_range.2 hi)
 rw [List.all_eq_true] at this
 have:=this k (List.mem_range.2 hk)
 rw [h] at this;cases this
end Go.AW
namespace Go.AW
open Go Go.Proofs TyTryz Go.IntWalk
set_option linter.unusedSimpArgs false
set_option linter.unusedVariables false
set_option maxRecDepth 10000
set_option maxHeartbeats 1000000
theorem rsvalid_spec (s : StrD) (hs : s.Ok) : ACallsD Tryz.prog 23 [.agg [.i .i64 s.size,.sl 3 (rels s.rels)]] (.b (validF s)):=by
 refine ACalls_of' (n:=53) (rs:=[.tmp 2]) (show Tryz.prog.funcs[23]? = some Tryz.f23 by kernel_rfl) rfl rfl rfl (by simp) (by decide +kernel) ?_
 repeat (first | refine nav ?_ | refine bo ?_)
 (refine wr fun K R hK hR=>?_;simp only [go_sem];(try go_ints);(repeat refine And.intro side ?_);(first|refine hK _ ?_|refine hR _ _ ?_);clear hK hR K R)
 repeat (first | refine nav ?_ | refine bo ?_)
 (refine wr fun K R hK hR=>?_;simp only [go_sem];(try go_ints);(repeat refine And.intro side ?_);(first|refine hK _ ?_|refine hR _ _ ?_);clear hK hR K R)
 repeat (first | refine nav ?_ | refine bo ?_)
 refine W_cond (by simp only [go_sem]<;>exact rfl) (fun hb=>?_) (fun hb=>?_)
 ·simp only [Bool.or_eq_true,Bool.and_eq_true,Bool.not_eq_true',Bool.not_eq_false',Bool.and_eq_false_iff,Bool.or_eq_false_iff,decide_eq_true_eq,decide_eq_false_iff_not,Bool.not_eq_eq_eq_not,Bool.not_true,Bool.not_false] at hb
  repeat (first | refine nav ?_ | refine bo ?_)
  (refine wr fun K R hK hR=>?_;simp only [go_sem];(try go_ints);(repeat refine And.intro side ?_);(first|refine hK _ ?_|refine hR _ _ ?_);clear hK hR K R)
  repeat (first | refine nav ?_ | refine bo ?_)
  refine endQ_data (by simp only [go_sem]<;>exact rfl) (Le.of_eq ?_) rfl
  rw [AV.b.injEq,eq_comm,validF]
  rcases hb with (hb | hb) | hb
  ·rw [decide_eq_false (show ¬ 1 ≤ s.size by omega)];simp
  ·rw [decide_eq_false (show ¬ s.size ≤ 64 by omega)];simp
  ·rw [decide_eq_false (show ¬ s.rels.length ≤ 8 by omega)];simp
 ·simp only [Bool.or_eq_true,Bool.and_eq_true,Bool.not_eq_true',Bool.not_eq_false',Bool.and_eq_false_iff,Bool.or_eq_false_iff,decide_eq_true_eq,decide_eq_false_iff_not,Bool.not_eq_eq_eq_not,Bool.not_true,Bool.not_false] at hb
  obtain ⟨⟨hb1,hb2⟩,hb3⟩:=hb
  repeat (first | refine nav ?_ | refine bo ?_)
  (refine wr fun K R hK hR=>?_;simp only [go_sem];(try go_ints);(repeat refine And.intro side ?_);(first|refine hK _ ?_|refine hR _ _ ?_);clear hK hR K R)
  repeat (first | refine nav ?_ | refine bo ?_)
  refine W_for 19 53 [3,4] (fun m t o=>∃ k : Nat,[Ob.cells 2 [[.i .i64 s.size,.sl 3 (rels s.rels)]]] = o ∧ t 3 = .i .i64 k ∧ m = s.rels.length - k ∧ k ≤ s.rels.length ∧ ∀ i < k,∀ r,s.rels[i]? = some r → (relOk s.size r && !(s.rels.take i).any fun q=>q.name.toList == r.name.toList) = true) s.rels.length ⟨0,rfl,by simp only [go_sem]<;>rfl,by omega,Nat.zero_le _,by simp⟩ ?_
  rintro m t o ⟨k,rfl,h3,rfl,hk,hi⟩
  repeat (first | refine nav ?_ | refine bo ?_)
  (refine wr fun K R hK hR=>?_;simp only [go_sem,h3];(try go_ints);(try simp only [go_sem,h3]);(repeat refine And.intro side ?_);(first|refine hK _ ?_|refine hR _ _ ?_);clear hK hR K R)
  repeat (first | refine nav ?_ | refine bo ?_)
  refine W_cond (by simp only [go_sem]<;>exact rfl) (fun hb=>?_) (fun hb=>?_)
  ·simp at hb
   obtain ⟨r,hr⟩ : ∃ r,s.rels[k]? = some r:=⟨_,List.getElem?_eq_getElem hb⟩
   have hro:=hs.rel r (List.mem_of_getElem? hr)
   repeat (first | refine nav ?_ | refine bo ?_)
   (refine W_dreg (by decide +kernel) [] [0,1,2,3,4,5,6,7,8] [[],[0],[],[2],[],[4,2,3],[3,2,4,5],[5,4,2,3,6,0,1],[1,0,6,3,2,4,5,7]] (by decide +kernel) rfl fun K R hK hR=>?_;simp only [List.filterMap_cons,List.filterMap_nil,List.getElem?_cons_zero,List.getElem?_cons_succ,List.cons_append,List.nil_append];simp only [go_sem,h3,rels_get hr];(try go_ints);(try simp only [go_sem,h3,rels_get hr]);(repeat refine And.intro side ?_);(first|refine hK _ ?_|refine hR _ _ ?_);clear hK hR K R)
   refine D_callD (rrel_spec s.size (by omega) (by omega) r hro) rfl rfl rfl (by first | (simp only [go_sem]<;>first | exact LeA.refl _ | exact Le.refl _) | exact LeA.refl _) rfl rfl rfl rfl ?_
   (refine D_reg fun K R hK hR=>?_;simp only [go_sem];(try go_ints);(repeat refine And.intro side ?_);(first|refine hK _ ?_|refine hR _ _ ?_);clear hK hR K R)
   repeat (first | refine nav ?_ | refine bo ?_)
   refine W_cond (by simp only [go_sem]<;>exact rfl) (fun hc=>?_) (fun hc=>?_)
   ·have hno : relOk s.size r = false:=by simpa using hc
    repeat (first | refine nav ?_ | refine bo ?_)
    (refine wr fun K R hK hR=>?_;simp only [go_sem];(try go_ints);(repeat refine And.intro side ?_);(first|refine hK _ ?_|refine hR _ _ ?_);clear hK hR K R)
    repeat (first | refine nav ?_ | refine bo ?_)
    refine endQ_data (by simp only [go_sem]<;>exact rfl) (Le.of_eq ?_) rfl
    rw [AV.b.injEq,eq_comm,validF]
    simp only [Bool.and_eq_false_iff]
    right
    rw [List.all_eq_false]
    exact ⟨k,by simpa using hb,by simp [hr,hno]⟩
   ·have hyes : relOk s.size r = true:=by simpa using hc
    repeat (first | refine nav ?_ | refine bo ?_)
    (refine wr fun K R hK hR=>?_;simp only [go_sem];(try go_ints);(repeat refine And.intro side ?_);(first|refine hK _ ?_|refine hR _ _ ?_);clear hK hR K R)
    repeat (first | refine nav ?_ | refine bo ?_)
    refine W_for 35 53 [4] (fun m t o=>∃ j : Nat,[Ob.cells 2 [[.i .i64 s.size,.sl 3 (rels s.rels)]]] = o ∧ t 4 = .i .i64 j ∧ m = k - j ∧ j ≤ k ∧ ∀ i < j,∀ q,s.rels[i]? = some q → (q.name.toList == r.name.toList) = false) k ⟨0,rfl,by simp only [go_sem]<;>rfl,by omega,Nat.zero_le _,by simp⟩ ?_
    rintro m t2 o ⟨j,rfl,h4,rfl,hj,hji⟩
    repeat (first | refine nav ?_ | refine bo ?_)
    (refine wr fun K R hK hR=>?_;simp only [go_sem,h3,h4];(try go_ints);(try simp only [go_sem,h3,h4]);(repeat refine And.intro side ?_);(first|refine hK _ ?_|refine hR _ _ ?_);clear hK hR K R)
    repeat (first | refine nav ?_ | refine bo ?_)
    refine W_cond (by simp only [go_sem]<;>exact rfl) (fun hb=>?_) (fun hb=>?_)
    ·simp at hb
     obtain ⟨q,hq⟩ : ∃ q,s.rels[j]? = some q:=⟨_,List.getElem?_eq_getElem (by omega)⟩
     repeat (first | refine nav ?_ | refine bo ?_)
     (refine W_dreg (by decide +kernel) [] [0,1,2,3,4,5,6,7,8,9,10,11,12] [[],[0],[],[2,0,1],[1,0,2,3],[3,2,0,1,4],[],[6],[],[8,6,7],[7,6,8,9],[9,8,6,7,10],[10,7,6,8,9,11,4,1,0,2,3,5]] (by decide +kernel) rfl fun K R hK hR=>?_;simp only [List.filterMap_cons,List.filterMap_nil,List.getElem?_cons_zero,List.getElem?_cons_succ,List.cons_append,List.nil_append];simp only [go_sem,h3,h4,rels_get hr,rels_get hq];(try go_ints);(try simp only [go_sem,h3,h4,rels_get hr,rels_get hq]);(repeat refine And.intro side ?_);(first|refine hK _ ?_|refine hR _ _ ?_);clear hK hR K R)
     repeat (first | refine nav ?_ | refine bo ?_)
     refine W_cond (by simp only [go_sem]<;>exact rfl) (fun hd=>?_) (fun hd=>?_)
     ·repeat (first | refine nav ?_ | refine bo ?_)
      (refine wr fun K R hK hR=>?_;simp only [go_sem];(try go_ints);(repeat refine And.intro side ?_);(first|refine hK _ ?_|refine hR _ _ ?_);clear hK hR K R)
      repeat (first | refine nav ?_ | refine bo ?_)
      refine endQ_data (by simp only [go_sem]<;>exact rfl) (Le.of_eq ?_) rfl
      rw [AV.b.injEq,eq_comm,validF]
      simp only [Bool.and_eq_false_iff]
      right
      rw [List.all_eq_false]
      refine ⟨k,by simp;omega,?_⟩
      have : (s.rels.take k).any (fun q=>q.name.toList == r.name.toList) = true:=by
       rw [List.any_eq_true]
       exact ⟨q,List.mem_of_getElem? (i:=j) (by rw [List.getElem?_take,if_pos hb];exact hq),hd⟩
      simp only [hr,this]
      simp
     ·repeat (first | refine nav ?_ | refine bo ?_)
      (refine wr fun K R hK hR=>?_;simp only [go_sem,h4];(try go_ints);(try simp only [go_sem,h4]);(repeat refine And.intro side ?_);(first|refine hK _ ?_|refine hR _ _ ?_);clear hK hR K R)
      refine forQ_normal (k - (j + 1)) (by omega) ⟨j + 1,?_⟩
      ((try simp only [go_sem]);(repeat' refine And.intro ?_ ?_)<;>(try first | with_reducible rfl | omega | with_reducible assumption | (simp;done)))
      intro i hij q' hq'
      rcases Nat.lt_succ_iff_lt_or_eq.1 hij with h | rfl
      ·exact hji i h q' hq'
      ·rw [hq] at hq'
       obtain rfl:=Option.some.inj hq'
       exact hd
    ·simp at hb
     have : j = k:=by omega
     subst this
     rw [mix_mix rfl]
     repeat (first | refine nav ?_ | refine bo ?_)
     (refine wr fun K R hK hR=>?_;simp only [go_sem,h3];(try go_ints);(try simp only [go_sem,h3]);(repeat refine And.intro side ?_);(first|refine hK _ ?_|refine hR _ _ ?_);clear hK hR K R)
     refine forQ_normal (s.rels.length - (j + 1)) (by omega) ⟨j + 1,?_⟩
     ((try simp only [go_sem]);(repeat' refine And.intro ?_ ?_)<;>(try first | with_reducible rfl | omega | with_reducible assumption | (simp;done)))
     intro i hik r' hr'
     rcases Nat.lt_succ_iff_lt_or_eq.1 hik with h | rfl
     ·exact hi i h r' hr'
     ·rw [hr] at hr'
      obtain rfl:=Option.some.inj hr'
      rw [hyes,Bool.true_and,Bool.not_eq_true',List.any_eq_false]
      intro q hq
      obtain ⟨i',hi'⟩:=List.getElem?_of_mem hq
      rw [List.getElem?_take] at hi'
      split at hi'
      ·rename_i hlt
       rw [hji i' hlt q hi'];simp
      ·cases hi'
  ·simp at hb
   have : k = s.rels.length:=by omega
   subst this
   repeat (first | refine nav ?_ | refine bo ?_)
   (refine wr fun K R hK hR=>?_;simp only [go_sem];(try go_ints);(repeat refine And.intro side ?_);(first|refine hK _ ?_|refine hR _ _ ?_);clear hK hR K R)
   repeat (first | refine nav ?_ | refine bo ?_)
   refine endQ_data (by simp only [go_sem]<;>exact rfl) (Le.of_eq ?_) rfl
   rw [AV.b.injEq,eq_comm,validF,decide_eq_true (show 1 ≤ s.size by omega),decide_eq_true (show s.size ≤ 64 by omega),decide_eq_true (show s.rels.length ≤ 8 by omega)]
   simp only [Bool.true_and]
   rw [List.all_eq_true]
   intro i hi'
   have hlt : i < s.rels.length:=by simpa using hi'
   rw [List.getElem?_eq_getElem hlt]
   exact hi i hlt _ (List.getElem?_eq_getElem hlt)
theorem rfindF_cases (s : StrD) (name : ByteArray) : (rfindF s name = -1 ∧ ∀ q ∈ s.rels,(q.name.toList == name.toList) = false) ∨ ∃ (j : Nat) (q : RelD),rfindF s name = j ∧ s.rels[j]? = some q ∧ (q.name.toList == name.toList) = true:=by
 have key : ∀ (l : List RelD) (k : Nat),(idxI (fun q : RelD=>q.name.toList == name.toList) l k = -1 ∧ ∀ q ∈ l,(q.name.toList == name.toList) = false) ∨ ∃ (j : Nat) (q : RelD),idxI (fun q : RelD=>q.name.toList == name.toList) l k = ((k + j : Nat) : Int) ∧ l[j]? = some q ∧ (q.name.toList == name.toList) = true:=by
  intro l
  induction l with
  | nil=>intro k;exact .inl ⟨rfl,fun q hq=>by simp at hq⟩
  | cons x l ih =>
   intro k
   rw [idxI]
   by_cases hx : (x.name.toList == name.toList) = true
   ·rw [if_pos hx];exact .inr ⟨0,x,by simp,rfl,hx⟩
   ·rw [if_neg hx]
    have:=ih (k + 1)
    rw [Int.natCast_add,Int.natCast_one] at this
    rcases this with ⟨a,b⟩ | ⟨j,q,a,b,c⟩
    ·refine .inl ⟨a,fun q hq=>?_⟩
     rcases List.mem_cons.1 hq with rfl | hq
     ·simpa using hx
     ·exact b q hq
    ·refine .inr ⟨j + 1,q,?_,by simpa using b,c⟩
     rw [a];omega
 have:=key s.rels 0
 simpa [rfindF] using this
def fitsF (l : Names) (s : StrD) : Bool:=l.all fun x=>s.rels.any fun q=>q.name.toList == x.1.toList && (q.arity == x.2)
def fitsR (l : Names) (s : StrD) : Bool:=l.all fun x=>match s.rels[(rfindF s x.1).toNat]? with | some q=>decide (0 ≤ rfindF s x.1) && (q.arity == x.2) | none=>false
theorem fitsR_eq {s : StrD} (hv : validF s = true) (l : Names) : fitsR l s = fitsF l s:=by
 unfold fitsR fitsF
 refine List.all_congr rfl fun x=>?_
 rcases rfindF_cases s x.1 with ⟨a,b⟩ | ⟨j,q,a,b,c⟩
 ·rw [a]
  have : (s.rels.any fun q=>q.name.toList == x.1.toList && (q.arity == x.2)) = false:=by
   rw [List.any_eq_false]
   intro q hq
   rw [b q hq];simp
  rw [this]
  split<;>simp
 ·rw [a,Int.toNat_natCast,b]
  simp only [Int.natCast_nonneg,decide_true,Bool.true_and]
  rw [Bool.eq_iff_iff]
  constructor
  ·intro h
   rw [List.any_eq_true]
   exact ⟨q,List.mem_of_getElem? b,by rw [c,h];rfl⟩
  ·intro h
   rw [List.any_eq_true] at h
   obtain ⟨q',hq',h⟩:=h
   rw [Bool.and_eq_true] at h
   obtain ⟨i,hi⟩:=List.getElem?_of_mem hq'
   have uniq : ∀ (i j : Nat) (p q : RelD),i < j → s.rels[i]? = some p → s.rels[j]? = some q → (p.name.toList == q.name.toList) = false:=by
    intro i j p q hij hp hq
    simp only [validF,Bool.and_eq_true,List.all_eq_true,List.mem_range] at hv
    have h1:=hv.2 j (List.getElem?_eq_some_iff.1 hq).1
    rw [hq] at h1
    simp only [Bool.and_eq_true,Bool.not_eq_true',List.any_eq_false] at h1
    have:=h1.2 p (List.mem_of_getElem? (i:=i) (by rw [List.getElem?_take,if_pos hij];exact hp))
    simpa using this
   have e1 : q'.name.toList = x.1.toList:=by simpa using h.1
   have e2 : q.name.toList = x.1.toList:=by simpa using c
   rcases Nat.lt_trichotomy i j with hl | rfl | hl
   ·have:=uniq i j q' q hl hi b
    rw [e1,e2] at this
    simp at this
   ·rw [b] at hi
    obtain rfl:=Option.some.inj hi
    exact h.2
   ·have:=uniq j i q q' hl b hi
    rw [e1,e2] at this
    simp at this
theorem rfits_spec (l : Names) (hl : l.length ≤ 1099511627776) (s : StrD) (hs : s.Ok) : ACallsD Tryz.prog 36 [.agg [.i .i64 s.size,.sl 3 (rels s.rels)],.sl 2 (nsyms l)] (.b (fitsR l s)):=by
 have hlen:=hs.len
 refine ACalls_of' (n:=36) (rs:=[.tmp 4]) (show Tryz.prog.funcs[36]? = some Tryz.f36 by kernel_rfl) rfl rfl rfl (by simp) (by decide +kernel) ?_
 repeat (first | refine nav ?_ | refine bo ?_)
 (refine wr fun K R hK hR=>?_;simp only [go_sem];(try go_ints);(repeat refine And.intro side ?_);(first|refine hK _ ?_|refine hR _ _ ?_);clear hK hR K R)
 repeat (first | refine nav ?_ | refine bo ?_)
 (refine wr fun K R hK hR=>?_;simp only [go_sem];(try go_ints);(repeat refine And.intro side ?_);(first|refine hK _ ?_|refine hR _ _ ?_);clear hK hR K R)
 repeat (first | refine nav ?_ | refine bo ?_)
 refine W_for 7 36 [5,6] (fun m t o=>∃ k : Nat,[Ob.cells 2 [[.i .i64 s.size,.sl 3 (rels s.rels)]]] = o ∧ t 5 = .i .i64 k ∧ m = l.length - k ∧ k ≤ l.length ∧ fitsR (l.drop k) s = fitsR l s) l.length ⟨0,rfl,by simp only [go_sem]<;>rfl,by omega,Nat.zero_le _,rfl⟩ ?_
 rintro m t o ⟨k,rfl,h5,rfl,hk,hi⟩
 repeat (first | refine nav ?_ | refine bo ?_)
 (refine wr fun K R hK hR=>?_;simp only [go_sem,h5];(try go_ints);(try simp only [go_sem,h5]);(repeat refine And.intro side ?_);(first|refine hK _ ?_|refine hR _ _ ?_);clear hK hR K R)
 repeat (first | refine nav ?_ | refine bo ?_)
 refine W_cond (by simp only [go_sem]<;>exact rfl) (fun hb=>?_) (fun hb=>?_)
 ·simp at hb
  obtain ⟨x,hx⟩ : ∃ x,l[k]? = some x:=⟨_,List.getElem?_eq_getElem hb⟩
  rw [drop_cons hx,show fitsR (x :: l.drop (k + 1)) s = ((match s.rels[(rfindF s x.1).toNat]? with | some q=>decide (0 ≤ rfindF s x.1) && (q.arity == x.2) | none=>false) && fitsR (l.drop (k + 1)) s) from rfl] at hi
  repeat (first | refine nav ?_ | refine bo ?_)
  (refine W_dreg (by decide +kernel) [] [0,1,2,3,4,5,6,7] [[],[],[],[2,1],[1,2,3],[3,2,1,4],[4,1,2,3,5,0],[0,5,3,2,1,4,6]] (by decide +kernel) rfl fun K R hK hR=>?_;simp only [List.filterMap_cons,List.filterMap_nil,List.getElem?_cons_zero,List.getElem?_cons_succ,List.cons_append,List.nil_append];simp only [go_sem,h5,nsyms_get hx];(try go_ints);(try simp only [go_sem,h5,nsyms_get hx]);(repeat refine And.intro side ?_);(first|refine hK _ ?_|refine hR _ _ ?_);clear hK hR K R)
  refine D_callD (rfind_spec s hs x.1) rfl rfl rfl (by first | (simp only [go_sem]<;>first | exact LeA.refl _ | exact Le.refl _) | exact LeA.refl _) rfl rfl rfl rfl ?_
  (refine D_reg fun K R hK hR=>?_;simp only [go_sem];(try go_ints);(repeat refine And.intro side ?_);(first|refine hK _ ?_|refine hR _ _ ?_);clear hK hR K R)
  rcases rfindF_cases s x.1 with ⟨a,b⟩ | ⟨j,q,a,b,c⟩
  ·rw [a] at hi
   repeat (first | refine nav ?_ | refine bo ?_)
   have h0 : (((rels s.rels).getD 0 []).getD 1 .any).dat = .any ∨ ∃ z,(((rels s.rels).getD 0 []).getD 1 .any).dat = .i .i64 z:=by
    cases s.rels with
    | nil=>exact .inl rfl
    | cons r l=>exact .inr ⟨r.arity,rfl⟩
   have hno : fitsR l s = false:=by
    rw [← hi]
    cases s.rels[((-1 : Int)).toNat]?<;>simp
   rcases h0 with h0 | ⟨z,h0⟩
   ·(refine W_dreg (by decide +kernel) [] [0,1,2,3,4,5,6,7,8,9,10,11,12,13,14,15] [[],[0],[0,1],[1,0,2],[2,0,1,3],[1,0,2],[5,3,1,0,2,4],[4,2,0,1,3,5,6],[6,5,3,1,0,2,4,7],[1,0,2],[1,0,2],[10,2,0,1,9],[9,1,0,2,10,11],[11,10,2,0,1,9,12],[12,9,10,11,13,7,4,2,0,1,3,5,6,8],[8,6,5,3,4,7,13,11,10,9,12,14,1,0,2]] (by decide +kernel) rfl fun K R hK hR=>?_;simp only [List.filterMap_cons,List.filterMap_nil,List.getElem?_cons_zero,List.getElem?_cons_succ,List.cons_append,List.nil_append];simp only [go_sem,a,h5,nsyms_get hx,h0];(try go_ints);(try simp only [go_sem,a,h5,nsyms_get hx,h0]);(repeat refine And.intro side ?_);(first|refine hK _ ?_|refine hR _ _ ?_);clear hK hR K R)
    repeat (first | refine nav ?_ | refine bo ?_)
    refine W_cond (b:=true) (by simp only [go_sem]<;>exact rfl) (fun _=>?_) (fun hd=>by cases hd)
    repeat (first | refine nav ?_ | refine bo ?_)
    (refine wr fun K R hK hR=>?_;simp only [go_sem];(try go_ints);(repeat refine And.intro side ?_);(first|refine hK _ ?_|refine hR _ _ ?_);clear hK hR K R)
    repeat (first | refine nav ?_ | refine bo ?_)
    refine endQ_data (by simp only [go_sem]<;>exact rfl) (Le.of_eq ?_) rfl
    rw [hno]
   ·(refine W_dreg (by decide +kernel) [] [0,1,2,3,4,5,6,7,8,9,10,11,12,13,14,15] [[],[0],[0,1],[1,0,2],[2,0,1,3],[1,0,2],[5,3,1,0,2,4],[4,2,0,1,3,5,6],[6,5,3,1,0,2,4,7],[1,0,2],[1,0,2],[10,2,0,1,9],[9,1,0,2,10,11],[11,10,2,0,1,9,12],[12,9,10,11,13,7,4,2,0,1,3,5,6,8],[8,6,5,3,4,7,13,11,10,9,12,14,1,0,2]] (by decide +kernel) rfl fun K R hK hR=>?_;simp only [List.filterMap_cons,List.filterMap_nil,List.getElem?_cons_zero,List.getElem?_cons_succ,List.cons_append,List.nil_append];simp only [go_sem,a,h5,nsyms_get hx,h0];(try go_ints);(try simp only [go_sem,a,h5,nsyms_get hx,h0]);(repeat refine And.intro side ?_);(first|refine hK _ ?_|refine hR _ _ ?_);clear hK hR K R)
    repeat (first | refine nav ?_ | refine bo ?_)
    refine W_cond (b:=true) (by simp only [go_sem]<;>exact rfl) (fun _=>?_) (fun hd=>by cases hd)
    repeat (first | refine nav ?_ | refine bo ?_)
    (refine wr fun K R hK hR=>?_;simp only [go_sem];(try go_ints);(repeat refine And.intro side ?_);(first|refine hK _ ?_|refine hR _ _ ?_);clear hK hR K R)
    repeat (first | refine nav ?_ | refine bo ?_)
    refine endQ_data (by simp only [go_sem]<;>exact rfl) (Le.of_eq ?_) rfl
    rw [hno]
  ·rw [a,Int.toNat_natCast,b] at hi
   simp only [Int.natCast_nonneg,decide_true,Bool.true_and] at hi
   have hjl:=(List.getElem?_eq_some_iff.1 b).1
   have hn0 : decide ((j : Int) < 0) = false:=by simp
   repeat (first | refine nav ?_ | refine bo ?_)
   (refine W_dreg (by decide +kernel) [] [0,1,2,3,4,5,6,7,8,9,10,11,12,13,14,15] [[],[0],[0,1],[1,0,2],[2,0,1,3],[1,0,2],[5,3,1,0,2,4],[4,2,0,1,3,5,6],[6,5,3,1,0,2,4,7],[1,0,2],[1,0,2],[10,2,0,1,9],[9,1,0,2,10,11],[11,10,2,0,1,9,12],[12,9,10,11,13,7,4,2,0,1,3,5,6,8],[8,6,5,3,4,7,13,11,10,9,12,14,1,0,2]] (by decide +kernel) rfl fun K R hK hR=>?_;simp only [List.filterMap_cons,List.filterMap_nil,List.getElem?_cons_zero,List.getElem?_cons_succ,List.cons_append,List.nil_append];simp only [go_sem,a,h5,nsyms_get hx,rels_get b,hn0];(try go_ints);(try simp only [go_sem,a,h5,nsyms_get hx,rels_get b,hn0]);(repeat refine And.intro side ?_);(first|refine hK _ ?_|refine hR _ _ ?_);clear hK hR K R)
   repeat (first | refine nav ?_ | refine bo ?_)
   refine W_cond (by simp only [go_sem]<;>exact rfl) (fun hd=>?_) (fun hd=>?_)
   ·have hd : (q.arity == x.2) = false:=by simpa using hd
    rw [hd,Bool.false_and] at hi
    repeat (first | refine nav ?_ | refine bo ?_)
    (refine wr fun K R hK hR=>?_;simp only [go_sem];(try go_ints);(repeat refine And.intro side ?_);(first|refine hK _ ?_|refine hR _ _ ?_);clear hK hR K R)
    repeat (first | refine nav ?_ | refine bo ?_)
    refine endQ_data (by simp only [go_sem]<;>exact rfl) (Le.of_eq ?_) rfl
    rw [← hi]
   ·have hd : (q.arity == x.2) = true:=by simpa using hd
    rw [hd,Bool.true_and] at hi
    repeat (first | refine nav ?_ | refine bo ?_)
    (refine wr fun K R hK hR=>?_;simp only [go_sem,h5];(try go_ints);(try simp only [go_sem,h5]);(repeat refine And.intro side ?_);(first|refine hK _ ?_|refine hR _ _ ?_);clear hK hR K R)
    refine forQ_normal (l.length - (k + 1)) (by omega) ⟨k + 1,?_⟩
    ((try simp only [go_sem]);(repeat' refine And.intro ?_ ?_)<;>(try first | with_reducible rfl | omega | with_reducible assumption | (simp;done)))
 ·simp at hb
  have : k = l.length:=by omega
  subst this
  rw [List.drop_length] at hi
  repeat (first | refine nav ?_ | refine bo ?_)
  (refine wr fun K R hK hR=>?_;simp only [go_sem];(try go_ints);(repeat refine And.intro side ?_);(first|refine hK _ ?_|refine hR _ _ ?_);clear hK hR K R)
  repeat (first | refine nav ?_ | refine bo ?_)
  refine endQ_data (by simp only [go_sem]<;>exact rfl) (Le.of_eq ?_) rfl
  rw [← hi];rfl
end Go.AW
namespace Go.Proofs
open Go.Shelf
def Tryz.growI_ren : Go.Shelf.Ren:=⟨fun | 4=>98 | n=>n,fun | 22=>22 | 25=>3 | 3=>3 | 4=>4 | 9=>9 | 20=>20 | 0=>0 | n=>n,fun | n=>n⟩
theorem Tryz.growI : Go.Proofs.Lays8.n4 Tryz.prog Tryz.growI_ren:={
 mixed:=by kernel_rfl
 f4:=⟨Tryz.f98.name,by kernel_rfl,Tryz.func98.trans (congrArg some (by kernel_rfl))⟩
 t0:=Tryz.underlying0
 a0:=Tryz.isAgg0
 z0:=Tryz.sizeOf0
 v0:=Tryz.zeroValue0
 t3:=Tryz.underlying3
 a3:=Tryz.isAgg3
 z3:=Tryz.sizeOf3
 v3:=Tryz.zeroValue3
 t4:=Tryz.underlying4
 a4:=Tryz.isAgg4
 z4:=Tryz.sizeOf4
 v4:=Tryz.zeroValue4
 t9:=Tryz.underlying9
 a9:=Tryz.isAgg9
 z9:=Tryz.sizeOf9
 v9:=Tryz.zeroValue9
 t20:=Tryz.underlying20
 a20:=Tryz.isAgg20
 z20:=Tryz.sizeOf20
 v20:=Tryz.zeroValue20
 t22:=Tryz.underlying22
 a22:=Tryz.isAgg22
 z22:=Tryz.sizeOf22
 v22:=Tryz.zeroValue22 }
end Go.Proofs
namespace Go.AW
open Go Go.Proofs TyTryz Go.IntWalk
set_option linter.unusedSimpArgs false
set_option linter.unusedVariables false
set_option maxRecDepth 10000
set_option maxHeartbeats 1000000
theorem ACalls_room {P : Program} {f : FuncId} {sz n : Nat} (hok : callOk P f = true)
  (h : ∀ w : World,Calls P f #[.slice none 0 0,.int .i64 n] w fun e w'=>∃ (cap : Nat) (cs : Array Value) (ty : TypeId),e = .returned (.slice (some ⟨w.heap.size,0,none⟩) 0 cap) ∧ w' = w.drew.alloc (.cells cs ty (0,0)) ∧ cap * sz ≤ cs.size ∧ cap ≤ maxLen) (oc : List Ob) :
  ACalls P f [.nsl,.i .i64 n] oc fun r o'=>r = .own sz [] ∧ o' = oc:=by
 refine ⟨hok,fun w Z m reg vs hlen hrel=>?_⟩
 obtain ⟨v0,v1,rfl⟩ : ∃ v0 v1,vs = [v0,v1]:=by
  match vs,hlen with
  | [a,b],_=>exact ⟨a,b,rfl⟩
 have t0:=hrel.tv 0
 have t1:=hrel.tv 1
 simp only [List.getD_cons_zero,List.getD_cons_succ,V] at t0 t1
 subst t0 t1
 refine Calls.mono (h w) ?_
 rintro e w' ⟨cap,cs,ty,rfl,rfl,hcs,hmx⟩
 have g : Grow w w.drew:=⟨rfl,rfl,rfl,Nat.le_succ _,Nat.le_refl _,fun _ _=>rfl⟩
 have h1:=hrel.grow g
 have h2:=h1.fresh 2 (c:=cs) (e:=ty) (sz:=sz) (cap:=cap) (rows:=[]) (by simp) hmx hcs (fun w' Y' _ _=>by simp only [Rs])
 obtain ⟨h3,x3⟩:=h2.one 2
 simp only [upd,if_true] at h3
 refine ⟨_,.own sz [],oc,m,_,rfl,⟨rfl,rfl⟩,h3,?_,?_,fun _ _ k=>k⟩
 ·exact (g.evol _).trans ((Grow.push w.drew (.cells cs ty (0,0))).evol (XS m reg oc)) (fun b x k=>.inl k)
 ·intro b x hx
  rcases x3 b x hx with k | ⟨p,rg,e1,e2,e3⟩
  ·exact .inl (.inl k)
  ·simp only at e1
   split at e1
   ·obtain rfl:=Option.some.inj e1
    exact .inr (Nat.le_of_eq e2)
   ·exact .inl (.inr ⟨p,rg,e1,e2,e3⟩)
theorem ACalls_noroom {P : Program} {f : FuncId} (hok : callOk P f = true)
  (h : ∀ w : World,Calls P f #[.slice none 0 0,.int .i64 (0 : Nat)] w fun e w'=>e = .returned (.slice none 0 0) ∧ w' = w) :
  ACallsD P f [.nsl,.i .i64 0] .nsl:=by
 refine ⟨hok,fun w Z m reg vs hlen hrel=>?_⟩
 obtain ⟨v0,v1,rfl⟩ : ∃ v0 v1,vs = [v0,v1]:=by
  match vs,hlen with
  | [a,b],_=>exact ⟨a,b,rfl⟩
 have t0:=hrel.tv 0
 have t1:=hrel.tv 1
 simp only [List.getD_cons_zero,List.getD_cons_succ,V] at t0 t1
 subst t0 t1
 refine Calls.mono (h w) ?_
 rintro e w' ⟨rfl,rfl⟩
 have h2:=hrel.put 2 (av:=.nsl) (v:=.slice none 0 0) (by simp only [V]) (.inl rfl)
 obtain ⟨h3,x3⟩:=h2.one 2
 simp only [upd,if_true] at h3
 refine ⟨_,.nsl,[],m,_,rfl,⟨rfl,rfl⟩,h3,?_,?_,fun _ _ k=>k⟩
 ·exact Evol.refl _ _
 ·intro b x hx
  rcases x3 b x hx with k | ⟨p,rg,e1,e2,e3⟩
  ·exact .inl (.inl k)
  ·simp only at e1
   split at e1
   ·cases e1
   ·exact .inl (.inr ⟨p,rg,e1,e2,e3⟩)
theorem ACallsD.le {P : Program} {f : FuncId} {ac : List AV} {r r' : AV} (h : ACallsD P f ac r) (hle : Le r r') : ACallsD P f ac r':=by
 refine ⟨h.1,fun w Z m reg vs hlen hrel=>Calls.mono (h.2 w Z m reg vs hlen hrel) ?_⟩
 rintro e w' ⟨v,r1,o',m',reg',he,⟨rfl,rfl⟩,hr,h3,h4,h5⟩
 refine ⟨v,r',[],m',reg',he,⟨rfl,rfl⟩,hr.weak fun k=>?_,h3,h4,h5⟩
 by_cases hk : k = 0
 ·simp only [hk,if_true];exact hle
 ·simp only [hk,if_false];exact .refl _
theorem roomI (n : Nat) (h0 : 0 < n) (hn : n ≤ 100000000) : ACallsD Tryz.prog 98 [.nsl,.i .i64 n] (.own 1 []):=by
 obtain ⟨i0,hi0,hs,hb,hz⟩ : ∃ i0,Tryz.prog.info? 3 = some i0 ∧ i0.size = 1 ∧ i0.bytes = 8 ∧ i0.zero = some (.int .i64 0):=⟨Option.get (Tryz.prog.info? 3) (by kernel_rfl),by kernel_rfl,by kernel_rfl,by kernel_rfl,by kernel_rfl⟩
 refine ACalls_room (by decide +kernel) (fun w=>?_) []
 refine (Any8.slices_Grow_grow Tryz.growI i0 _ hi0 hz (by omega) none 0 0 n [] w (by omega) (by omega) (by rw [hb];omega) (by omega) (by simp) (fun _=>rfl) (by simp)).mono ?_
 rintro e w' ⟨rfl,rfl⟩
 refine ⟨_,_,_,rfl,rfl,?_,grownCap_le_maxLen _ _ _ _ (by simp [maxLen];omega)⟩
 have hg:=grownCap_ge w (0 + n) 0 (Tryz.growI_ren.t 25)
 simp only [Array.size_append,size_zeroCells,Value.cells,List.size_toArray,List.length_nil,List.length_cons]
 omega
theorem roomI0 : ACallsD Tryz.prog 98 [.nsl,.i .i64 0] .nsl :=
 ACalls_noroom (by decide +kernel) fun w=>Any8.slices_Grow_room Tryz.growI none 0 0 0 w (by omega) (by omega) (by omega) (by omega)
theorem roomI' (n : Nat) (hn : n ≤ 100000000) : ACallsD Tryz.prog 98 [.nsl,.i .i64 n] (.own 1 []):=by
 rcases Nat.eq_zero_or_pos n with rfl | h
 ·exact roomI0.le (Le.nslO 1)
 ·exact roomI n h hn
theorem flat_take {L : List (List Int)} {k : Nat} {x : List Int} (h : L[k]? = some x) : (L.take (k + 1)).flatten = (L.take k).flatten ++ x:=by
 rw [List.take_add_one,h];simp
theorem flat_take_le (L : List (List Int)) (k : Nat) : (L.take k).flatten.length ≤ L.flatten.length:=by
 conv=>rhs;rw [← List.take_append_drop k L,List.flatten_append,List.length_append]
 omega
theorem concatI (L : List (List Int)) (hl : L.length ≤ 1000000) (hn : L.flatten.length ≤ 100000000) : ACallsD Tryz.prog 85 [.sl 1 (tups L)] (.sl 1 (ints L.flatten)):=by
 have hL : (tups L).length = L.length:=by simp [tups]
 refine ACalls_of' (n:=36) (rs:=[.tmp 2]) (show Tryz.prog.funcs[85]? = some Tryz.f85 by kernel_rfl) rfl rfl rfl (by simp) (by decide +kernel) ?_
 repeat (first | refine nav ?_ | refine bo ?_)
 (refine wr fun K R hK hR=>?_;simp only [go_sem];(try go_ints);(repeat refine And.intro side ?_);(first|refine hK _ ?_|refine hR _ _ ?_);clear hK hR K R)
 repeat (first | refine nav ?_ | refine bo ?_)
 (refine wr fun K R hK hR=>?_;simp only [go_sem];(try go_ints);(repeat refine And.intro side ?_);(first|refine hK _ ?_|refine hR _ _ ?_);clear hK hR K R)
 repeat (first | refine nav ?_ | refine bo ?_)
 (refine wr fun K R hK hR=>?_;simp only [go_sem,hL];(try go_ints);(try simp only [go_sem,hL]);(repeat refine And.intro side ?_);(first|refine hK _ ?_|refine hR _ _ ?_);clear hK hR K R)
 repeat (first | refine nav ?_ | refine bo ?_)
 refine W_for 11 23 [3,5] (fun m t o=>∃ k : Nat,[] = o ∧ t 11 = .i .i64 k ∧ t 3 = .i .i64 (L.take k).flatten.length ∧ m = L.length - k ∧ k ≤ L.length) L.length ⟨0,rfl,by simp only [go_sem]<;>rfl,by simp only [go_sem]<;>rfl,by omega,by omega⟩ ?_
 rintro m t o ⟨k,rfl,h11,h3,rfl,hk⟩
 repeat (first | refine nav ?_ | refine bo ?_)
 (refine wr fun K R hK hR=>?_;simp only [go_sem,h11];(try go_ints);(try simp only [go_sem,h11]);(repeat refine And.intro side ?_);(first|refine hK _ ?_|refine hR _ _ ?_);clear hK hR K R)
 repeat (first | refine nav ?_ | refine bo ?_)
 refine W_cond (by simp only [go_sem]<;>exact rfl) (fun hb=>?_) (fun hb=>?_)
 ·simp at hb
  obtain ⟨x,hx⟩ : ∃ x,L[k]? = some x:=⟨_,List.getElem?_eq_getElem hb⟩
  have hxl : (L.take (k + 1)).flatten.length = (L.take k).flatten.length + x.length:=by rw [flat_take hx,List.length_append]
  have hxm:=flat_take_le L (k + 1)
  repeat (first | refine nav ?_ | refine bo ?_)
  (refine wr fun K R hK hR=>?_;simp only [go_sem,h11,h3,tups_get hx];(try go_ints);(try simp only [go_sem,h11,h3,tups_get hx]);(repeat refine And.intro side ?_);(first|refine hK _ ?_|refine hR _ _ ?_);clear hK hR K R)
  repeat (first | refine nav ?_ | refine bo ?_)
  (refine wr fun K R hK hR=>?_;simp only [go_sem,h3];(try go_ints);(try simp only [go_sem,h3]);(repeat refine And.intro side ?_);(first|refine hK _ ?_|refine hR _ _ ?_);clear hK hR K R)
  repeat (first | refine nav ?_ | refine bo ?_)
  (refine wr fun K R hK hR=>?_;simp only [go_sem];(try go_ints);(repeat refine And.intro side ?_);(first|refine hK _ ?_|refine hR _ _ ?_);clear hK hR K R)
  repeat (first | refine nav ?_ | refine bo ?_)
  refine W_cond (by simp only [go_sem]<;>exact rfl) (fun hb=>?_) (fun hb=>?_)
  ·simp at hb;omega
  repeat (first | refine nav ?_ | refine bo ?_)
  (refine wr fun K R hK hR=>?_;simp only [go_sem,h11];(try go_ints);(try simp only [go_sem,h11]);(repeat refine And.intro side ?_);(first|refine hK _ ?_|refine hR _ _ ?_);clear hK hR K R)
  refine forQ_normal (L.length - (k + 1)) (by omega) ⟨k + 1,?_⟩
  rw [hxl]
  ((try simp only [go_sem]);(repeat' refine And.intro ?_ ?_)<;>(try first | with_reducible rfl | omega | with_reducible assumption | (simp;done)))
 ·simp at hb
  obtain rfl : k = L.length:=by omega
  rw [List.take_length] at h3
  repeat (first | refine nav ?_ | refine bo ?_)
  (refine wr fun K R hK hR=>?_;simp only [go_sem,h3];(try go_ints);(try simp only [go_sem,h3]);(repeat refine And.intro side ?_);(first|refine hK _ ?_|refine hR _ _ ?_);clear hK hR K R)
  refine RL_callF (roomI' _ hn) rfl rfl rfl (by first | (simp only [go_sem]<;>first | exact LeA.refl _ | exact Le.refl _) | exact LeA.refl _) rfl rfl ?_
  (refine rr fun K R hK hR=>?_;simp only [go_sem];(try go_ints);(repeat refine And.intro side ?_);(first|refine hK _ ?_|refine hR _ _ ?_);clear hK hR K R)
  repeat (first | refine nav ?_ | refine bo ?_)
  (refine wr fun K R hK hR=>?_;simp only [go_sem,hL];(try go_ints);(try simp only [go_sem,hL]);(repeat refine And.intro side ?_);(first|refine hK _ ?_|refine hR _ _ ?_);clear hK hR K R)
  repeat (first | refine nav ?_ | refine bo ?_)
  refine W_for 27 35 [6,8] (fun m t o=>∃ (k : Nat),[] = o ∧ t 27 = .i .i64 k ∧ t 6 = .own 1 (ints (L.take k).flatten) ∧ m = L.length - k ∧ k ≤ L.length) L.length ⟨0,rfl,by simp only [go_sem]<;>rfl,by simp only [go_sem]<;>rfl,by omega,by omega⟩ ?_
  rintro m t o ⟨k,rfl,h27,h6,rfl,hk⟩
  repeat (first | refine nav ?_ | refine bo ?_)
  (refine wr fun K R hK hR=>?_;simp only [go_sem,h27];(try go_ints);(try simp only [go_sem,h27]);(repeat refine And.intro side ?_);(first|refine hK _ ?_|refine hR _ _ ?_);clear hK hR K R)
  repeat (first | refine nav ?_ | refine bo ?_)
  refine W_cond (by simp only [go_sem]<;>exact rfl) (fun hb=>?_) (fun hb=>?_)
  ·simp at hb
   obtain ⟨x,hx⟩ : ∃ x,L[k]? = some x:=⟨_,List.getElem?_eq_getElem hb⟩
   have hxl : (L.take (k + 1)).flatten.length = (L.take k).flatten.length + x.length:=by rw [flat_take hx,List.length_append]
   have hxm:=flat_take_le L (k + 1)
   have hi1 : (ints (L.take k).flatten).length = (L.take k).flatten.length:=by unfold ints;rw [List.length_map]
   have hi2 : (ints x).length = x.length:=by unfold ints;rw [List.length_map]
   repeat (first | refine nav ?_ | refine bo ?_)
   (refine wr fun K R hK hR=>?_;simp only [go_sem,h27,h6,tups_get hx];(try go_ints);(try simp only [go_sem,h27,h6,tups_get hx]);(repeat refine And.intro side ?_);(first|refine hK _ ?_|refine hR _ _ ?_);clear hK hR K R)
   repeat (first | refine nav ?_ | refine bo ?_)
   (refine W_reg [31] fun K R hK hR=>?_;simp only [go_sem,h6,hi1,hi2];(try go_ints);(try simp only [go_sem,h6,hi1,hi2]);(repeat refine And.intro side ?_);(first|refine hK _ ?_|refine hR _ _ ?_);clear hK hR K R)
   repeat (first | refine nav ?_ | refine bo ?_)
   (refine wr fun K R hK hR=>?_;simp only [go_sem,h27];(try go_ints);(try simp only [go_sem,h27]);(repeat refine And.intro side ?_);(first|refine hK _ ?_|refine hR _ _ ?_);clear hK hR K R)
   refine forQ_normal (L.length - (k + 1)) (by omega) ⟨k + 1,?_⟩
   rw [flat_take hx]
   ((try simp only [go_sem]);(repeat' refine And.intro ?_ ?_)<;>(try first | with_reducible rfl | omega | with_reducible assumption | (simp;done)))
   simp [ints]
  ·simp at hb
   obtain rfl : k = L.length:=by omega
   rw [List.take_length] at h6
   repeat (first | refine nav ?_ | refine bo ?_)
   (refine wr fun K R hK hR=>?_;simp only [go_sem,h6];(try go_ints);(try simp only [go_sem,h6]);(repeat refine And.intro side ?_);(first|refine hK _ ?_|refine hR _ _ ?_);clear hK hR K R)
   repeat (first | refine nav ?_ | refine bo ?_)
   refine endQ_data (by simp only [go_sem]<;>exact rfl) (Le.of_eq ?_) rfl
   rfl
end Go.AW
namespace Go.AW
open Go Go.Proofs TyTryz Go.IntWalk
set_option linter.unusedSimpArgs false
set_option linter.unusedVariables false
set_option maxRecDepth 10000
set_option maxHeartbeats 1000000
def kid3 (ks : List (List (List Int))) : List (List AV):=ks.map fun l=>[.sl 1 (tups l)]
theorem kid3_len (L : List (List (List Int))) : (kid3 L).length = L.length:=by simp [kid3]
theorem tups_app (a : List (List Int)) (x : List Int) : tups a ++ [[.sl 1 (ints x)]] = tups (a ++ [x]):=by simp [tups]
def joinF (a b : List (List Int)) : List (List Int):=a.flatMap fun t=>b.map fun u=>t ++ u
theorem joinF_take {a b : List (List Int)} {k : Nat} {t : List Int} (h : a[k]? = some t) : joinF (a.take (k + 1)) b = joinF (a.take k) b ++ b.map fun u=>t ++ u:=by
 unfold joinF
 rw [List.take_add_one,h,List.flatMap_append];simp
abbrev boxQ (q : PlanD) : Ob:=.cells 7 [[AV.i IntKind.i64 q.kind,AV.i IntKind.i64 q.width,AV.i IntKind.i64 q.i,AV.i IntKind.i64 q.j,AV.s q.name,AV.sl 1 (ints q.cols),AV.sl 7 (plans q.kids)]]
theorem join_spec (a b : List (List Int)) (ha : a.length ≤ 1000000) (hbb : b.length ≤ 1000000) (hab : a.length * b.length ≤ 1000000)
  (hal : ∀ t ∈ a,t.length ≤ 1000000) (hbl : ∀ t ∈ b,t.length ≤ 1000000) (q : PlanD) : ACallsD Tryz.prog 59 [.any,.agg q.cells,.sl 1 (kid3 [a,b])] (.sl 1 (tups (joinF a b))):=by
 have hq:=q.cells_eq
 rw [hq]
 have k0 : (kid3 [a,b]).getD 0 [] = [.sl 1 (tups a)]:=rfl
 have k1 : (kid3 [a,b]).getD 1 [] = [.sl 1 (tups b)]:=rfl
 have kl : (kid3 [a,b]).length = 2:=rfl
 have tl : ∀ l : List (List Int),(tups l).length = l.length:=fun l=>by simp [tups]
 refine ACalls_of' (n:=38) (rs:=[.tmp 6]) (show Tryz.prog.funcs[59]? = some Tryz.f59 by kernel_rfl) rfl rfl rfl (by simp) (by decide +kernel) ?_
 repeat (first | refine nav ?_ | refine bo ?_)
 (refine wr fun K R hK hR=>?_;simp only [go_sem];(try go_ints);(repeat refine And.intro side ?_);(first|refine hK _ ?_|refine hR _ _ ?_);clear hK hR K R)
 repeat (first | refine nav ?_ | refine bo ?_)
 (refine wr fun K R hK hR=>?_;simp only [go_sem];(try go_ints);(repeat refine And.intro side ?_);(first|refine hK _ ?_|refine hR _ _ ?_);clear hK hR K R)
 repeat (first | refine nav ?_ | refine bo ?_)
 (refine wr fun K R hK hR=>?_;simp only [go_sem,k0,k1,kl,tl];(try go_ints);(try simp only [go_sem,k0,k1,kl,tl]);(repeat refine And.intro side ?_);(first|refine hK _ ?_|refine hR _ _ ?_);clear hK hR K R)
 repeat (first | refine nav ?_ | refine bo ?_)
 have jl : ∀ k,(joinF (a.take k) b).length = (a.take k).length * b.length:=fun k=>by
  unfold joinF
  rw [List.length_flatMap]
  simp [List.map_const']
 refine W_for 16 38 [7,9,11] (fun m t o=>∃ k : Nat,[boxQ q] = o ∧ t 16 = .i .i64 k ∧ t 7 = .own 1 (tups (joinF (a.take k) b)) ∧ m = a.length - k ∧ k ≤ a.length) a.length ⟨0,rfl,by simp only [go_sem]<;>rfl,by simp only [go_sem]<;>rfl,by omega,by omega⟩ ?_
 rintro m t o ⟨k,rfl,h16,h7,rfl,hk⟩
 repeat (first | refine nav ?_ | refine bo ?_)
 (refine wr fun K R hK hR=>?_;simp only [go_sem,h16];(try go_ints);(try simp only [go_sem,h16]);(repeat refine And.intro side ?_);(first|refine hK _ ?_|refine hR _ _ ?_);clear hK hR K R)
 repeat (first | refine nav ?_ | refine bo ?_)
 refine W_cond (by simp only [go_sem]<;>exact rfl) (fun hb=>?_) (fun hb=>?_)
 ·simp at hb
  obtain ⟨x,hx⟩ : ∃ x,a[k]? = some x:=⟨_,List.getElem?_eq_getElem hb⟩
  have hxm:=List.mem_of_getElem? hx
  have hxl:=hal x hxm
  have hmul : (a.take k).length * b.length + b.length ≤ 1000000:=by
   have h1 : (k + 1) * b.length ≤ a.length * b.length:=Nat.mul_le_mul_right _ hb
   rw [List.length_take,Nat.min_eq_left hk,← Nat.succ_mul]
   exact Nat.le_trans h1 hab
  repeat (first | refine nav ?_ | refine bo ?_)
  (refine wr fun K R hK hR=>?_;simp only [go_sem,h16,tups_get hx,tl];(try go_ints);(try simp only [go_sem,h16,tups_get hx,tl]);(repeat refine And.intro side ?_);(first|refine hK _ ?_|refine hR _ _ ?_);clear hK hR K R)
  repeat (first | refine nav ?_ | refine bo ?_)
  (refine wr fun K R hK hR=>?_;simp only [go_sem,k0,k1,kl,tl];(try go_ints);(try simp only [go_sem,k0,k1,kl,tl]);(repeat refine And.intro side ?_);(first|refine hK _ ?_|refine hR _ _ ?_);clear hK hR K R)
  repeat (first | refine nav ?_ | refine bo ?_)
  refine W_for 24 36 [7,11] (fun m t2 o=>∃ j : Nat,[boxQ q] = o ∧ t2 24 = .i .i64 j ∧ t2 7 = .own 1 (tups (joinF (a.take k) b ++ (b.take j).map fun u=>x ++ u)) ∧ m = b.length - j ∧ j ≤ b.length) b.length ⟨0,rfl,by simp only [go_sem]<;>rfl,by simp only [go_sem,h7,List.take_zero,List.map_nil,List.append_nil],by omega,by omega⟩ ?_
  rintro m t2 o ⟨j,rfl,h24,h72,rfl,hj⟩
  repeat (first | refine nav ?_ | refine bo ?_)
  (refine wr fun K R hK hR=>?_;simp only [go_sem,h24];(try go_ints);(try simp only [go_sem,h24]);(repeat refine And.intro side ?_);(first|refine hK _ ?_|refine hR _ _ ?_);clear hK hR K R)
  repeat (first | refine nav ?_ | refine bo ?_)
  refine W_cond (by simp only [go_sem]<;>exact rfl) (fun hb=>?_) (fun hb=>?_)
  ·simp at hb
   obtain ⟨y,hy⟩ : ∃ y,b[j]? = some y:=⟨_,List.getElem?_eq_getElem hb⟩
   have hyl:=hbl y (List.mem_of_getElem? hy)
   have hc:=concatI [x,y] (by simp) (by simp;omega)
   have hc1 : tups [x,y] = [[.sl 1 (ints x)],[.sl 1 (ints y)]]:=rfl
   have hc2 : [x,y].flatten = x ++ y:=by simp
   rw [hc1,hc2] at hc
   have hmj:=List.length_take_le j b
   obtain ⟨acc,hacc⟩ : ∃ acc,acc = joinF (a.take k) b ++ (b.take j).map fun u=>x ++ u:=⟨_,rfl⟩
   have hln : acc.length ≤ 1000000:=by
    rw [hacc,List.length_append,jl,List.length_map]
    omega
   rw [← hacc] at h72
   repeat (first | refine nav ?_ | refine bo ?_)
   (refine wr fun K R hK hR=>?_;simp only [go_sem,h24,tups_get hy,tl];(try go_ints);(try simp only [go_sem,h24,tups_get hy,tl]);(repeat refine And.intro side ?_);(first|refine hK _ ?_|refine hR _ _ ?_);clear hK hR K R)
   repeat (first | refine nav ?_ | refine bo ?_)
   (refine W_reg [28] fun K R hK hR=>?_;simp only [go_sem,h72];(try go_ints);(try simp only [go_sem,h72]);(repeat refine And.intro side ?_);(first|refine hK _ ?_|refine hR _ _ ?_);clear hK hR K R)
   refine RL_callF (hc) rfl rfl rfl (by first | (simp only [go_sem]<;>first | exact LeA.refl _ | exact Le.refl _) | exact LeA.refl _) rfl rfl ?_
   (refine rr fun K R hK hR=>?_;simp only [go_sem,tl,hln];(try go_ints);(try simp only [go_sem,tl,hln]);(repeat refine And.intro side ?_);(first|refine hK _ ?_|refine hR _ _ ?_);clear hK hR K R)
   repeat (first | refine nav ?_ | refine bo ?_)
   (refine wr fun K R hK hR=>?_;simp only [go_sem,h24];(try go_ints);(try simp only [go_sem,h24]);(repeat refine And.intro side ?_);(first|refine hK _ ?_|refine hR _ _ ?_);clear hK hR K R)
   refine forQ_normal (b.length - (j + 1)) (by omega) ⟨j + 1,?_⟩
   rw [List.take_add_one,hy,List.map_append,← List.append_assoc,← hacc]
   ((try simp only [go_sem,tups_app]);(repeat' refine And.intro ?_ ?_)<;>(try first | with_reducible rfl | omega | with_reducible assumption | (simp;done)))
  ·simp at hb
   obtain rfl : j = b.length:=by omega
   rw [List.take_length,← joinF_take hx] at h72
   repeat (first | refine nav ?_ | refine bo ?_)
   (refine wr fun K R hK hR=>?_;simp only [go_sem,h16,mix_mix];(try go_ints);(try simp only [go_sem,h16,mix_mix]);(repeat refine And.intro side ?_);(first|refine hK _ ?_|refine hR _ _ ?_);clear hK hR K R)
   refine forQ_normal (a.length - (k + 1)) (by omega) ⟨k + 1,?_⟩
   ((try simp only [go_sem,h72]);(repeat' refine And.intro ?_ ?_)<;>(try first | with_reducible rfl | omega | with_reducible assumption | (simp;done)))
 ·simp at hb
  obtain rfl : k = a.length:=by omega
  rw [List.take_length] at h7
  repeat (first | refine nav ?_ | refine bo ?_)
  (refine wr fun K R hK hR=>?_;simp only [go_sem,h7];(try go_ints);(try simp only [go_sem,h7]);(repeat refine And.intro side ?_);(first|refine hK _ ?_|refine hR _ _ ?_);clear hK hR K R)
  repeat (first | refine nav ?_ | refine bo ?_)
  refine endQ_data (by simp only [go_sem]<;>exact rfl) (Le.of_eq ?_) rfl
  rfl
end Go.AW
namespace Go.AW
open Go Go.Proofs TyTryz Go.IntWalk
set_option linter.unusedSimpArgs false
set_option linter.unusedVariables false
set_option maxRecDepth 10000
set_option maxHeartbeats 1000000
def placesF (cs : List Int) (x : List Int) : List Int:=cs.map fun c=>x.getD c.toNat 0
def placesP (cs : List Int) (x : List Int) (j : Nat) : List Int:=(placesF cs x).take j ++ List.replicate (cs.length - j) 0
theorem placesP_len (cs : List Int) (x : List Int) (j : Nat) (h : j ≤ cs.length) : (placesP cs x j).length = cs.length:=by
 simp [placesP,placesF];omega
theorem placesP_zero (cs : List Int) (x : List Int) : placesP cs x 0 = List.replicate cs.length 0:=by simp [placesP]
theorem placesP_full (cs : List Int) (x : List Int) : placesP cs x cs.length = placesF cs x:=by
 have : (placesF cs x).length = cs.length:=by simp [placesF]
 unfold placesP
 rw [← this,List.take_length];simp [this]
theorem placesP_set (cs : List Int) (x : List Int) (j : Nat) (c : Int) (h : cs[j]? = some c) : (placesP cs x j).set j (x.getD c.toNat 0) = placesP cs x (j + 1):=by
 have hj:=(List.getElem?_eq_some_iff.1 h).1
 have hf : (placesF cs x)[j]? = some (x.getD c.toNat 0):=by simp [placesF,h]
 have hl : ((placesF cs x).take j).length = j:=by simp [placesF];omega
 unfold placesP
 rw [List.set_append_right _ _ (by omega),hl,Nat.sub_self,List.take_add_one,hf,show cs.length - j = (cs.length - (j + 1)) + 1 by omega,List.replicate_succ]
 simp
theorem okO_set' {o : List Ob} {i : Nat} {x : Ob} (h : okO o = true) (hx : x.ltk o.length = true) : okO (o.set i x) = true:=by
 unfold okO at h ⊢
 rw [List.length_set,List.all_eq_true]
 rw [List.all_eq_true] at h
 intro y hy
 rcases List.mem_or_eq_of_mem_set hy with hy | rfl
 ·exact h y hy
 ·exact hx
def SortedP (l r : List (List Int)) : Prop:=∀ (oc : List Ob) (id : Nat),okO oc = true → oc[id]? = some (.cells 1 (tups l)) →
 ACalls Tryz.prog 86 [.ref id 0 l.length] oc fun x o'=>∃ k rows,x = .ref id 0 k ∧ o' = oc.set id (.cells 1 rows) ∧ k ≤ rows.length ∧ rows.take k = tups r ∧ (rows.all fun r=>r.all fun c=>c.dat.ltk 0 && c.dat.plain) = true ∧ okO o' = true
theorem project_spec (q : PlanD) (l r : List (List Int)) (hs0 : ACallsD Tryz.prog 86 [.nsl] (.sl 1 [])) (hs : l ≠ [] → SortedP (l.map (placesF q.cols)) r) (hr : l = [] → r = [])
  (hl : l.length ≤ 1000000) (hc : q.cols.length ≤ 1000000) (hll : ∀ x ∈ l,x.length ≤ 1000000) (hin : ∀ x ∈ l,∀ c ∈ q.cols,0 ≤ c ∧ c < x.length) :
  ACallsD Tryz.prog 60 [.any,.agg q.cells,.sl 1 (kid3 [l])] (.sl 1 (tups r)):=by
 have hq:=q.cells_eq
 rw [hq]
 have k0 : (kid3 [l]).getD 0 [] = [.sl 1 (tups l)]:=rfl
 have kl : (kid3 [l]).length = 1:=rfl
 have tl : ∀ l : List (List Int),(tups l).length = l.length:=fun l=>by simp [tups]
 have il : ∀ l : List Int,(ints l).length = l.length:=fun l=>by simp [ints]
 refine ACalls_of' (n:=48) (rs:=[.tmp 6]) (show Tryz.prog.funcs[60]? = some Tryz.f60 by kernel_rfl) rfl rfl rfl (by simp) (by decide +kernel) ?_
 repeat (first | refine nav ?_ | refine bo ?_)
 (refine wr fun K R hK hR=>?_;simp only [go_sem];(try go_ints);(repeat refine And.intro side ?_);(first|refine hK _ ?_|refine hR _ _ ?_);clear hK hR K R)
 repeat (first | refine nav ?_ | refine bo ?_)
 (refine W_reg [1000000] fun K R hK hR=>?_;simp only [go_sem];(try go_ints);(repeat refine And.intro side ?_);(first|refine hK _ ?_|refine hR _ _ ?_);clear hK hR K R)
 repeat (first | refine nav ?_ | refine bo ?_)
 (refine wr fun K R hK hR=>?_;simp only [go_sem,k0,kl,tl];(try go_ints);(try simp only [go_sem,k0,kl,tl]);(repeat refine And.intro side ?_);(first|refine hK _ ?_|refine hR _ _ ?_);clear hK hR K R)
 repeat (first | refine nav ?_ | refine bo ?_)
 refine W_weak (s':=⟨mix 17 48 [7,9,10,11,12] (tab [(7,.nsl),(17,.i .i64 0)]) (tab [(4,.ptr 0 0 0),(15,.sl 1 (tups l)),(16,.i .i64 l.length)]),[boxQ q]⟩) (tab_mix (fun x hx=>?_) (fun x hx=>?_)) rfl ?_
 ·simp only [List.mem_cons,List.not_mem_nil,or_false] at hx
  rcases hx with rfl | rfl<;>rfl
 ·simp only [List.mem_cons,List.not_mem_nil,or_false] at hx
  rcases hx with rfl | rfl | rfl<;>rfl
 refine W_forM 17 48 [7,9,10,11,12] (fun m t o=>∃ (k : Nat) (v7 : AV),okO o = true ∧ o[0]? = some (boxQ q) ∧ t 17 = .i .i64 k ∧ t 7 = v7 ∧ (v7 = .nsl ∧ k = 0 ∨ ∃ K,0 < K ∧ 0 < k ∧ v7 = .ref K 0 k ∧ o[K]? = some (.cells 1 (tups ((l.map (placesF q.cols)).take k)))) ∧ m = l.length - k ∧ k ≤ l.length) l.length ⟨0,.nsl,rfl,rfl,by simp only [go_sem]<;>rfl,by simp only [go_sem],.inl ⟨rfl,rfl⟩,by omega,by omega⟩ ?_
 rintro m t o ⟨k,v7,hok,o0,h17,h7,hv,rfl,hk⟩
 have hol : 0 < o.length:=(List.getElem?_eq_some_iff.1 o0).1
 repeat (first | refine nav ?_ | refine bo ?_)
 (refine wr fun K R hK hR=>?_;simp only [go_sem,h17];(try go_ints);(try simp only [go_sem,h17]);(repeat refine And.intro side ?_);(first|refine hK _ ?_|refine hR _ _ ?_);clear hK hR K R)
 repeat (first | refine nav ?_ | refine bo ?_)
 refine W_cond (by simp only [go_sem]<;>exact rfl) (fun hb=>?_) (fun hb=>?_)
 ·simp at hb
  have hb0 : k + 1 ≤ l.length:=hb
  obtain ⟨x,hx⟩ : ∃ x,l[k]? = some x:=⟨_,List.getElem?_eq_getElem hb⟩
  have hxm:=List.mem_of_getElem? hx
  have hxl:=hll x hxm
  have o0':=fun l=>app_get l o0
  repeat (first | refine nav ?_ | refine bo ?_)
  (refine wr fun K R hK hR=>?_;simp only [go_sem,h17,tups_get hx,tl];(try go_ints);(try simp only [go_sem,h17,tups_get hx,tl]);(repeat refine And.intro side ?_);(first|refine hK _ ?_|refine hR _ _ ?_);clear hK hR K R)
  repeat (first | refine nav ?_ | refine bo ?_)
  (refine wr fun K R hK hR=>?_;simp only [go_sem,o0,il];(try go_ints);(try simp only [go_sem,o0,il]);(repeat refine And.intro side ?_);(first|refine hK _ ?_|refine hR _ _ ?_);clear hK hR K R)
  repeat (first | refine nav ?_ | refine bo ?_)
  (refine wr fun K R hK hR=>?_;simp only [go_sem,o0',il];(try go_ints);(try simp only [go_sem,o0',il]);(repeat refine And.intro side ?_);(first|refine hK _ ?_|refine hR _ _ ?_);clear hK hR K R)
  repeat (first | refine nav ?_ | refine bo ?_)
  refine W_weak (s':=⟨tab [(4,.ptr 0 0 0),(15,.sl 1 (tups l)),(16,.i .i64 l.length),(7,v7),(17,.i .i64 k),(9,.sl 1 (ints x)),(10,.ref o.length 0 q.cols.length),(26,.sl 1 (ints q.cols)),(27,.i .i64 q.cols.length),(28,.i .i64 0)],o ++ [.cells 1 (ints (placesP q.cols x 0))]⟩) (tab_le fun y hy=>?_) ?_ ?_
  ·simp only [List.mem_cons,List.not_mem_nil,or_false] at hy
   rcases hy with rfl | rfl | rfl | rfl | rfl | rfl | rfl | rfl | rfl | rfl
   all_goals first | rfl | exact h7 | exact h17
  ·simp only [placesP_zero,ints,List.map_replicate]
  refine W_for 28 41 [11,12] (fun m t o2=>∃ j : Nat,o2 = o ++ [.cells 1 (ints (placesP q.cols x j))] ∧ t 28 = .i .i64 j ∧ m = q.cols.length - j ∧ j ≤ q.cols.length) q.cols.length ⟨0,rfl,rfl,by omega,Nat.zero_le _⟩ ?_
  rintro m t2 o2 ⟨j,rfl,h28,rfl,hj⟩
  repeat (first | refine nav ?_ | refine bo ?_)
  (refine wr fun K R hK hR=>?_;simp only [go_sem,h28];(try go_ints);(try simp only [go_sem,h28]);(repeat refine And.intro side ?_);(first|refine hK _ ?_|refine hR _ _ ?_);clear hK hR K R)
  repeat (first | refine nav ?_ | refine bo ?_)
  refine W_cond (by simp only [go_sem]<;>exact rfl) (fun hb=>?_) (fun hb=>?_)
  ·simp at hb
   obtain ⟨c,hcj⟩ : ∃ c,q.cols[j]? = some c:=⟨_,List.getElem?_eq_getElem hb⟩
   obtain ⟨c0,c1⟩:=hin x hxm c (List.mem_of_getElem? hcj)
   obtain ⟨v,hv1⟩ : ∃ v,x[c.toNat]? = some v:=⟨_,List.getElem?_eq_getElem (by omega)⟩
   have hpl:=placesP_len q.cols x j hj
   have hgv : x.getD c.toNat 0 = v:=by simp [hv1]
   repeat (first | refine nav ?_ | refine bo ?_)
   (refine wr fun K R hK hR=>?_;simp only [go_sem,h28,ints_get hcj,il];(try go_ints);(try simp only [go_sem,h28,ints_get hcj,il]);(repeat refine And.intro side ?_);(first|refine hK _ ?_|refine hR _ _ ?_);clear hK hR K R)
   repeat (first | refine nav ?_ | refine bo ?_)
   obtain ⟨z,hz⟩ : ∃ z,(placesP q.cols x j)[j]? = some z:=⟨_,List.getElem?_eq_getElem (by omega)⟩
   (refine wr fun K R hK hR=>?_;simp only [go_sem,h28,ints_get hv1,ints_get hz,il,hpl,ints_set];(try go_ints);(try simp only [go_sem,h28,ints_get hv1,ints_get hz,il,hpl,ints_set]);(repeat refine And.intro side ?_);(first|refine hK _ ?_|refine hR _ _ ?_);clear hK hR K R)
   rw [← hgv,placesP_set q.cols x j c hcj]
   repeat (first | refine nav ?_ | refine bo ?_)
   (refine wr fun K R hK hR=>?_;simp only [go_sem,h28];(try go_ints);(try simp only [go_sem,h28]);(repeat refine And.intro side ?_);(first|refine hK _ ?_|refine hR _ _ ?_);clear hK hR K R)
   refine forQ_normal (q.cols.length - (j + 1)) (by omega) ⟨j + 1,rfl,?_⟩
   ((try simp only [go_sem]);(repeat' refine And.intro ?_ ?_)<;>(try first | with_reducible rfl | omega | with_reducible assumption | (simp;done)))
  ·simp at hb
   obtain rfl : j = q.cols.length:=by omega
   rw [placesP_full]
   obtain ⟨u,hu⟩ : ∃ u,u = placesF q.cols x:=⟨_,rfl⟩
   have hul : u.length = q.cols.length:=by rw [hu];simp [placesF]
   rw [← hu]
   have hrl : (ints u).length = q.cols.length:=by rw [il,hul]
   have htk : List.take q.cols.length (ints u) = ints u:=List.take_of_length_le (by omega)
   refine W_freeze o.length (sz:=1) (rows:=ints u) (by simp) (by simp [ints,AV.dat,AV.ltk,AV.plain]) ?_
   rw [frS_last hok (by simp [ints,Function.comp_def,AV.dat])]
   have hv7 : v7.unref o.length 1 (ints u) = v7:=by
    rcases hv with ⟨rfl,_⟩ | ⟨K,hK0,hkp,rfl,hK⟩
    ·rfl
    ·have:=(List.getElem?_eq_some_iff.1 hK).1
     unfold AV.unref
     rw [if_neg (by omega)]
   refine W_weak (s':=⟨mix 17 48 [7,9,10,11,12] (tab [(7,v7),(17,.i .i64 k),(10,.sl 1 (ints u))]) (tab [(4,.ptr 0 0 0),(15,.sl 1 (tups l)),(16,.i .i64 l.length)]),o ++ [.frz 1 (ints u)]⟩) (tab_mix (fun y hy=>?_) (fun y hy=>?_)) rfl ?_
   ·simp only [List.mem_cons,List.not_mem_nil,or_false] at hy
    rcases hy with rfl | rfl | rfl
    ·simpa [mix,inL,tab] using hv7
    ·rfl
    ·simp [mix,inL,tab,upd,AV.unref,hrl,htk]
   ·simp only [List.mem_cons,List.not_mem_nil,or_false] at hy
    rcases hy with rfl | rfl | rfl<;>rfl
   have hok2 : okO (o ++ [.frz 1 (ints u)]) = true:=okO_app hok rfl
   have htk2 : ((l.map (placesF q.cols)).take (k + 1)) = (l.map (placesF q.cols)).take k ++ [u]:=by rw [List.take_add_one];simp [hx,hu]
   have hro : rowsOk false [[AV.sl 1 (ints u)]] = true:=by rfl
   rcases hv with ⟨rfl,rfl⟩ | ⟨K1,hK0,hkp,rfl,hK1⟩
   ·repeat (first | refine nav ?_ | refine bo ?_)
    (refine W_reg [1000000] fun K R hK hR=>?_;simp only [go_sem,hro];(try go_ints);(try simp only [go_sem,hro]);(repeat refine And.intro side ?_);(first|refine hK _ ?_|refine hR _ _ ?_);clear hK hR K R)
    repeat (first | refine nav ?_ | refine bo ?_)
    (refine wr fun K R hK hR=>?_;simp only [go_sem];(try go_ints);(repeat refine And.intro side ?_);(first|refine hK _ ?_|refine hR _ _ ?_);clear hK hR K R)
    refine forQ_normal (l.length - (0 + 1)) (by omega) ⟨0 + 1,.ref (o.length + 2) 0 1,okO_app hok rfl,app_get _ o0,by simp only [go_sem]<;>rfl,by simp only [go_sem],.inr ⟨o.length + 2,by omega,by omega,rfl,?_⟩,rfl,hb0⟩
    rw [List.getElem?_append_right (by omega),show o.length + 2 - o.length = 2 by omega,htk2]
    rfl
   ·have hKl:=(List.getElem?_eq_some_iff.1 hK1).1
    obtain ⟨acc,hacc⟩ : ∃ acc,acc = (l.map (placesF q.cols)).take k:=⟨_,rfl⟩
    have hal : acc.length = k:=by rw [hacc];simp;omega
    have hat : List.take k (tups acc) = tups acc:=List.take_of_length_le (by rw [tl];omega)
    rw [← hacc] at hK1 htk2
    have haa : acc.length ≤ 1000000:=by omega
    repeat (first | refine nav ?_ | refine bo ?_)
    (refine W_reg [1000000] fun K R hK hR=>?_;simp only [go_sem,hro,app_get _ hK1,tl,hat];(try go_ints);(repeat refine And.intro (by first|exact side|(simp [tups];omega)) ?_);(first|refine hK _ ?_|refine hR _ _ ?_);clear hK hR K R)
    repeat (first | refine nav ?_ | refine bo ?_)
    (refine wr fun K R hK hR=>?_;simp only [go_sem];(try go_ints);(repeat refine And.intro side ?_);(first|refine hK _ ?_|refine hR _ _ ?_);clear hK hR K R)
    refine forQ_normal (l.length - (k + 1)) (by omega) ⟨k + 1,.ref (o.length + 2) 0 (k + 1),okO_app (okO_set' (okO_app hok rfl) rfl) (by simp [Ob.ltk,tups,AV.ltk]),app_get _ (by rw [List.getElem?_set_ne (by omega)];exact app_get _ o0),by simp only [go_sem]<;>rfl,by simp only [go_sem],.inr ⟨o.length + 2,by omega,by omega,rfl,?_⟩,rfl,hb0⟩
    rw [List.getElem?_append_right (by simp),htk2]
    simp [tups]
 ·simp at hb
  obtain rfl : k = l.length:=by omega
  rcases hv with ⟨rfl,h0⟩ | ⟨K1,hK0,hkp,rfl,hK1⟩
  ·have hl0 : l = []:=List.length_eq_zero_iff.1 h0
   rw [hr hl0]
   repeat (first | refine nav ?_ | refine bo ?_)
   (refine W_reg [1000000] fun K R hK hR=>?_;simp only [go_sem,h7];(try go_ints);(try simp only [go_sem,h7]);(repeat refine And.intro side ?_);(first|refine hK _ ?_|refine hR _ _ ?_);clear hK hR K R)
   refine RL_callF (hs0) rfl rfl rfl (by first | (simp only [go_sem]<;>first | exact LeA.refl _ | exact Le.refl _) | exact LeA.refl _) rfl rfl ?_
   (refine RL_reg [1000000] fun K R hK hR=>?_;simp only [go_sem];(try go_ints);(repeat refine And.intro (by first|exact side|(omega)) ?_);(first|refine hK _ ?_|refine hR _ _ ?_);clear hK hR K R)
   repeat (first | refine nav ?_ | refine bo ?_)
   refine endQ_data (by simp only [go_sem]<;>exact rfl) (Le.of_eq ?_) rfl
   rfl
  ·rw [List.take_of_length_le (by simp)] at hK1
   have hl1 : l ≠ []:=by
    rintro rfl
    simp at hkp
   have hs1:=hs hl1 o K1 hok hK1
   rw [List.length_map] at hs1
   have hKl:=(List.getElem?_eq_some_iff.1 hK1).1
   repeat (first | refine nav ?_ | refine bo ?_)
   (refine W_reg [1000000] fun K R hK hR=>?_;simp only [go_sem,h7];(try go_ints);(try simp only [go_sem,h7]);(repeat refine And.intro side ?_);(first|refine hK _ ?_|refine hR _ _ ?_);clear hK hR K R)
   refine RL_callE (caps:=[]) hs1 ?_ rfl rfl rfl (by simp) (by exact LeA.refl _) hok (by simp [AV.ltk];omega) ?_
   ·rintro x o' ⟨k',rows,rfl,rfl,h0,h1,h2,h3⟩
    exact ⟨by simp,by simp [AV.ltk];omega,h3⟩
   rintro x o' ⟨k',rows,rfl,rfl,h0,h1,h2,h3⟩
   (refine RL_reg [1000000] fun K R hK hR=>?_;simp only [go_sem];(try go_ints);(repeat refine And.intro (by first|exact side|(omega)) ?_);(first|refine hK _ ?_|refine hR _ _ ?_);clear hK hR K R)
   change W Tryz.prog 48 Code.ret _ _
   refine W_freeze K1 (sz:=1) (rows:=rows) (by simp [hKl]) h2 ?_
   have hmk : (rows.map fun r=>r.map AV.dat).take k' = tups r:=by rw [← List.map_take,h1];simp [tups,Function.comp_def,AV.dat]
   refine W_weak (s':=⟨tab [(6,.sl 1 (tups r))],_⟩) (fun y=>?_) rfl ?_
   ·simp only [tab_cons,tab_nil]
    split
    ·rename_i e
     subst e
     simp only [frS,upd,if_true,AV.unref]
     rw [if_pos ⟨trivial,by simpa using h0⟩,List.drop_zero,hmk]
     exact Le.refl _
    ·exact Le.any _
   repeat (first | refine nav ?_ | refine bo ?_)
   refine endQ_data (by simp only [go_sem]<;>exact rfl) (Le.of_eq ?_) rfl
   rfl
end Go.AW
namespace Go.AW
open Go Go.Proofs TyTryz Go.IntWalk
set_option linter.unusedSimpArgs false
set_option linter.unusedVariables false
set_option maxRecDepth 100000
set_option maxHeartbeats 1000000
theorem run0 {k : Nat} {f : FuncId} {ac : List AV} {r : AV} (h : xCall Tryz.prog (fun _ _ _=>none) (fun _=>false) k f ac [] = some (r,[])) : ACallsD Tryz.prog f ac r :=
 ((x_sound (fun _ _ _=>none) (fun _=>false) (by decide +kernel) (fun _ _ _ _ _ h=>by cases h) k).2.2.2.1 f ac [] r [] h).1
theorem ins1_spec (b : Int) (hb0 : b = 0 ∨ b = 1) {oc : List Ob} (ho : okO oc = true) : ACallsQ Tryz.prog 106 [.any,.i .i64 0,.i .i64 b,.any] oc (.tup []):=by
 refine ACalls_of' (n:=53) (rs:=[]) (show Tryz.prog.funcs[106]? = some Tryz.f106 by kernel_rfl) rfl rfl rfl (by simp) (by decide +kernel) ?_
 repeat (first | refine nav ?_ | refine bo ?_)
 (refine wr fun K R hK hR=>?_;simp only [go_sem];(try go_ints);(repeat refine And.intro side ?_);(first|refine hK _ ?_|refine hR _ _ ?_);clear hK hR K R)
 repeat (first | refine nav ?_ | refine bo ?_)
 refine W_for 8 53 [] (fun m t o=>o = oc ∧ t 8 = .i .i64 1) 1 ⟨rfl,by simp only [go_sem]<;>rfl⟩ ?_
 rintro m t o ⟨rfl,h8⟩
 repeat (first | refine nav ?_ | refine bo ?_)
 (refine wr fun K R hK hR=>?_;simp only [go_sem,h8];(try go_ints);(try simp only [go_sem,h8]);(repeat refine And.intro side ?_);(first|refine hK _ ?_|refine hR _ _ ?_);clear hK hR K R)
 repeat (first | refine nav ?_ | refine bo ?_)
 refine W_cond (by simp only [go_sem]<;>exact rfl) (fun hb=>?_) (fun hb=>?_)
 ·simp at hb;omega
 repeat (first | refine nav ?_ | refine bo ?_)
 refine endQ_quiet0 (by simp only [go_sem]<;>exact rfl) (Le.of_eq ?_) (by assumption) rfl
 rfl
theorem len1_spec (b : Int) (hb : b = 0 ∨ b = 1) : ACallsD Tryz.prog 105 [.i .u64 b] (.i .i64 b):=by
 rcases hb with rfl | rfl
 ·exact run0 (k:=40) (by kernel_rfl)
 ·exact run0 (k:=40) (by kernel_rfl)
theorem pdq1_spec (b c : Int) (hb0 : b = 0 ∨ b = 1) {oc : List Ob} (ho : okO oc = true) : ACallsQ Tryz.prog 104 [.any,.i .i64 0,.i .i64 b,.i .i64 c,.any] oc (.tup []):=by
 refine ACalls_of' (n:=148) (rs:=[]) (show Tryz.prog.funcs[104]? = some Tryz.f104 by kernel_rfl) rfl rfl rfl (by simp) (by decide +kernel) ?_
 repeat (first | refine nav ?_ | refine bo ?_)
 (refine wr fun K R hK hR=>?_;simp only [go_sem];(try go_ints);(repeat refine And.intro side ?_);(first|refine hK _ ?_|refine hR _ _ ?_);clear hK hR K R)
 repeat (first | refine nav ?_ | refine bo ?_)
 (refine wr fun K R hK hR=>?_;simp only [go_sem];(try go_ints);(repeat refine And.intro side ?_);(first|refine hK _ ?_|refine hR _ _ ?_);clear hK hR K R)
 repeat (first | refine nav ?_ | refine bo ?_)
 refine W_for 12 148 [] (fun m t o=>o = oc) 1 rfl ?_
 rintro m t o rfl
 repeat (first | refine nav ?_ | refine bo ?_)
 (refine wr fun K R hK hR=>?_;simp only [go_sem];(try go_ints);(repeat refine And.intro side ?_);(first|refine hK _ ?_|refine hR _ _ ?_);clear hK hR K R)
 repeat (first | refine nav ?_ | refine bo ?_)
 (refine wr fun K R hK hR=>?_;simp only [go_sem];(try go_ints);(repeat refine And.intro side ?_);(first|refine hK _ ?_|refine hR _ _ ?_);clear hK hR K R)
 repeat (first | refine nav ?_ | refine bo ?_)
 refine W_cond (by simp only [go_sem]<;>exact rfl) (fun hb=>?_) (fun hb=>?_)
 ·repeat (first | refine nav ?_ | refine bo ?_)
  (refine wr fun K R hK hR=>?_;simp only [go_sem];(try go_ints);(repeat refine And.intro side ?_);(first|refine hK _ ?_|refine hR _ _ ?_);clear hK hR K R)
  refine RL_callQ (ins1_spec b hb0 ho) rfl rfl rfl (by simp) (by simp only [go_sem]<;>exact LeA.refl _) ho rfl rfl ?_
  (refine rr fun K R hK hR=>?_;simp only [go_sem];(try go_ints);(repeat refine And.intro side ?_);(first|refine hK _ ?_|refine hR _ _ ?_);clear hK hR K R)
  repeat (first | refine nav ?_ | refine bo ?_)
  refine endQ_quiet0 (by simp only [go_sem]<;>exact rfl) (Le.of_eq ?_) (by assumption) rfl
  rfl
 ·simp at hb;omega
theorem sortF1_spec (id : Nat) {oc : List Ob} (ho : okO oc = true) (hi : id < oc.length) : ACallsQ Tryz.prog 99 [.ref id 0 1,.any] oc (.tup []):=by
 refine ACalls_of' (n:=14) (rs:=[]) (show Tryz.prog.funcs[99]? = some Tryz.f99 by kernel_rfl) rfl rfl rfl (by simp) (by decide +kernel) ?_
 repeat (first | refine nav ?_ | refine bo ?_)
 (refine wr fun K R hK hR=>?_;simp only [go_sem];(try go_ints);(repeat refine And.intro side ?_);(first|refine hK _ ?_|refine hR _ _ ?_);clear hK hR K R)
 repeat (first | refine nav ?_ | refine bo ?_)
 (refine wr fun K R hK hR=>?_;simp only [go_sem];(try go_ints);(repeat refine And.intro side ?_);(first|refine hK _ ?_|refine hR _ _ ?_);clear hK hR K R)
 refine RL_callF (len1_spec 1 (.inr rfl)) rfl rfl rfl (by first | (simp only [go_sem]<;>first | exact LeA.refl _ | exact Le.refl _) | exact LeA.refl _) rfl rfl ?_
 (refine rr fun K R hK hR=>?_;simp only [go_sem];(try go_ints);(repeat refine And.intro side ?_);(first|refine hK _ ?_|refine hR _ _ ?_);clear hK hR K R)
 refine RL_callQ (pdq1_spec 1 1 (.inr rfl) ho) rfl rfl rfl (by simp) (by simp only [go_sem]<;>exact ⟨Le.any _,Le.refl _⟩) ho rfl rfl ?_
 (refine rr fun K R hK hR=>?_;simp only [go_sem];(try go_ints);(repeat refine And.intro side ?_);(first|refine hK _ ?_|refine hR _ _ ?_);clear hK hR K R)
 repeat (first | refine nav ?_ | refine bo ?_)
 refine endQ_quiet0 (by simp only [go_sem]<;>exact rfl) (Le.of_eq ?_) (by assumption) rfl
 rfl
theorem compact1_spec (id : Nat) {oc : List Ob} (ho : okO oc = true) (hi : id < oc.length) : ACalls Tryz.prog 100 [.ref id 0 1,.any] oc fun x o'=>x = .ref id 0 1 ∧ o' = oc:=by
 refine ACalls_of' (n:=66) (rs:=[.tmp 4]) (show Tryz.prog.funcs[100]? = some Tryz.f100 by kernel_rfl) rfl rfl rfl (by simp) (by decide +kernel) ?_
 repeat (first | refine nav ?_ | refine bo ?_)
 (refine wr fun K R hK hR=>?_;simp only [go_sem];(try go_ints);(repeat refine And.intro side ?_);(first|refine hK _ ?_|refine hR _ _ ?_);clear hK hR K R)
 repeat (first | refine nav ?_ | refine bo ?_)
 (refine wr fun K R hK hR=>?_;simp only [go_sem];(try go_ints);(repeat refine And.intro side ?_);(first|refine hK _ ?_|refine hR _ _ ?_);clear hK hR K R)
 repeat (first | refine nav ?_ | refine bo ?_)
 refine W_cond (by simp only [go_sem]<;>exact rfl) (fun hb=>?_) (fun hb=>?_)
 ·repeat (first | refine nav ?_ | refine bo ?_)
  (refine wr fun K R hK hR=>?_;simp only [go_sem];(try go_ints);(repeat refine And.intro side ?_);(first|refine hK _ ?_|refine hR _ _ ?_);clear hK hR K R)
  repeat (first | refine nav ?_ | refine bo ?_)
  refine endQ_all (by simp only [go_sem]<;>exact rfl) (Le.refl _) (by simp) ho (by simp [AV.ltk];omega) ⟨rfl,rfl⟩
 ·simp at hb
theorem set_of_get {l : List Ob} {i : Nat} {x : Ob} (h : l[i]? = some x) : l.set i x = l:=by
 obtain ⟨h1,e⟩:=List.getElem?_eq_some_iff.1 h
 rw [← e];exact List.set_getElem_self h1
theorem sorted0_spec : ACallsD Tryz.prog 86 [.nsl] (.sl 1 []):=run0 (k:=60) (by kernel_rfl)
theorem sorted1_spec (x : List Int) : SortedP [x] [x]:=by
 intro oc id ho hi
 have hlt:=(List.getElem?_eq_some_iff.1 hi).1
 refine ACalls_of' (n:=7) (rs:=[.tmp 2]) (show Tryz.prog.funcs[86]? = some Tryz.f86 by kernel_rfl) rfl rfl rfl (by simp) (by decide +kernel) ?_
 repeat (first | refine nav ?_ | refine bo ?_)
 (refine W_reg [1000000] fun K R hK hR=>?_;simp only [go_sem];(try go_ints);(repeat refine And.intro side ?_);(first|refine hK _ ?_|refine hR _ _ ?_);clear hK hR K R)
 repeat (first | refine nav ?_ | refine bo ?_)
 (refine W_reg [1000000] fun K R hK hR=>?_;simp only [go_sem];(try go_ints);(repeat refine And.intro side ?_);(first|refine hK _ ?_|refine hR _ _ ?_);clear hK hR K R)
 refine RL_callQ (sortF1_spec id ho hlt) rfl rfl rfl (by simp) (by simp only [go_sem]<;>exact Le.any _) ho (by simp [AV.ltk];omega) rfl ?_
 (refine RL_reg [1000000] fun K R hK hR=>?_;simp only [go_sem];(try go_ints);(repeat refine And.intro (by first|exact side|(omega)) ?_);(first|refine hK _ ?_|refine hR _ _ ?_);clear hK hR K R)
 repeat (first | refine nav ?_ | refine bo ?_)
 (refine W_reg [1000000] fun K R hK hR=>?_;simp only [go_sem];(try go_ints);(repeat refine And.intro side ?_);(first|refine hK _ ?_|refine hR _ _ ?_);clear hK hR K R)
 refine RL_callE (caps:=[]) (compact1_spec id ho hlt) (by rintro r o' ⟨rfl,rfl⟩;exact ⟨Nat.le_refl _,by simp [AV.ltk];omega,ho⟩) rfl rfl rfl (by simp) (by simp only [go_sem]<;>exact Le.any _) ho (by simp [AV.ltk];omega) ?_
 rintro r o' ⟨rfl,rfl⟩
 (refine RL_reg [1000000] fun K R hK hR=>?_;simp only [go_sem];(try go_ints);(repeat refine And.intro (by first|exact side|(omega)) ?_);(first|refine hK _ ?_|refine hR _ _ ?_);clear hK hR K R)
 repeat (first | refine nav ?_ | refine bo ?_)
 refine endQ_all (by simp only [go_sem]<;>exact rfl) (Le.refl _) (by simp) ho (by simp [AV.ltk];omega) ⟨1,tups [x],rfl,?_,by simp [tups],rfl,rfl,ho⟩
 exact (set_of_get hi).symm
end Go.AW
namespace Go.AW
open Go Go.Proofs TyTryz Go.IntWalk
set_option linter.unusedSimpArgs false
set_option linter.unusedVariables false
set_option maxRecDepth 10000
set_option maxHeartbeats 1000000
@[go_sem] theorem arrD0 (x d : Operand) : (#[x] : Array Operand).getD 0 d = x:=rfl
attribute [go_sem] Int.reduceBEq
def engMap (E : Nat) : List (AV × AV):=[(.i .i64 0,.bm 56 (.ptr E 0 0)),(.i .i64 1,.bm 57 (.ptr E 0 0)),(.i .i64 2,.bm 58 (.ptr E 0 0)),(.i .i64 3,.bm 58 (.ptr E 0 0)),
 (.i .i64 4,.bm 59 (.ptr E 0 0)),(.i .i64 5,.bm 60 (.ptr E 0 0)),(.i .i64 6,.bm 61 (.ptr E 0 0)),(.i .i64 7,.bm 62 (.ptr E 0 0))]
def engObs (s : StrD) (n : Nat) : List Ob:=[.cells 2 [s.cells],.cells 3 [[.i .i64 s.size,.sl 3 (rels s.rels),.mp (n + 2)]],.mapo (engMap (n + 1))]
theorem newEngine_spec (s : StrD) {oc : List Ob} (ho : okO oc = true) : ACalls Tryz.prog 33 [.agg s.cells] oc fun r o'=>r = .ptr (oc.length + 1) 0 0 ∧ o' = oc ++ engObs s oc.length:=by
 unfold StrD.cells
 refine ACalls_of' (n:=29) (rs:=[.tmp 2]) (show Tryz.prog.funcs[33]? = some Tryz.f33 by kernel_rfl) rfl rfl rfl (by simp) (by decide +kernel) ?_
 repeat (first | refine nav ?_ | refine bo ?_)
 (refine wr fun K R hK hR=>?_;simp only [go_sem];(try go_ints);(repeat refine And.intro side ?_);(first|refine hK _ ?_|refine hR _ _ ?_);clear hK hR K R)
 repeat (first | refine nav ?_ | refine bo ?_)
 (refine wr fun K R hK hR=>?_;simp only [go_sem];(try go_ints);(repeat refine And.intro side ?_);(first|refine hK _ ?_|refine hR _ _ ?_);clear hK hR K R)
 repeat (first | refine nav ?_ | refine bo ?_)
 (refine wr fun K R hK hR=>?_;simp only [go_sem];(try go_ints);(repeat refine And.intro side ?_);(first|refine hK _ ?_|refine hR _ _ ?_);clear hK hR K R)
 repeat (first | refine nav ?_ | refine bo ?_)
 (refine wr fun K R hK hR=>?_;simp only [go_sem];(try go_ints);(repeat refine And.intro side ?_);(first|refine hK _ ?_|refine hR _ _ ?_);clear hK hR K R)
 repeat (first | refine nav ?_ | refine bo ?_)
 refine endQ_all (by simp only [go_sem]<;>exact rfl) (Le.refl _) (by simp) (okO_app ho ?_) (by simp [AV.ltk]) ⟨rfl,rfl⟩
 simp [Ob.ltk,AV.ltk,rels]
end Go.AW
namespace Go.AW
open Go Go.Proofs TyTryz Go.IntWalk
set_option linter.unusedSimpArgs false
set_option linter.unusedVariables false
set_option maxRecDepth 10000
set_option maxHeartbeats 1000000
theorem CallD.allB {P : Program} {n : Nat} {s : St} {o : Oper} {c : Call} {x : Operand} {f : FuncId} {v : AV} {ac : List AV} {v' r : AV} (ho : o.op = .call c) (hc : c.callee = .value x) (hx : ung true (opd s.t x) = .bm f v) (h : ACallsQ P f (v' :: ac) s.o r)
  (hin : c.args.toList.all (opIn n) = true) (hd : dstOk n o.dst = true) (hl : c.args.size = ac.length) (hle : LeA (argVals c.args.toList ac s.t ++ [v.dat]) (ac ++ [v']))
  (hoc : okO s.o = true) (hac : ac.all (AV.ltk s.o.length) = true) (hv : v'.ltk s.o.length = true) (hr : r.ltk 0 = true) : CallD P n o s (ac ++ [v']) r:=by
 have hac' : (ac ++ [v']).all (AV.ltk s.o.length) = true:=by rw [List.all_append,hac];simp [hv]
 refine ⟨⟨c,x,true,f,[v],List.range s.o.length,s.o,ho,hc,by rw [hx];rfl,hin,by simp;omega,Hand.all hoc,?_,by rw [List.length_range];exact hac',?_⟩,hd,hr⟩
 ·rw [map_ren_range hac',List.take_left' hl.symm];exact hle
 ·refine ACalls.rot (by simp) ?_
  have : rotL AV.any true (ac ++ [v']) = v' :: ac:=by simp [rotL]
  rw [this];exact h
theorem D_callQB {P : Program} {n : Nat} {gd : List (Option Nat)} {tk : List Nat} {s : St} {K : St → Prop} {d : Option Tmp} {x : Operand} {xs : List Operand} {ats : Array TypeId} {ty : TypeId} {pos : String} {aft : Array Edge} {rest : List Oper} {f : FuncId} {v : AV} (v' : AV) (ac : List AV) {r : AV} (h : ACallsQ P f (v' :: ac) s.o r)
  (hx : ung true (opd s.t x) = .bm f v) (hin : xs.all (opIn n) = true) (hd : dstOk n d = true) (hl : xs.length = ac.length) (hle : LeA (argVals xs ac s.t ++ [v.dat]) (ac ++ [v']))
  (hoc : okO s.o = true) (hac : ac.all (AV.ltk s.o.length) = true) (hv : v'.ltk s.o.length = true) (hr : r.ltk 0 = true) (hq : isQ tk ⟨d,.call ⟨.value x,xs.toArray,ats⟩,ty,pos,aft,none⟩ = true) (ho : (ac ++ [v']).all (fun c=>!c.isOwn) = true)
  (hK : D P n gd tk rest K (s.put d r)) : D P n gd tk (⟨d,.call ⟨.value x,xs.toArray,ats⟩,ty,pos,aft,none⟩ :: rest) K s :=
 D_call (ac ++ [v']) r rfl hq (CallD.allB rfl rfl hx h hin hd (by simpa using hl) (by simpa using hle) hoc hac hv hr) ho hK
structure Eng (s : StrD) (E : Nat) (o : List Ob) : Prop where
 e : o[E]? = some (.cells 3 [[.i .i64 s.size,.sl 3 (rels s.rels),.mp (E + 1)]])
 m : o[E + 1]? = some (.mapo (engMap E))
theorem Eng.app {s : StrD} {E : Nat} {o : List Ob} (h : Eng s E o) (l : List Ob) : Eng s E (o ++ l):=⟨app_get l h.e,app_get l h.m⟩
def Runs (s : StrD) (p : PlanD) (out : List (List Int)) : Prop:=∀ (oc : List Ob) (E : Nat),okO oc = true → Eng s E oc → ACallsQ Tryz.prog 34 [.ptr E 0 0,.agg p.cells] oc (.sl 1 (tups out))
def methF (k : Int) : FuncId:=if k = 0 then 56 else if k = 1 then 57 else if k = 2 ∨ k = 3 then 58 else if k = 4 then 59 else if k = 5 then 60 else if k = 6 then 61 else 62
def Meth (s : StrD) (p : PlanD) (ks : List (List (List Int))) (out : List (List Int)) : Prop:=∀ (oc : List Ob) (E : Nat),okO oc = true → Eng s E oc → ACallsQ Tryz.prog (methF p.kind) [.ptr E 0 0,.agg p.cells,.sl 1 (kid3 ks)] oc (.sl 1 (tups out))
theorem run_step (s : StrD) (q : PlanD) (ks : List (List (List Int))) (out : List (List Int)) (hk8 : 0 ≤ q.kind ∧ q.kind < 8) (hn : q.kids.length ≤ 1000000) (hl : ks.length = q.kids.length) (hk : ∀ (i : Nat) (x : PlanD) (l : List (List Int)),q.kids[i]? = some x → ks[i]? = some l → Runs s x l) (hm : Meth s q ks out) : Runs s q out:=by
 intro oc E ho he
 have hq:=q.cells_eq
 have hm':=hm
 unfold Meth at hm
 rw [hq] at hm ⊢
 have hel:=(List.getElem?_eq_some_iff.1 he.m).1
 refine ACalls_of' (n:=32) (rs:=[.tmp 4]) (show Tryz.prog.funcs[34]? = some Tryz.f34 by kernel_rfl) rfl rfl rfl (by simp) (by decide +kernel) ?_
 repeat (first | refine nav ?_ | refine bo ?_)
 (refine wr fun K R hK hR=>?_;simp only [go_sem];(try go_ints);(repeat refine And.intro side ?_);(first|refine hK _ ?_|refine hR _ _ ?_);clear hK hR K R)
 repeat (first | refine nav ?_ | refine bo ?_)
 (refine wr fun K R hK hR=>?_;simp only [go_sem];(try go_ints);(repeat refine And.intro side ?_);(first|refine hK _ ?_|refine hR _ _ ?_);clear hK hR K R)
 repeat (first | refine nav ?_ | refine bo ?_)
 (refine wr fun K R hK hR=>?_;simp only [go_sem,plans_len];(try go_ints);(try simp only [go_sem,plans_len]);(repeat refine And.intro side ?_);(first|refine hK _ ?_|refine hR _ _ ?_);clear hK hR K R)
 repeat (first | refine nav ?_ | refine bo ?_)
 refine W_weak (s':=⟨mix 11 22 [5,7] (tab [(5,.own 1 []),(11,.i .i64 0)]) (tab [(0,.ptr E 0 0),(3,.ptr oc.length 0 0),(9,.sl 7 (plans q.kids)),(10,.i .i64 q.kids.length)]),oc ++ [boxQ q]⟩) (tab_mix (fun x hx=>?_) (fun x hx=>?_)) rfl ?_
 ·simp only [List.mem_cons,List.not_mem_nil,or_false] at hx
  rcases hx with rfl | rfl<;>rfl
 ·simp only [List.mem_cons,List.not_mem_nil,or_false] at hx
  rcases hx with rfl | rfl | rfl | rfl<;>rfl
 refine W_forM 11 22 [5,7] (fun m t o=>∃ (k : Nat),(∃ ex : List Ob,o = oc ++ ex) ∧ o[oc.length]? = some (boxQ q) ∧ okO o = true ∧ t 11 = .i .i64 k ∧ t 5 = .own 1 (kid3 (ks.take k)) ∧ m = q.kids.length - k ∧ k ≤ q.kids.length) q.kids.length ⟨0,⟨_,rfl⟩,by simp,okO_app ho rfl,by simp only [go_sem]<;>rfl,by simp only [go_sem]<;>rfl,by omega,by omega⟩ ?_
 rintro m t o ⟨k,hex,hob,hok,h11,h5,rfl,hkl⟩
 have heo : Eng s E o:=by obtain ⟨ex,rfl⟩:=hex;exact he.app ex
 have hEl:=(List.getElem?_eq_some_iff.1 heo.m).1
 repeat (first | refine nav ?_ | refine bo ?_)
 (refine wr fun K R hK hR=>?_;simp only [go_sem,h11];(try go_ints);(try simp only [go_sem,h11]);(repeat refine And.intro side ?_);(first|refine hK _ ?_|refine hR _ _ ?_);clear hK hR K R)
 repeat (first | refine nav ?_ | refine bo ?_)
 refine W_cond (by simp only [go_sem]<;>exact rfl) (fun hb=>?_) (fun hb=>?_)
 ·simp at hb
  have hb0 : k + 1 ≤ q.kids.length:=hb
  obtain ⟨x,hx⟩ : ∃ x,q.kids[k]? = some x:=⟨_,List.getElem?_eq_getElem hb⟩
  obtain ⟨l,hll⟩ : ∃ l,ks[k]? = some l:=⟨_,List.getElem?_eq_getElem (by omega)⟩
  have hxq:=x.cells_eq
  have ih:=hk k x l hx hll
  unfold Runs at ih
  rw [hxq] at ih
  have hkt : (kid3 (ks.take k)).length = k:=by rw [kid3_len];simp;omega
  have hka : kid3 (ks.take (k + 1)) = kid3 (ks.take k) ++ [[.sl 1 (tups l)]]:=by rw [List.take_add_one,hll];simp [kid3]
  repeat (first | refine nav ?_ | refine bo ?_)
  (refine wr fun K R hK hR=>?_;simp only [go_sem,h11,plans_get hx];(try go_ints);(try simp only [go_sem,h11,plans_get hx]);(repeat refine And.intro side ?_);(first|refine hK _ ?_|refine hR _ _ ?_);clear hK hR K R)
  repeat (first | refine nav ?_ | refine bo ?_)
  (refine W_reg [15] fun K R hK hR=>?_;simp only [go_sem,h5];(try go_ints);(try simp only [go_sem,h5]);(repeat refine And.intro side ?_);(first|refine hK _ ?_|refine hR _ _ ?_);clear hK hR K R)
  have hok2 : okO (o ++ [.cells 7 [[AV.i IntKind.i64 x.kind,AV.i IntKind.i64 x.width,AV.i IntKind.i64 x.i,AV.i IntKind.i64 x.j,AV.s x.name,AV.sl 1 (ints x.cols),AV.sl 7 (plans x.kids)]]]) = true:=okO_app hok rfl
  refine RL_callQ (ih _ E hok2 (heo.app _)) rfl rfl rfl (by simp) (by simp only [go_sem]<;>exact LeA.refl _) hok2 (by simp [AV.ltk,AV.ltks];omega) rfl ?_
  (refine RL_reg [15] fun K R hK hR=>?_;simp only [go_sem,hkt];(try go_ints);(repeat refine And.intro (by first|exact side|(trace_state;omega)) ?_);(first|refine hK _ ?_|refine hR _ _ ?_);clear hK hR K R)
  repeat (first | refine nav ?_ | refine bo ?_)
  (refine wr fun K R hK hR=>?_;simp only [go_sem,h11];(try go_ints);(try simp only [go_sem,h11]);(repeat refine And.intro side ?_);(first|refine hK _ ?_|refine hR _ _ ?_);clear hK hR K R)
  refine forQ_normal (q.kids.length - (k + 1)) (by omega) ⟨k + 1,?_,app_get _ hob,hok2,by simp only [go_sem]<;>rfl,by simp only [go_sem,hka],rfl,hb0⟩
  obtain ⟨ex,rfl⟩:=hex
  exact ⟨_,List.append_assoc _ _ _⟩
 ·simp at hb
  obtain rfl : k = q.kids.length:=by omega
  rw [← hl,List.take_length] at h5
  have hm2:=hm o E hok heo
  repeat (first | refine nav ?_ | refine bo ?_)
  obtain ⟨c,hkc⟩ : ∃ c,q.kind = c:=⟨_,rfl⟩
  rw [hkc] at hm2 hk8
  have hc8 : c = 0 ∨ c = 1 ∨ c = 2 ∨ c = 3 ∨ c = 4 ∨ c = 5 ∨ c = 6 ∨ c = 7:=by omega
  have fin : ∀ (t' : Nat → AV),t' 4 = .sl 1 (tups out) → seqQ Tryz.prog 32 Code.ret (endQ Tryz.prog [ResultVar.tmp 4] oc.length fun r' o'=>r' = AV.sl 1 (tups out) ∧ o' = oc) Exit.normal ⟨t',o⟩:=by
   intro t' ht
   obtain ⟨ex,rfl⟩:=hex
   repeat (first | refine nav ?_ | refine bo ?_)
   refine endQ_quiet (by simp only [go_sem,ht]<;>exact rfl) (Le.of_eq ?_) ho rfl
   rfl
  have hlt0 : (AV.ptr E 0 0).ltk o.length = true:=by simp [AV.ltk];omega
  rcases hc8 with rfl | rfl | rfl | rfl | rfl | rfl | rfl | rfl
  all_goals
   (refine W_dreg (by decide +kernel) [] [0,1,2,3,4,5,6,7,8,9,10] [[],[0],[0,1],[1,0,2],[],[4],[4,5,2,0,1,3],[],[],[8,7,3,1,0,2,5,4,6],[6,4,5,2,0,1,3,7,8,9]] (by decide +kernel) rfl fun K R hK hR=>?_;simp only [List.filterMap_cons,List.filterMap_nil,List.getElem?_cons_zero,List.getElem?_cons_succ,List.cons_append,List.nil_append];simp only [go_sem,h5,heo.e,heo.m,hob,hkc,engMap];(try go_ints);(try simp only [go_sem,h5,heo.e,heo.m,hob,hkc,engMap]);(repeat refine And.intro side ?_);(first|refine hK _ ?_|refine hR _ _ ?_);clear hK hR K R)
   refine D_callQB (.ptr E 0 0) [_,_] hm2 (by simp only [go_sem]<;>exact rfl) rfl rfl rfl (by simp only [go_sem]<;>exact LeA.refl _) hok rfl hlt0 rfl rfl rfl ?_
   (refine D_reg fun K R hK hR=>?_;simp only [go_sem];(try go_ints);(repeat refine And.intro side ?_);(first|refine hK _ ?_|refine hR _ _ ?_);clear hK hR K R)
   refine fin _ ?_
   simp only [go_sem]
end Go.AW
