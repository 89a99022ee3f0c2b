/-
Contracts: small functions of shape and slices.
-/
import Derived.Test.YtfjdiofipbchcaaKae
import Derived.Laws.Strings
import Derived.Sort.Row
import Derived.Sort.Grow
import Derived.Maps.RangeRun
namespace Go.AW
open Go Go.Proofs TyTry Go.IntWalk
set_option linter.unusedSimpArgs false
set_option linter.unusedVariables false
set_option maxRecDepth 10000
def ints (l : List Int) : List (List AV):=l.map fun x=>[.i .i64 x]
theorem ints_len (l : List Int) : (ints l).length = l.length:=by simp [ints]
theorem ints_get {l : List Int} {i : Nat} {x : Int} (h : l[i]? = some x) : (ints l).getD i [] = [.i .i64 x]:=by simp [ints,h]
attribute [go_sem] ints_len
def tups (l : List (List Int)) : List (List AV):=l.map fun x=>[.sl 1 (ints x)]
theorem tups_len (l : List (List Int)) : (tups l).length = l.length:=by simp [tups]
theorem tups_get {l : List (List Int)} {i : Nat} {x : List Int} (h : l[i]? = some x) : (tups l).getD i [] = [.sl 1 (ints x)]:=by simp [tups,h]
attribute [go_sem] tups_len
structure RelD where
 name : ByteArray
 arity : Int
 tuples : List (List Int)
def RelD.cells (r : RelD) : List AV:=[.s r.name,.i .i64 r.arity,.sl 1 (tups r.tuples)]
def rels (l : List RelD) : List (List AV):=l.map RelD.cells
theorem rels_len (l : List RelD) : (rels l).length = l.length:=by simp [rels]
theorem rels_get {l : List RelD} {i : Nat} {x : RelD} (h : l[i]? = some x) : (rels l).getD i [] = [.s x.name,.i .i64 x.arity,.sl 1 (tups x.tuples)]:=by simp [rels,h,RelD.cells]
theorem rels_take (l : List RelD) (k : Nat) : (rels l).take k = rels (l.take k):=by simp [rels,List.map_take]
attribute [go_sem] rels_len
structure StrD where
 size : Int
 rels : List RelD
def StrD.cells (s : StrD) : List AV:=[.i .i64 s.size,.sl 3 (AW.rels s.rels)]
theorem ltks_all (k : Nat) : ∀ l : List AV,AV.ltks k l = l.all (AV.ltk k)
 | []=>rfl
 | a :: l=>by simp [AV.ltks,ltks_all k l]
theorem drop_cons {α : Type} {l : List α} {k : Nat} {x : α} (h : l[k]? = some x) : l.drop k = x :: l.drop (k + 1):=by
 obtain ⟨hb,rfl⟩:=List.getElem?_eq_some_iff.1 h
 exact List.drop_eq_getElem_cons hb
theorem elements1_spec {oc : List Ob} (ho : okO oc = true) {i : Nat} {n : Int} (hi : oc[i]? = some (.cells 1 [[.i .i64 n]])) (x : Int) :
  ACallsQ Try.prog 80 [.i .i64 x,.ptr i 0 0] oc (.b (decide (x < 0) || decide (x ≥ n))):=by
 refine ACalls_of' (n:=11) (rs:=[.tmp 3]) (show Try.prog.funcs[80]? = some Try.f80 by kernel_rfl) rfl rfl rfl (by simp) (by decide +kernel) ?_
 repeat (first | refine nav ?_ | refine bo ?_)
 (refine wr fun K R hK hR=>?_;simp only [go_sem];(try go_ints);(repeat refine And.intro side ?_);(first|refine hK _ ?_|refine hR _ _ ?_);clear hK hR K R)
 repeat (first | refine nav ?_ | refine bo ?_)
 (refine wr fun K R hK hR=>?_;simp only [go_sem,hi];(try go_ints);(try simp only [go_sem,hi]);(repeat refine And.intro side ?_);(first|refine hK _ ?_|refine hR _ _ ?_);clear hK hR K R)
 repeat (first | refine nav ?_ | refine bo ?_)
 refine endQ_quiet0 (by simp only [go_sem]<;>exact rfl) (Le.of_eq ?_) (by assumption) rfl
 rfl
theorem isNaN_spec (x : Int) : ACallsD Try.prog 88 [.i .i64 x] (.b false):=by
 refine ACalls_of' (n:=6) (rs:=[.tmp 2]) (show Try.prog.funcs[88]? = some Try.f88 by kernel_rfl) rfl rfl rfl (by simp) (by decide +kernel) ?_
 repeat' (first | refine nav ?_ | refine bo ?_ | (refine wr fun K R hK hR=>?_;simp only [go_sem];(try go_ints);(repeat refine And.intro side ?_);(first|refine hK _ ?_|refine hR _ _ ?_);clear hK hR K R) | ((refine W_cond (by simp only [go_sem, *]<;>exact rfl) (fun hb=>?_) (fun hb=>?_))<;>(try exact Bool.noConfusion hb)))
 refine endQ_data (by simp only [go_sem]<;>exact rfl) (Le.of_eq ?_) rfl
 simp
def cmpF (x y : Int) : Int:=if x < y then -1 else if x > y then 1 else 0
theorem cmpC_spec (x y : Int) : ACallsD Try.prog 81 [.i .i64 x,.i .i64 y] (.i .i64 (cmpF x y)):=by
 refine ACalls_of' (n:=20) (rs:=[.tmp 4]) (show Try.prog.funcs[81]? = some Try.f81 by kernel_rfl) rfl rfl rfl (by simp) (by decide +kernel) ?_
 repeat (first | refine nav ?_ | refine bo ?_)
 (refine wr fun K R hK hR=>?_;simp only [go_sem];(try go_ints);(repeat refine And.intro side ?_);(first|refine hK _ ?_|refine hR _ _ ?_);clear hK hR K R)
 repeat (first | refine nav ?_ | refine bo ?_)
 (refine wr fun K R hK hR=>?_;simp only [go_sem];(try go_ints);(repeat refine And.intro side ?_);(first|refine hK _ ?_|refine hR _ _ ?_);clear hK hR K R)
 refine RL_callF (isNaN_spec x) rfl rfl rfl (by simp only [go_sem]) rfl rfl ?_
 (refine rr fun K R hK hR=>?_;simp only [go_sem];(try go_ints);(repeat refine And.intro side ?_);(first|refine hK _ ?_|refine hR _ _ ?_);clear hK hR K R)
 repeat (first | refine nav ?_ | refine bo ?_)
 (refine wr fun K R hK hR=>?_;simp only [go_sem];(try go_ints);(repeat refine And.intro side ?_);(first|refine hK _ ?_|refine hR _ _ ?_);clear hK hR K R)
 refine RL_callF (isNaN_spec y) rfl rfl rfl (by simp only [go_sem]) rfl rfl ?_
 (refine rr fun K R hK hR=>?_;simp only [go_sem];(try go_ints);(repeat refine And.intro side ?_);(first|refine hK _ ?_|refine hR _ _ ?_);clear hK hR K R)
 repeat' (first | refine nav ?_ | refine bo ?_ | (refine wr fun K R hK hR=>?_;simp only [go_sem];(try go_ints);(repeat refine And.intro side ?_);(first|refine hK _ ?_|refine hR _ _ ?_);clear hK hR K R) | ((refine W_cond (by simp only [go_sem, *]<;>exact rfl) (fun hb=>?_) (fun hb=>?_))<;>(try exact Bool.noConfusion hb)))
 all_goals refine endQ_data (by simp only [go_sem]<;>exact rfl) (Le.of_eq ?_) rfl
 all_goals simp_all [cmpF]
 omega
def letterF (c : Int) : Bool:=decide (c ≥ 97) && decide (c ≤ 122) || decide (c ≥ 65) && decide (c ≤ 90)
theorem letter_spec (c : Int) : ACallsD Try.prog 67 [.i .u8 c] (.b (letterF c)):=by
 refine ACalls_of' (n:=17) (rs:=[.tmp 2]) (show Try.prog.funcs[67]? = some Try.f67 by kernel_rfl) rfl rfl rfl (by simp) (by decide +kernel) ?_
 repeat' (first | refine nav ?_ | refine bo ?_ | (refine wr fun K R hK hR=>?_;simp only [go_sem];(try go_ints);(repeat refine And.intro side ?_);(first|refine hK _ ?_|refine hR _ _ ?_);clear hK hR K R) | ((refine W_cond (by simp only [go_sem, *]<;>exact rfl) (fun hb=>?_) (fun hb=>?_))<;>(try exact Bool.noConfusion hb)))
 refine endQ_data (by simp only [go_sem]<;>exact rfl) (Le.of_eq ?_) rfl
 try rfl
def digitF (c : Int) : Bool:=decide (c ≥ 48) && decide (c ≤ 57)
theorem digit_spec (c : Int) : ACallsD Try.prog 69 [.i .u8 c] (.b (digitF c)):=by
 refine ACalls_of' (n:=9) (rs:=[.tmp 2]) (show Try.prog.funcs[69]? = some Try.f69 by kernel_rfl) rfl rfl rfl (by simp) (by decide +kernel) ?_
 repeat' (first | refine nav ?_ | refine bo ?_ | (refine wr fun K R hK hR=>?_;simp only [go_sem];(try go_ints);(repeat refine And.intro side ?_);(first|refine hK _ ?_|refine hR _ _ ?_);clear hK hR K R) | ((refine W_cond (by simp only [go_sem, *]<;>exact rfl) (fun hb=>?_) (fun hb=>?_))<;>(try exact Bool.noConfusion hb)))
 refine endQ_data (by simp only [go_sem]<;>exact rfl) (Le.of_eq ?_) rfl
 try rfl
def wordsL : List ByteArray:=[⟨#[97,110,100]⟩,⟨#[111,114]⟩,⟨#[110,111,116]⟩,⟨#[115,111,109,101]⟩,⟨#[97,108,108]⟩,⟨#[108,102,112]⟩,⟨#[112,102,112]⟩,⟨#[116,99]⟩,⟨#[101,120,105,115,116,115]⟩,⟨#[116,114,117,101]⟩,⟨#[102,97,108,115,101]⟩]
def wordF (x : ByteArray) : Bool:=wordsL.any fun w=>x.toList == w.toList
theorem word_spec (x : ByteArray) : ACallsD Try.prog 68 [.s x] (.b (wordF x)):=by
 refine ACalls_of' (n:=16) (rs:=[.tmp 2]) (show Try.prog.funcs[68]? = some Try.f68 by kernel_rfl) rfl rfl rfl (by simp) (by decide +kernel) ?_
 repeat' (first | refine nav ?_ | refine bo ?_ | (refine wr fun K R hK hR=>?_;simp only [go_sem];(try go_ints);(repeat refine And.intro side ?_);(first|refine hK _ ?_|refine hR _ _ ?_);clear hK hR K R) | ((refine W_cond (by simp only [go_sem, *]<;>exact rfl) (fun hb=>?_) (fun hb=>?_))<;>(try exact Bool.noConfusion hb)))
 all_goals refine endQ_data (by simp only [go_sem]<;>exact rfl) (Le.of_eq ?_) rfl
 all_goals simp only [wordF,wordsL,List.any_cons,List.any_nil,Bool.or_true,Bool.true_or,Bool.or_false,Bool.false_or, *]
def idxI {α : Type} (p : α → Bool) : List α → Int → Int
 | [],_=>-1
 | x :: r,k=>if p x then k else idxI p r (k + 1)
theorem idxI_any {α : Type} (p : α → Bool) : ∀ (l : List α) (k : Int),0 ≤ k → decide (idxI p l k ≥ 0) = l.any p
 | [],k,h=>by simp [idxI]
 | x :: r,k,h=>by
  simp only [idxI,List.any_cons]
  by_cases hp : p x = true
  ·simp [hp,h]
  ·simp only [hp,if_false,Bool.false_or,Bool.false_eq_true]
   exact idxI_any p r (k + 1) (by omega)
theorem idxI_get {α : Type} (p : α → Bool) : ∀ (l : List α) (k j : Nat),idxI p l k = j → k ≤ j ∧ ∃ x,l[j - k]? = some x ∧ p x = true
 | [],k,j,h=>by simp [idxI] at h
 | x :: r,k,j,h=>by
  simp only [idxI] at h
  split at h
  ·rename_i hp
   have : k = j:=by omega
   subst this
   exact ⟨Nat.le_refl _,x,by simp,hp⟩
  ·have : (k : Int) + 1 = ((k + 1 : Nat) : Int):=by omega
   rw [this] at h
   obtain ⟨h1,y,h2,h3⟩:=idxI_get p r (k + 1) j h
   refine ⟨by omega,y,?_,h3⟩
   rw [show j - k = (j - (k + 1)) + 1 by omega,List.getElem?_cons_succ]
   exact h2
theorem indexInt_spec {oc : List Ob} (ho : okO oc = true) {f : FuncId} {caps : List AV} (hc : caps.all (AV.ltk oc.length) = true) (hcd : caps.map AV.dat = caps) (p : Int → Bool) (l : List Int) (hl : l.length ≤ 1099511627776)
  (h : ∀ x ∈ l,ACallsQ Try.prog f (.i .i64 x :: caps) oc (.b (p x))) : ACallsQ Try.prog 87 [.sl 1 (ints l),.fn f caps] oc (.i .i64 (idxI p l 0)):=by
 refine ACalls_of' (n:=19) (rs:=[.tmp 4]) (show Try.prog.funcs[87]? = some Try.f87 by kernel_rfl) rfl rfl rfl (by simp) (by decide +kernel) ?_
 repeat (first | refine nav ?_ | refine bo ?_)
 (refine wr fun K R hK hR=>?_;simp only [go_sem];(try go_ints);(repeat refine And.intro side ?_);(first|refine hK _ ?_|refine hR _ _ ?_);clear hK hR K R)
 repeat (first | refine nav ?_ | refine bo ?_)
 (refine wr fun K R hK hR=>?_;simp only [go_sem];(try go_ints);(repeat refine And.intro side ?_);(first|refine hK _ ?_|refine hR _ _ ?_);clear hK hR K R)
 repeat (first | refine nav ?_ | refine bo ?_)
 refine W_for 8 19 [5] (fun m t o=>∃ k : Nat,oc = o ∧ t 8 = .i .i64 k ∧ m = l.length - k ∧ k ≤ l.length ∧ idxI p (l.drop k) k = idxI p l 0) l.length ⟨0,rfl,by simp only [go_sem]<;>rfl,by omega,Nat.zero_le _,by simp⟩ ?_
 rintro m t o ⟨k,rfl,h8,rfl,hk,hi⟩
 repeat (first | refine nav ?_ | refine bo ?_)
 (refine wr fun K R hK hR=>?_;simp only [go_sem,h8];(try go_ints);(try simp only [go_sem,h8]);(repeat refine And.intro side ?_);(first|refine hK _ ?_|refine hR _ _ ?_);clear hK hR K R)
 repeat (first | refine nav ?_ | refine bo ?_)
 refine W_cond (by simp only [go_sem]<;>exact rfl) (fun hb=>?_) (fun hb=>?_)
 ·simp at hb
  obtain ⟨x,hx⟩ : ∃ x,l[k]? = some x:=⟨_,List.getElem?_eq_getElem hb⟩
  rw [drop_cons hx,idxI] at hi
  repeat (first | refine nav ?_ | refine bo ?_)
  (refine wr fun K R hK hR=>?_;simp only [go_sem,h8];(try go_ints);(try simp only [go_sem,h8]);(repeat refine And.intro side ?_);(first|refine hK _ ?_|refine hR _ _ ?_);clear hK hR K R)
  repeat (first | refine nav ?_ | refine bo ?_)
  (refine wr fun K R hK hR=>?_;simp only [go_sem,h8,ints_get hx];(try go_ints);(try simp only [go_sem,h8,ints_get hx]);(repeat refine And.intro side ?_);(first|refine hK _ ?_|refine hR _ _ ?_);clear hK hR K R)
  refine RL_callQ (h x (List.mem_of_getElem? hx)) (by simp only [go_sem]<;>exact rfl) rfl rfl (by simp) (by simp only [go_sem,hcd]<;>exact LeA.refl _) ho ?_ rfl ?_
  ·simpa [AV.ltk] using hc
  (refine rr fun K R hK hR=>?_;simp only [go_sem];(try go_ints);(repeat refine And.intro side ?_);(first|refine hK _ ?_|refine hR _ _ ?_);clear hK hR K R)
  repeat (first | refine nav ?_ | refine bo ?_)
  refine W_cond (by simp only [go_sem]<;>exact rfl) (fun hb=>?_) (fun hb=>?_)
  ·rw [if_pos hb] at hi
   repeat (first | refine nav ?_ | refine bo ?_)
   (refine wr fun K R hK hR=>?_;simp only [go_sem];(try go_ints);(repeat refine And.intro side ?_);(first|refine hK _ ?_|refine hR _ _ ?_);clear hK hR K R)
   repeat (first | refine nav ?_ | refine bo ?_)
   refine endQ_quiet0 (by simp only [go_sem]<;>exact rfl) (Le.of_eq ?_) (by assumption) rfl
   rw [hi]
  ·rw [if_neg (by simp [hb])] at hi
   repeat (first | refine nav ?_ | refine bo ?_)
   (refine wr fun K R hK hR=>?_;simp only [go_sem,h8];(try go_ints);(try simp only [go_sem,h8]);(repeat refine And.intro side ?_);(first|refine hK _ ?_|refine hR _ _ ?_);clear hK hR K R)
   refine forQ_normal (l.length - (k + 1)) (by omega) ⟨k + 1,?_⟩
   ((try simp only [go_sem]);(repeat' refine And.intro ?_ ?_)<;>(try first | with_reducible rfl | omega | with_reducible assumption | (simp;done)))
   exact hi
 ·simp at hb
  have : k = l.length:=by omega
  subst this
  simp [idxI] at hi
  repeat (first | refine nav ?_ | refine bo ?_)
  (refine wr fun K R hK hR=>?_;simp only [go_sem];(try go_ints);(repeat refine And.intro side ?_);(first|refine hK _ ?_|refine hR _ _ ?_);clear hK hR K R)
  repeat (first | refine nav ?_ | refine bo ?_)
  refine endQ_quiet0 (by simp only [go_sem]<;>exact rfl) (Le.of_eq ?_) (by assumption) rfl
  rw [hi]
theorem containsInt_spec {oc : List Ob} (ho : okO oc = true) {f : FuncId} {caps : List AV} (hc : caps.all (AV.ltk oc.length) = true) (hcd : caps.map AV.dat = caps) (p : Int → Bool) (l : List Int) (hl : l.length ≤ 1099511627776)
  (h : ∀ x ∈ l,ACallsQ Try.prog f (.i .i64 x :: caps) oc (.b (p x))) : ACallsQ Try.prog 78 [.sl 1 (ints l),.fn f caps] oc (.b (l.any p)):=by
 refine ACalls_of' (n:=9) (rs:=[.tmp 4]) (show Try.prog.funcs[78]? = some Try.f78 by kernel_rfl) rfl rfl rfl (by simp) (by decide +kernel) ?_
 repeat (first | refine nav ?_ | refine bo ?_)
 (refine wr fun K R hK hR=>?_;simp only [go_sem];(try go_ints);(repeat refine And.intro side ?_);(first|refine hK _ ?_|refine hR _ _ ?_);clear hK hR K R)
 repeat (first | refine nav ?_ | refine bo ?_)
 (refine wr fun K R hK hR=>?_;simp only [go_sem];(try go_ints);(repeat refine And.intro side ?_);(first|refine hK _ ?_|refine hR _ _ ?_);clear hK hR K R)
 refine RL_callQ (indexInt_spec ho hc hcd p l hl h) (by simp only [go_sem]<;>exact rfl) rfl rfl (by simp) (by simp only [go_sem]) ho ?_ rfl ?_
 ·simpa [AV.ltk,ltks_all] using hc
 (refine rr fun K R hK hR=>?_;simp only [go_sem];(try go_ints);(repeat refine And.intro side ?_);(first|refine hK _ ?_|refine hR _ _ ?_);clear hK hR K R)
 repeat (first | refine nav ?_ | refine bo ?_)
 refine endQ_quiet0 (by simp only [go_sem]<;>exact rfl) (Le.of_eq ?_) (by assumption) rfl
 rw [idxI_any p l 0 (by omega)]
theorem elements_spec (n : Int) (l : List Int) (hl : l.length ≤ 1099511627776) : ACallsD Try.prog 70 [.i .i64 n,.sl 1 (ints l)] (.b (!l.any fun x=>decide (x < 0) || decide (x ≥ n))):=by
 refine ACalls_of' (n:=9) (rs:=[.tmp 4]) (show Try.prog.funcs[70]? = some Try.f70 by kernel_rfl) rfl rfl rfl (by simp) (by decide +kernel) ?_
 repeat (first | refine nav ?_ | refine bo ?_)
 (refine wr fun K R hK hR=>?_;simp only [go_sem];(try go_ints);(repeat refine And.intro side ?_);(first|refine hK _ ?_|refine hR _ _ ?_);clear hK hR K R)
 repeat (first | refine nav ?_ | refine bo ?_)
 (refine wr fun K R hK hR=>?_;simp only [go_sem];(try go_ints);(repeat refine And.intro side ?_);(first|refine hK _ ?_|refine hR _ _ ?_);clear hK hR K R)
 refine RL_callQ (containsInt_spec rfl rfl rfl _ l hl fun x _=>elements1_spec (i:=0) rfl rfl x) (by simp only [go_sem]<;>exact rfl) rfl rfl (by simp) (by simp only [go_sem]) rfl rfl rfl ?_
 (refine rr fun K R hK hR=>?_;simp only [go_sem];(try go_ints);(repeat refine And.intro side ?_);(first|refine hK _ ?_|refine hR _ _ ?_);clear hK hR K R)
 repeat (first | refine nav ?_ | refine bo ?_)
 refine endQ_data (by simp only [go_sem]<;>exact rfl) (Le.of_eq ?_) rfl
 rfl
def cmpL : List Int → List Int → Int
 | [],[]=>0
 | [],_ :: _=>-1
 | _ :: _,[]=>1
 | a :: l,b :: r=>if cmpF a b ≠ 0 then cmpF a b else cmpL l r
theorem compare_spec (a b : List Int) (ha : a.length ≤ 1099511627776) (hbl : b.length ≤ 1099511627776) : ACallsD Try.prog 71 [.sl 1 (ints a),.sl 1 (ints b)] (.i .i64 (cmpL a b)):=by
 refine ACalls_of' (n:=36) (rs:=[.tmp 4]) (show Try.prog.funcs[71]? = some Try.f71 by kernel_rfl) rfl rfl rfl (by simp) (by decide +kernel) ?_
 repeat (first | refine nav ?_ | refine bo ?_)
 (refine wr fun K R hK hR=>?_;simp only [go_sem];(try go_ints);(repeat refine And.intro side ?_);(first|refine hK _ ?_|refine hR _ _ ?_);clear hK hR K R)
 repeat (first | refine nav ?_ | refine bo ?_)
 (refine wr fun K R hK hR=>?_;simp only [go_sem];(try go_ints);(repeat refine And.intro side ?_);(first|refine hK _ ?_|refine hR _ _ ?_);clear hK hR K R)
 repeat (first | refine nav ?_ | refine bo ?_)
 refine W_for 11 31 [5,6,7,8] (fun m t o=>∃ k : Nat,[] = o ∧ t 11 = .i .i64 k ∧ m = a.length - k ∧ k ≤ a.length ∧ k ≤ b.length ∧ cmpL (a.drop k) (b.drop k) = cmpL a b) a.length ⟨0,rfl,by simp only [go_sem]<;>rfl,by omega,Nat.zero_le _,Nat.zero_le _,by simp⟩ ?_
 rintro m t o ⟨k,rfl,h11,rfl,hk,hkb,hi⟩
 repeat (first | refine nav ?_ | refine bo ?_)
 (refine wr fun K R hK hR=>?_;simp only [go_sem,h11];(try go_ints);(try simp only [go_sem,h11]);(repeat refine And.intro side ?_);(first|refine hK _ ?_|refine hR _ _ ?_);clear hK hR K R)
 repeat (first | refine nav ?_ | refine bo ?_)
 refine W_cond (by simp only [go_sem]<;>exact rfl) (fun hb=>?_) (fun hb=>?_)
 ·simp at hb
  obtain ⟨x,hx⟩ : ∃ x,a[k]? = some x:=⟨_,List.getElem?_eq_getElem hb⟩
  rw [drop_cons hx] at hi
  repeat (first | refine nav ?_ | refine bo ?_)
  (refine wr fun K R hK hR=>?_;simp only [go_sem,h11,ints_get hx];(try go_ints);(try simp only [go_sem,h11,ints_get hx]);(repeat refine And.intro side ?_);(first|refine hK _ ?_|refine hR _ _ ?_);clear hK hR K R)
  repeat (first | refine nav ?_ | refine bo ?_)
  (refine wr fun K R hK hR=>?_;simp only [go_sem];(try go_ints);(repeat refine And.intro side ?_);(first|refine hK _ ?_|refine hR _ _ ?_);clear hK hR K R)
  repeat (first | refine nav ?_ | refine bo ?_)
  refine W_cond (by simp only [go_sem]<;>exact rfl) (fun hc=>?_) (fun hc=>?_)
  ·simp at hc
   rw [List.drop_eq_nil_of_le hc,cmpL] at hi
   repeat (first | refine nav ?_ | refine bo ?_)
   (refine wr fun K R hK hR=>?_;simp only [go_sem];(try go_ints);(repeat refine And.intro side ?_);(first|refine hK _ ?_|refine hR _ _ ?_);clear hK hR K R)
   repeat (first | refine nav ?_ | refine bo ?_)
   refine endQ_data (by simp only [go_sem]<;>exact rfl) (Le.of_eq ?_) rfl
   rw [hi]
  ·simp at hc
   obtain ⟨y,hy⟩ : ∃ y,b[k]? = some y:=⟨_,List.getElem?_eq_getElem hc⟩
   rw [drop_cons hy,cmpL] at hi
   repeat (first | refine nav ?_ | refine bo ?_)
   (refine wr fun K R hK hR=>?_;simp only [go_sem,ints_get hy];(try go_ints);(try simp only [go_sem,ints_get hy]);(repeat refine And.intro side ?_);(first|refine hK _ ?_|refine hR _ _ ?_);clear hK hR K R)
   repeat (first | refine nav ?_ | refine bo ?_)
   (refine wr fun K R hK hR=>?_;simp only [go_sem];(try go_ints);(repeat refine And.intro side ?_);(first|refine hK _ ?_|refine hR _ _ ?_);clear hK hR K R)
   refine RL_callF (cmpC_spec x y) rfl rfl rfl (by simp only [go_sem]) rfl rfl ?_
   (refine rr fun K R hK hR=>?_;simp only [go_sem];(try go_ints);(repeat refine And.intro side ?_);(first|refine hK _ ?_|refine hR _ _ ?_);clear hK hR K R)
   repeat (first | refine nav ?_ | refine bo ?_)
   (refine wr fun K R hK hR=>?_;simp only [go_sem];(try go_ints);(repeat refine And.intro side ?_);(first|refine hK _ ?_|refine hR _ _ ?_);clear hK hR K R)
   repeat (first | refine nav ?_ | refine bo ?_)
   refine W_cond (by simp only [go_sem]<;>exact rfl) (fun hd=>?_) (fun hd=>?_)
   ·rw [if_pos (by simpa using hd)] at hi
    repeat (first | refine nav ?_ | refine bo ?_)
    (refine wr fun K R hK hR=>?_;simp only [go_sem];(try go_ints);(repeat refine And.intro side ?_);(first|refine hK _ ?_|refine hR _ _ ?_);clear hK hR K R)
    repeat (first | refine nav ?_ | refine bo ?_)
    refine endQ_data (by simp only [go_sem]<;>exact rfl) (Le.of_eq ?_) rfl
    rw [hi]
   ·rw [if_neg (by simpa using hd)] at hi
    repeat (first | refine nav ?_ | refine bo ?_)
    (refine wr fun K R hK hR=>?_;simp only [go_sem,h11];(try go_ints);(try simp only [go_sem,h11]);(repeat refine And.intro side ?_);(first|refine hK _ ?_|refine hR _ _ ?_);clear hK hR K R)
    refine forQ_normal (a.length - (k + 1)) (by omega) ⟨k + 1,?_⟩
    ((try simp only [go_sem]);(repeat' refine And.intro ?_ ?_)<;>(try first | with_reducible rfl | omega | with_reducible assumption | (simp;done)))
 ·simp at hb
  have : k = a.length:=by omega
  subst this
  rw [List.drop_length] at hi
  repeat (first | refine nav ?_ | refine bo ?_)
  (refine wr fun K R hK hR=>?_;simp only [go_sem];(try go_ints);(repeat refine And.intro side ?_);(first|refine hK _ ?_|refine hR _ _ ?_);clear hK hR K R)
  repeat (first | refine nav ?_ | refine bo ?_)
  refine W_cond (by simp only [go_sem]<;>exact rfl) (fun hc=>?_) (fun hc=>?_)
  ·simp at hc
   obtain ⟨y,hy⟩ : ∃ y,b[a.length]? = some y:=⟨_,List.getElem?_eq_getElem hc⟩
   rw [drop_cons hy,cmpL] at hi
   repeat (first | refine nav ?_ | refine bo ?_)
   (refine wr fun K R hK hR=>?_;simp only [go_sem];(try go_ints);(repeat refine And.intro side ?_);(first|refine hK _ ?_|refine hR _ _ ?_);clear hK hR K R)
   repeat (first | refine nav ?_ | refine bo ?_)
   refine endQ_data (by simp only [go_sem]<;>exact rfl) (Le.of_eq ?_) rfl
   rw [hi]
  ·simp at hc
   rw [List.drop_eq_nil_of_le (by omega),cmpL] at hi
   repeat (first | refine nav ?_ | refine bo ?_)
   (refine wr fun K R hK hR=>?_;simp only [go_sem];(try go_ints);(repeat refine And.intro side ?_);(first|refine hK _ ?_|refine hR _ _ ?_);clear hK hR K R)
   repeat (first | refine nav ?_ | refine bo ?_)
   refine endQ_data (by simp only [go_sem]<;>exact rfl) (Le.of_eq ?_) rfl
   rw [hi]
end Go.AW
namespace Go.AW
open Go Go.Proofs TyTry Go.IntWalk
set_option linter.unusedSimpArgs false
set_option linter.unusedVariables false
set_option maxRecDepth 10000
def powL (n most : Int) : Nat → Int → Int
 | 0,p=>p
 | k + 1,p=>if p * n > most then -1 else powL n most k (p * n)
theorem power_spec (n k : Int) (hn : 1 ≤ n) (hn2 : n ≤ 64) (hk : 0 ≤ k) (hk2 : k ≤ 12) : ACallsD Try.prog 47 [.i .i64 n,.i .i64 k,.i .i64 4096] (.i .i64 (powL n 4096 k.toNat 1)):=by
 obtain ⟨k,rfl⟩:=Int.eq_ofNat_of_zero_le hk
 rw [Int.toNat_natCast]
 refine ACalls_of' (n:=19) (rs:=[.tmp 6]) (show Try.prog.funcs[47]? = some Try.f47 by kernel_rfl) rfl rfl rfl (by simp) (by decide +kernel) ?_
 repeat (first | refine nav ?_ | refine bo ?_)
 (refine wr fun K R hK hR=>?_;simp only [go_sem];(try go_ints);(repeat refine And.intro side ?_);(first|refine hK _ ?_|refine hR _ _ ?_);clear hK hR K R)
 repeat (first | refine nav ?_ | refine bo ?_)
 (refine wr fun K R hK hR=>?_;simp only [go_sem];(try go_ints);(repeat refine And.intro side ?_);(first|refine hK _ ?_|refine hR _ _ ?_);clear hK hR K R)
 repeat (first | refine nav ?_ | refine bo ?_)
 (refine wr fun K R hK hR=>?_;simp only [go_sem];(try go_ints);(repeat refine And.intro side ?_);(first|refine hK _ ?_|refine hR _ _ ?_);clear hK hR K R)
 repeat (first | refine nav ?_ | refine bo ?_)
 refine W_for 9 19 [7] (fun m t o=>∃ (i : Nat) (p : Int),[] = o ∧ t 9 = .i .i64 i ∧ t 7 = .i .i64 p ∧ m = k - i ∧ i ≤ k ∧ 1 ≤ p ∧ p ≤ 4096 ∧ powL n 4096 (k - i) p = powL n 4096 k 1) k ⟨0,1,rfl,by simp only [go_sem]<;>rfl,by simp only [go_sem]<;>rfl,by omega,Nat.zero_le _,by omega,by omega,by simp⟩ ?_
 rintro m t o ⟨i,p,rfl,h9,h7,rfl,hik,hp1,hp2,hi⟩
 repeat (first | refine nav ?_ | refine bo ?_)
 (refine wr fun K R hK hR=>?_;simp only [go_sem,h9];(try go_ints);(try simp only [go_sem,h9]);(repeat refine And.intro side ?_);(first|refine hK _ ?_|refine hR _ _ ?_);clear hK hR K R)
 repeat (first | refine nav ?_ | refine bo ?_)
 refine W_cond (by simp only [go_sem]<;>exact rfl) (fun hb=>?_) (fun hb=>?_)
 ·simp at hb
  have hpn : 1 ≤ p * n ∧ p * n ≤ 262144:=by
   constructor
   ·have:=Int.mul_le_mul hp1 hn (by omega) (by omega);simpa using this
   ·have:=Int.mul_le_mul hp2 hn2 (by omega) (by omega);simpa using this
  rw [show k - i = (k - (i + 1)) + 1 by omega,powL] at hi
  repeat (first | refine nav ?_ | refine bo ?_)
  (refine wr fun K R hK hR=>?_;simp only [go_sem,h7];(try go_ints);(try simp only [go_sem,h7]);(repeat refine And.intro side ?_);(first|refine hK _ ?_|refine hR _ _ ?_);clear hK hR K R)
  repeat (first | refine nav ?_ | refine bo ?_)
  (refine wr fun K R hK hR=>?_;simp only [go_sem];(try go_ints);(repeat refine And.intro side ?_);(first|refine hK _ ?_|refine hR _ _ ?_);clear hK hR K R)
  repeat (first | refine nav ?_ | refine bo ?_)
  refine W_cond (by simp only [go_sem]<;>exact rfl) (fun hc=>?_) (fun hc=>?_)
  ·rw [if_pos (by simpa using hc)] at hi
   repeat (first | refine nav ?_ | refine bo ?_)
   (refine wr fun K R hK hR=>?_;simp only [go_sem];(try go_ints);(repeat refine And.intro side ?_);(first|refine hK _ ?_|refine hR _ _ ?_);clear hK hR K R)
   repeat (first | refine nav ?_ | refine bo ?_)
   refine endQ_data (by simp only [go_sem]<;>exact rfl) (Le.of_eq ?_) rfl
   rw [hi]
  ·rw [if_neg (by simpa using hc)] at hi
   simp at hc
   repeat (first | refine nav ?_ | refine bo ?_)
   (refine wr fun K R hK hR=>?_;simp only [go_sem,h9];(try go_ints);(try simp only [go_sem,h9]);(repeat refine And.intro side ?_);(first|refine hK _ ?_|refine hR _ _ ?_);clear hK hR K R)
   refine forQ_normal (k - (i + 1)) (by omega) ⟨i + 1,p * n,?_⟩
   ((try simp only [go_sem]);(repeat' refine And.intro ?_ ?_)<;>(try first | with_reducible rfl | omega | with_reducible assumption | (simp;done)))
 ·simp at hb
  have : i = k:=by omega
  subst this
  rw [Nat.sub_self,powL] at hi
  repeat (first | refine nav ?_ | refine bo ?_)
  (refine wr fun K R hK hR=>?_;simp only [go_sem,h7];(try go_ints);(try simp only [go_sem,h7]);(repeat refine And.intro side ?_);(first|refine hK _ ?_|refine hR _ _ ?_);clear hK hR K R)
  repeat (first | refine nav ?_ | refine bo ?_)
  refine endQ_data (by simp only [go_sem]<;>exact rfl) (Le.of_eq ?_) rfl
  rw [hi]
def chF (x : ByteArray) (i : Nat) : Int:=((x.data.getD i 0).toNat : Int)
def nameF (x : ByteArray) : Bool:=decide (1 ≤ x.size) && decide (x.size ≤ 12) && letterF (chF x 0) && !wordF x && (List.range x.size).all fun i=>letterF (chF x i) || digitF (chF x i)
theorem size_zero (x : ByteArray) : (x.toList == (⟨#[]⟩ : ByteArray).toList) = decide (x.size = 0):=by
 rw [ByteArray.toList_eq,ByteArray.toList_eq]
 have : x.size = x.data.toList.length:=by rw [Array.length_toList];rfl
 rw [this]
 cases h : x.data.toList<;>simp
theorem name_spec (x : ByteArray) (hx : x.size ≤ 1099511627776) : ACallsD Try.prog 46 [.s x] (.b (nameF x)):=by
 refine ACalls_of' (n:=39) (rs:=[.tmp 2]) (show Try.prog.funcs[46]? = some Try.f46 by kernel_rfl) rfl rfl rfl (by simp) (by decide +kernel) ?_
 repeat (first | refine nav ?_ | refine bo ?_)
 (refine wr fun K R hK hR=>?_;simp only [go_sem];(try go_ints);(repeat refine And.intro side ?_);(first|refine hK _ ?_|refine hR _ _ ?_);clear hK hR K R)
 repeat (first | refine nav ?_ | refine bo ?_)
 (refine wr fun K R hK hR=>?_;simp only [go_sem,size_zero];(try go_ints);(try simp only [go_sem,size_zero]);(repeat refine And.intro side ?_);(first|refine hK _ ?_|refine hR _ _ ?_);clear hK hR K R)
 refine RL_callDg rfl (by simp only [go_sem]<;>exact rfl) (fun e=>letter_spec (chF x 0)) rfl rfl rfl (fun e=>by (try simp only [go_sem] at e);simp only [go_sem,e]<;>(try simp only [go_sem,chF])<;>first | exact LeA.refl _ | exact Le.refl _) rfl rfl ?_
 (refine rr fun K R hK hR=>?_;simp only [go_sem];(try go_ints);(repeat refine And.intro side ?_);(first|refine hK _ ?_|refine hR _ _ ?_);clear hK hR K R)
 refine RL_callDg rfl (by simp only [go_sem]<;>exact rfl) (fun e=>word_spec x) rfl rfl rfl (fun e=>by (try simp only [go_sem] at e);simp only [go_sem,e]<;>(try simp only [go_sem])<;>first | exact LeA.refl _ | exact Le.refl _) rfl rfl ?_
 (refine rr fun K R hK hR=>?_;simp only [go_sem];(try go_ints);(repeat refine And.intro side ?_);(first|refine hK _ ?_|refine hR _ _ ?_);clear hK hR K R)
 repeat (first | refine nav ?_ | refine bo ?_)
 refine W_cond (by simp only [go_sem]<;>exact rfl) (fun hb=>?_) (fun hb=>?_)
 ·simp only [Bool.or_eq_true,decide_eq_true_eq,Bool.not_eq_true'] at hb
  repeat (first | refine nav ?_ | refine bo ?_)
  (refine wr fun K R hK hR=>?_;simp only [go_sem];(try go_ints);(repeat refine And.intro side ?_);(first|refine hK _ ?_|refine hR _ _ ?_);clear hK hR K R)
  repeat (first | refine nav ?_ | refine bo ?_)
  refine endQ_data (by simp only [go_sem]<;>exact rfl) (Le.of_eq ?_) rfl
  rcases hb with ((hb | hb) | hb) | hb<;>simp [nameF,hb]
  all_goals (intros;omega)
 ·simp only [Bool.or_eq_false_iff,decide_eq_false_iff_not,Bool.not_eq_false'] at hb
  obtain ⟨⟨⟨h1,h2⟩,h3⟩,h4⟩:=hb
  repeat (first | refine nav ?_ | refine bo ?_)
  (refine wr fun K R hK hR=>?_;simp only [go_sem];(try go_ints);(repeat refine And.intro side ?_);(first|refine hK _ ?_|refine hR _ _ ?_);clear hK hR K R)
  repeat (first | refine nav ?_ | refine bo ?_)
  refine W_for 23 39 [3] (fun m t o=>∃ k : Nat,[] = o ∧ t 23 = .i .i64 k ∧ m = x.size - k ∧ k ≤ x.size ∧ ∀ i < k,(letterF (chF x i) || digitF (chF x i)) = true) x.size ⟨0,rfl,by simp only [go_sem]<;>rfl,by omega,Nat.zero_le _,by simp⟩ ?_
  rintro m t o ⟨k,rfl,h23,rfl,hk,hi⟩
  repeat (first | refine nav ?_ | refine bo ?_)
  (refine wr fun K R hK hR=>?_;simp only [go_sem,h23];(try go_ints);(try simp only [go_sem,h23]);(repeat refine And.intro side ?_);(first|refine hK _ ?_|refine hR _ _ ?_);clear hK hR K R)
  repeat (first | refine nav ?_ | refine bo ?_)
  refine W_cond (by simp only [go_sem]<;>exact rfl) (fun hb=>?_) (fun hb=>?_)
  ·simp at hb
   repeat (first | refine nav ?_ | refine bo ?_)
   (refine wr fun K R hK hR=>?_;simp only [go_sem,h23];(try go_ints);(try simp only [go_sem,h23]);(repeat refine And.intro side ?_);(first|refine hK _ ?_|refine hR _ _ ?_);clear hK hR K R)
   repeat (first | refine nav ?_ | refine bo ?_)
   (refine wr fun K R hK hR=>?_;simp only [go_sem,h23];(try go_ints);(try simp only [go_sem,h23]);(repeat refine And.intro side ?_);(first|refine hK _ ?_|refine hR _ _ ?_);clear hK hR K R)
   refine RL_callF (letter_spec (chF x k)) rfl rfl rfl (by first | (simp only [go_sem,chF]<;>first | exact LeA.refl _ | exact Le.refl _) | exact LeA.refl _) rfl rfl ?_
   (refine rr fun K R hK hR=>?_;simp only [go_sem];(try go_ints);(repeat refine And.intro side ?_);(first|refine hK _ ?_|refine hR _ _ ?_);clear hK hR K R)
   refine RL_callDg rfl (by simp only [go_sem]<;>exact rfl) (fun e=>digit_spec (chF x k)) rfl rfl rfl (fun e=>by (try simp only [go_sem] at e);simp only [go_sem,e]<;>(try simp only [go_sem,chF])<;>first | exact LeA.refl _ | exact Le.refl _) rfl rfl ?_
   (refine rr fun K R hK hR=>?_;simp only [go_sem];(try go_ints);(repeat refine And.intro side ?_);(first|refine hK _ ?_|refine hR _ _ ?_);clear hK hR K R)
   repeat (first | refine nav ?_ | refine bo ?_)
   refine W_cond (by simp only [go_sem]<;>exact rfl) (fun hc=>?_) (fun hc=>?_)
   ·simp at hc
    repeat (first | refine nav ?_ | refine bo ?_)
    (refine wr fun K R hK hR=>?_;simp only [go_sem];(try go_ints);(repeat refine And.intro side ?_);(first|refine hK _ ?_|refine hR _ _ ?_);clear hK hR K R)
    repeat (first | refine nav ?_ | refine bo ?_)
    refine endQ_data (by simp only [go_sem]<;>exact rfl) (Le.of_eq ?_) rfl
    simp [nameF]
    intros
    exact ⟨k,hb,by simp [hc]⟩
   ·repeat (first | refine nav ?_ | refine bo ?_)
    (refine wr fun K R hK hR=>?_;simp only [go_sem,h23];(try go_ints);(try simp only [go_sem,h23]);(repeat refine And.intro side ?_);(first|refine hK _ ?_|refine hR _ _ ?_);clear hK hR K R)
    refine forQ_normal (x.size - (k + 1)) (by omega) ⟨k + 1,?_⟩
    ((try simp only [go_sem]);(repeat' refine And.intro ?_ ?_)<;>(try first | with_reducible rfl | omega | with_reducible assumption | (simp;done)))
    intro i hik
    rcases Nat.lt_succ_iff_lt_or_eq.1 hik with h | rfl
    ·exact hi i h
    ·simp at hc
     cases h : letterF (chF x i)<;>simp_all
  ·simp at hb
   have : k = x.size:=by omega
   subst this
   repeat (first | refine nav ?_ | refine bo ?_)
   (refine wr fun K R hK hR=>?_;simp only [go_sem];(try go_ints);(repeat refine And.intro side ?_);(first|refine hK _ ?_|refine hR _ _ ?_);clear hK hR K R)
   repeat (first | refine nav ?_ | refine bo ?_)
   refine endQ_data (by simp only [go_sem]<;>exact rfl) (Le.of_eq ?_) rfl
   simp only [nameF,h3,h4,AV.b.injEq]
   have a1 : decide (1 ≤ x.size) = true:=by simp;omega
   have a2 : decide (x.size ≤ 12) = true:=by simp;omega
   rw [a1,a2]
   simp
   intro i hlt
   simpa using hi i hlt
end Go.AW
namespace Go.AW
open Go Go.Proofs TyTry Go.IntWalk
set_option linter.unusedSimpArgs false
set_option linter.unusedVariables false
set_option maxRecDepth 10000
theorem indexRel_spec {oc : List Ob} (ho : okO oc = true) {f : FuncId} {caps : List AV} (hc : caps.all (AV.ltk oc.length) = true) (hcd : caps.map AV.dat = caps) (p : RelD → Bool) (l : List RelD) (hl : l.length ≤ 1099511627776)
  (h : ∀ x ∈ l,ACallsQ Try.prog f (.agg [.s x.name,.i .i64 x.arity,.sl 1 (tups x.tuples)] :: caps) oc (.b (p x))) : ACallsQ Try.prog 51 [.sl 3 (rels l),.fn f caps] oc (.i .i64 (idxI p l 0)):=by
 refine ACalls_of' (n:=19) (rs:=[.tmp 4]) (show Try.prog.funcs[51]? = some Try.f51 by kernel_rfl) rfl rfl rfl (by simp) (by decide +kernel) ?_
 repeat (first | refine nav ?_ | refine bo ?_)
 (refine wr fun K R hK hR=>?_;simp only [go_sem];(try go_ints);(repeat refine And.intro side ?_);(first|refine hK _ ?_|refine hR _ _ ?_);clear hK hR K R)
 repeat (first | refine nav ?_ | refine bo ?_)
 (refine wr fun K R hK hR=>?_;simp only [go_sem];(try go_ints);(repeat refine And.intro side ?_);(first|refine hK _ ?_|refine hR _ _ ?_);clear hK hR K R)
 repeat (first | refine nav ?_ | refine bo ?_)
 refine W_for 8 19 [5] (fun m t o=>∃ k : Nat,oc = o ∧ t 8 = .i .i64 k ∧ m = l.length - k ∧ k ≤ l.length ∧ idxI p (l.drop k) k = idxI p l 0) l.length ⟨0,rfl,by simp only [go_sem]<;>rfl,by omega,Nat.zero_le _,by simp⟩ ?_
 rintro m t o ⟨k,rfl,h8,rfl,hk,hi⟩
 repeat (first | refine nav ?_ | refine bo ?_)
 (refine wr fun K R hK hR=>?_;simp only [go_sem,h8];(try go_ints);(try simp only [go_sem,h8]);(repeat refine And.intro side ?_);(first|refine hK _ ?_|refine hR _ _ ?_);clear hK hR K R)
 repeat (first | refine nav ?_ | refine bo ?_)
 refine W_cond (by simp only [go_sem]<;>exact rfl) (fun hb=>?_) (fun hb=>?_)
 ·simp at hb
  obtain ⟨x,hx⟩ : ∃ x,l[k]? = some x:=⟨_,List.getElem?_eq_getElem hb⟩
  rw [drop_cons hx,idxI] at hi
  repeat (first | refine nav ?_ | refine bo ?_)
  (refine wr fun K R hK hR=>?_;simp only [go_sem,h8];(try go_ints);(try simp only [go_sem,h8]);(repeat refine And.intro side ?_);(first|refine hK _ ?_|refine hR _ _ ?_);clear hK hR K R)
  repeat (first | refine nav ?_ | refine bo ?_)
  (refine wr fun K R hK hR=>?_;simp only [go_sem,h8,rels_get hx];(try go_ints);(try simp only [go_sem,h8,rels_get hx]);(repeat refine And.intro side ?_);(first|refine hK _ ?_|refine hR _ _ ?_);clear hK hR K R)
  refine RL_callQ (h x (List.mem_of_getElem? hx)) (by simp only [go_sem]<;>exact rfl) rfl rfl (by simp) (by simp only [go_sem,hcd]<;>exact LeA.refl _) ho ?_ rfl ?_
  ·simpa [AV.ltk,AV.ltks] using hc
  (refine rr fun K R hK hR=>?_;simp only [go_sem];(try go_ints);(repeat refine And.intro side ?_);(first|refine hK _ ?_|refine hR _ _ ?_);clear hK hR K R)
  repeat (first | refine nav ?_ | refine bo ?_)
  refine W_cond (by simp only [go_sem]<;>exact rfl) (fun hb=>?_) (fun hb=>?_)
  ·rw [if_pos hb] at hi
   repeat (first | refine nav ?_ | refine bo ?_)
   (refine wr fun K R hK hR=>?_;simp only [go_sem];(try go_ints);(repeat refine And.intro side ?_);(first|refine hK _ ?_|refine hR _ _ ?_);clear hK hR K R)
   repeat (first | refine nav ?_ | refine bo ?_)
   refine endQ_quiet0 (by simp only [go_sem]<;>exact rfl) (Le.of_eq ?_) (by assumption) rfl
   rw [hi]
  ·rw [if_neg (by simp [hb])] at hi
   repeat (first | refine nav ?_ | refine bo ?_)
   (refine wr fun K R hK hR=>?_;simp only [go_sem,h8];(try go_ints);(try simp only [go_sem,h8]);(repeat refine And.intro side ?_);(first|refine hK _ ?_|refine hR _ _ ?_);clear hK hR K R)
   refine forQ_normal (l.length - (k + 1)) (by omega) ⟨k + 1,?_⟩
   ((try simp only [go_sem]);(repeat' refine And.intro ?_ ?_)<;>(try first | with_reducible rfl | omega | with_reducible assumption | (simp;done)))
   exact hi
 ·simp at hb
  have : k = l.length:=by omega
  subst this
  simp [idxI] at hi
  repeat (first | refine nav ?_ | refine bo ?_)
  (refine wr fun K R hK hR=>?_;simp only [go_sem];(try go_ints);(repeat refine And.intro side ?_);(first|refine hK _ ?_|refine hR _ _ ?_);clear hK hR K R)
  repeat (first | refine nav ?_ | refine bo ?_)
  refine endQ_quiet0 (by simp only [go_sem]<;>exact rfl) (Le.of_eq ?_) (by assumption) rfl
  rw [hi]
theorem containsRel_spec {oc : List Ob} (ho : okO oc = true) {f : FuncId} {caps : List AV} (hc : caps.all (AV.ltk oc.length) = true) (hcd : caps.map AV.dat = caps) (p : RelD → Bool) (l : List RelD) (hl : l.length ≤ 1099511627776)
  (h : ∀ x ∈ l,ACallsQ Try.prog f (.agg [.s x.name,.i .i64 x.arity,.sl 1 (tups x.tuples)] :: caps) oc (.b (p x))) : ACallsQ Try.prog 49 [.sl 3 (rels l),.fn f caps] oc (.b (l.any p)):=by
 refine ACalls_of' (n:=9) (rs:=[.tmp 4]) (show Try.prog.funcs[49]? = some Try.f49 by kernel_rfl) rfl rfl rfl (by simp) (by decide +kernel) ?_
 repeat (first | refine nav ?_ | refine bo ?_)
 (refine wr fun K R hK hR=>?_;simp only [go_sem];(try go_ints);(repeat refine And.intro side ?_);(first|refine hK _ ?_|refine hR _ _ ?_);clear hK hR K R)
 repeat (first | refine nav ?_ | refine bo ?_)
 (refine wr fun K R hK hR=>?_;simp only [go_sem];(try go_ints);(repeat refine And.intro side ?_);(first|refine hK _ ?_|refine hR _ _ ?_);clear hK hR K R)
 refine RL_callQ (indexRel_spec ho hc hcd p l hl h) (by simp only [go_sem]<;>exact rfl) rfl rfl (by simp) (by simp only [go_sem]) ho ?_ rfl ?_
 ·simpa [AV.ltk,ltks_all] using hc
 (refine rr fun K R hK hR=>?_;simp only [go_sem];(try go_ints);(repeat refine And.intro side ?_);(first|refine hK _ ?_|refine hR _ _ ?_);clear hK hR K R)
 repeat (first | refine nav ?_ | refine bo ?_)
 refine endQ_quiet0 (by simp only [go_sem]<;>exact rfl) (Le.of_eq ?_) (by assumption) rfl
 rw [idxI_any p l 0 (by omega)]
theorem valid1_spec {oc : List Ob} (ho : okO oc = true) {i : Nat} {r : RelD} (hi : oc[i]? = some (.cells 3 [[.s r.name,.i .i64 r.arity,.sl 1 (tups r.tuples)]])) (q : RelD) :
  ACallsQ Try.prog 50 [.agg [.s q.name,.i .i64 q.arity,.sl 1 (tups q.tuples)],.ptr i 0 0] oc (.b (q.name.toList == r.name.toList)):=by
 have hi':=fun l=>app_get l hi
 refine ACalls_of' (n:=9) (rs:=[.tmp 3]) (show Try.prog.funcs[50]? = some Try.f50 by kernel_rfl) rfl rfl rfl (by simp) (by decide +kernel) ?_
 repeat (first | refine nav ?_ | refine bo ?_)
 (refine wr fun K R hK hR=>?_;simp only [go_sem];(try go_ints);(repeat refine And.intro side ?_);(first|refine hK _ ?_|refine hR _ _ ?_);clear hK hR K R)
 repeat (first | refine nav ?_ | refine bo ?_)
 (refine wr fun K R hK hR=>?_;simp only [go_sem,hi'];(try go_ints);(try simp only [go_sem,hi']);(repeat refine And.intro side ?_);(first|refine hK _ ?_|refine hR _ _ ?_);clear hK hR K R)
 repeat (first | refine nav ?_ | refine bo ?_)
 refine endQ_quiet (by simp only [go_sem]<;>exact rfl) (Le.of_eq ?_) (by assumption) rfl
 rfl
def tupOk (n a : Int) (l : List (List Int)) (i : Nat) : Bool :=
 let t:=l.getD i []
 ((t.length : Int) == a) && !(t.any fun x=>decide (x < 0) || decide (x ≥ n)) && (decide (i = 0) || decide (cmpL (l.getD (i - 1) []) t < 0))
def tuplesF (n a : Int) (l : List (List Int)) : Bool:=(List.range l.length).all (tupOk n a l)
structure RelD.Ok (r : RelD) : Prop where
 name : r.name.size ≤ 1099511627776
 len : r.tuples.length ≤ 1099511627776
 tup : ∀ t ∈ r.tuples,t.length ≤ 1099511627776
theorem tuples_spec (n : Int) (r : RelD) (hr : r.Ok) : ACallsD Try.prog 48 [.i .i64 n,.agg [.s r.name,.i .i64 r.arity,.sl 1 (tups r.tuples)]] (.b (tuplesF n r.arity r.tuples)):=by
 refine ACalls_of' (n:=42) (rs:=[.tmp 4]) (show Try.prog.funcs[48]? = some Try.f48 by kernel_rfl) rfl rfl rfl (by simp) (by decide +kernel) ?_
 repeat (first | refine nav ?_ | refine bo ?_)
 (refine wr fun K R hK hR=>?_;simp only [go_sem];(try go_ints);(repeat refine And.intro side ?_);(first|refine hK _ ?_|refine hR _ _ ?_);clear hK hR K R)
 repeat (first | refine nav ?_ | refine bo ?_)
 (refine wr fun K R hK hR=>?_;simp only [go_sem];(try go_ints);(repeat refine And.intro side ?_);(first|refine hK _ ?_|refine hR _ _ ?_);clear hK hR K R)
 repeat (first | refine nav ?_ | refine bo ?_)
 refine W_for 10 42 [5,6] (fun m t o=>∃ k : Nat,[Ob.cells 3 [[.s r.name,.i .i64 r.arity,.sl 1 (tups r.tuples)]]] = o ∧ t 10 = .i .i64 k ∧ m = r.tuples.length - k ∧ k ≤ r.tuples.length ∧ ∀ i < k,tupOk n r.arity r.tuples i = true) r.tuples.length ⟨0,rfl,by simp only [go_sem]<;>rfl,by omega,Nat.zero_le _,by simp⟩ ?_
 rintro m t o ⟨k,rfl,h10,rfl,hk,hi⟩
 have hlen:=hr.len
 repeat (first | refine nav ?_ | refine bo ?_)
 (refine wr fun K R hK hR=>?_;simp only [go_sem,h10];(try go_ints);(try simp only [go_sem,h10]);(repeat refine And.intro side ?_);(first|refine hK _ ?_|refine hR _ _ ?_);clear hK hR K R)
 repeat (first | refine nav ?_ | refine bo ?_)
 refine W_cond (by simp only [go_sem]<;>exact rfl) (fun hb=>?_) (fun hb=>?_)
 ·simp at hb
  obtain ⟨x,hx⟩ : ∃ x,r.tuples[k]? = some x:=⟨_,List.getElem?_eq_getElem hb⟩
  have hxl:=hr.tup x (List.mem_of_getElem? hx)
  repeat (first | refine nav ?_ | refine bo ?_)
  (refine wr fun K R hK hR=>?_;simp only [go_sem,h10,tups_get hx];(try go_ints);(try simp only [go_sem,h10,tups_get hx]);(repeat refine And.intro side ?_);(first|refine hK _ ?_|refine hR _ _ ?_);clear hK hR K R)
  repeat (first | refine nav ?_ | refine bo ?_)
  (refine wr fun K R hK hR=>?_;simp only [go_sem,h10];(try go_ints);(try simp only [go_sem,h10]);(repeat refine And.intro side ?_);(first|refine hK _ ?_|refine hR _ _ ?_);clear hK hR K R)
  have e1 : ((k : Int) - 1).toNat = k - 1:=by omega
  obtain ⟨y,hy⟩ : ∃ y,r.tuples[k - 1]? = some y:=⟨_,List.getElem?_eq_getElem (by omega)⟩
  have hyl:=hr.tup y (List.mem_of_getElem? hy)
  refine RL_callDg rfl (by simp only [go_sem]<;>exact rfl) (fun e=>elements_spec n x hxl) rfl rfl rfl (fun e=>by (try simp only [go_sem] at e);simp only [go_sem,e]<;>(try simp only [go_sem])<;>first | exact LeA.refl _ | exact Le.refl _) rfl rfl ?_
  (refine rr fun K R hK hR=>?_;simp only [go_sem,e1,tups_get hy];(try go_ints);(try simp only [go_sem,e1,tups_get hy]);(repeat refine And.intro side ?_);(first|refine hK _ ?_|refine hR _ _ ?_);clear hK hR K R)
  refine RL_callDg rfl (by simp only [go_sem]<;>exact rfl) (fun e=>compare_spec y x hyl hxl) rfl rfl rfl (fun e=>by (try simp only [go_sem] at e);simp only [go_sem,e]<;>(try simp only [go_sem])<;>first | exact LeA.refl _ | exact Le.refl _) rfl rfl ?_
  (refine rr fun K R hK hR=>?_;simp only [go_sem];(try go_ints);(repeat refine And.intro side ?_);(first|refine hK _ ?_|refine hR _ _ ?_);clear hK hR K R)
  have hspec : tupOk n r.arity r.tuples k = (((x.length : Int) == r.arity) && !(x.any fun x=>decide (x < 0) || decide (x ≥ n)) && (decide (k = 0) || decide (cmpL y x < 0))):=by
   simp only [tupOk,List.getD_eq_getElem?_getD,hx,hy,Option.getD_some]
  have hk0 : decide ((k : Int) > 0) = !decide (k = 0):=by
   by_cases h : k = 0
   ·simp [h]
   ·simp [h];omega
  have hcm : decide (cmpL y x ≥ 0) = !decide (cmpL y x < 0):=by
   by_cases h : cmpL y x < 0
   ·simp [h]
   ·simp [h];omega
  repeat (first | refine nav ?_ | refine bo ?_)
  refine W_cond (by simp only [go_sem]<;>exact rfl) (fun hc=>?_) (fun hc=>?_)
  ·rw [hk0,hcm] at hc
   have hno : tupOk n r.arity r.tuples k = false:=by
    rw [hspec]
    revert hc
    simp only [bne]
    cases ((x.length : Int) == r.arity)<;>cases (x.any fun x=>decide (x < 0) || decide (x ≥ n))<;>cases decide (k = 0)<;>cases decide (cmpL y x < 0)<;>simp
   repeat (first | refine nav ?_ | refine bo ?_)
   (refine wr fun K R hK hR=>?_;simp only [go_sem];(try go_ints);(repeat refine And.intro side ?_);(first|refine hK _ ?_|refine hR _ _ ?_);clear hK hR K R)
   repeat (first | refine nav ?_ | refine bo ?_)
   refine endQ_data (by simp only [go_sem]<;>exact rfl) (Le.of_eq ?_) rfl
   rw [AV.b.injEq,eq_comm,tuplesF,List.all_eq_false]
   exact ⟨k,by simpa using hb,by simp [hno]⟩
  ·rw [hk0,hcm] at hc
   have hyes : tupOk n r.arity r.tuples k = true:=by
    rw [hspec]
    revert hc
    simp only [bne]
    cases ((x.length : Int) == r.arity)<;>cases (x.any fun x=>decide (x < 0) || decide (x ≥ n))<;>cases decide (k = 0)<;>cases decide (cmpL y x < 0)<;>simp
   repeat (first | refine nav ?_ | refine bo ?_)
   (refine wr fun K R hK hR=>?_;simp only [go_sem,h10];(try go_ints);(try simp only [go_sem,h10]);(repeat refine And.intro side ?_);(first|refine hK _ ?_|refine hR _ _ ?_);clear hK hR K R)
   refine forQ_normal (r.tuples.length - (k + 1)) (by omega) ⟨k + 1,?_⟩
   ((try simp only [go_sem]);(repeat' refine And.intro ?_ ?_)<;>(try first | with_reducible rfl | omega | with_reducible assumption | (simp;done)))
   intro i hik
   rcases Nat.lt_succ_iff_lt_or_eq.1 hik with h | rfl
   ·exact hi i h
   ·exact hyes
 ·simp at hb
  have : k = r.tuples.length:=by omega
  subst this
  repeat (first | refine nav ?_ | refine bo ?_)
  (refine wr fun K R hK hR=>?_;simp only [go_sem];(try go_ints);(repeat refine And.intro side ?_);(first|refine hK _ ?_|refine hR _ _ ?_);clear hK hR K R)
  repeat (first | refine nav ?_ | refine bo ?_)
  refine endQ_data (by simp only [go_sem]<;>exact rfl) (Le.of_eq ?_) rfl
  rw [AV.b.injEq,eq_comm,tuplesF,List.all_eq_true]
  exact fun i hi'=>hi i (by simpa using hi')
structure StrD.Ok (s : StrD) : Prop where
 len : s.rels.length ≤ 1099511627776
 rel : ∀ r ∈ s.rels,r.Ok
def relOk (n : Int) (r : RelD) : Bool:=nameF r.name && decide (0 ≤ r.arity) && decide (r.arity ≤ 12) && decide (powL n 4096 r.arity.toNat 1 ≥ 0) && tuplesF n r.arity r.tuples
def validF (s : StrD) : Bool:=decide (1 ≤ s.size) && decide (s.size ≤ 64) && decide (s.rels.length ≤ 8) && (List.range s.rels.length).all fun i =>
 match s.rels[i]? with
 | some r=>relOk s.size r && !(s.rels.take i).any fun q=>q.name.toList == r.name.toList
 | none=>true
theorem valid_spec (s : StrD) (hs : s.Ok) : ACallsD Try.prog 35 [.agg [.i .i64 s.size,.sl 3 (rels s.rels)]] (.b (validF s)):=by
 refine ACalls_of' (n:=63) (rs:=[.tmp 2]) (show Try.prog.funcs[35]? = some Try.f35 by kernel_rfl) rfl rfl rfl (by simp) (by decide +kernel) ?_
 repeat (first | refine nav ?_ | refine bo ?_)
 (refine wr fun K R hK hR=>?_;simp only [go_sem];(try go_ints);(repeat refine And.intro side ?_);(first|refine hK _ ?_|refine hR _ _ ?_);clear hK hR K R)
 repeat (first | refine nav ?_ | refine bo ?_)
 (refine wr fun K R hK hR=>?_;simp only [go_sem];(try go_ints);(repeat refine And.intro side ?_);(first|refine hK _ ?_|refine hR _ _ ?_);clear hK hR K R)
 repeat (first | refine nav ?_ | refine bo ?_)
 refine W_cond (by simp only [go_sem]<;>exact rfl) (fun hb=>?_) (fun hb=>?_)
 ·simp only [Bool.or_eq_true,Bool.and_eq_true,Bool.not_eq_true',Bool.not_eq_false',Bool.and_eq_false_iff,Bool.or_eq_false_iff,decide_eq_true_eq,decide_eq_false_iff_not,Bool.not_eq_eq_eq_not,Bool.not_true,Bool.not_false] at hb
  repeat (first | refine nav ?_ | refine bo ?_)
  (refine wr fun K R hK hR=>?_;simp only [go_sem];(try go_ints);(repeat refine And.intro side ?_);(first|refine hK _ ?_|refine hR _ _ ?_);clear hK hR K R)
  repeat (first | refine nav ?_ | refine bo ?_)
  refine endQ_data (by simp only [go_sem]<;>exact rfl) (Le.of_eq ?_) rfl
  rw [AV.b.injEq,eq_comm,validF]
  rcases hb with (hb | hb) | hb
  ·rw [decide_eq_false (show ¬ 1 ≤ s.size by omega)];simp
  ·rw [decide_eq_false (show ¬ s.size ≤ 64 by omega)];simp
  ·rw [decide_eq_false (show ¬ s.rels.length ≤ 8 by omega)];simp
 ·simp only [Bool.or_eq_true,Bool.and_eq_true,Bool.not_eq_true',Bool.not_eq_false',Bool.and_eq_false_iff,Bool.or_eq_false_iff,decide_eq_true_eq,decide_eq_false_iff_not,Bool.not_eq_eq_eq_not,Bool.not_true,Bool.not_false] at hb
  obtain ⟨⟨hb1,hb2⟩,hb3⟩:=hb
  repeat (first | refine nav ?_ | refine bo ?_)
  (refine wr fun K R hK hR=>?_;simp only [go_sem];(try go_ints);(repeat refine And.intro side ?_);(first|refine hK _ ?_|refine hR _ _ ?_);clear hK hR K R)
  repeat (first | refine nav ?_ | refine bo ?_)
  refine W_for 22 63 [3,4] (fun m t o=>∃ k : Nat,okO o = true ∧ o[0]? = some (.cells 2 [[.i .i64 s.size,.sl 3 (rels s.rels)]]) ∧ t 22 = .i .i64 k ∧ m = s.rels.length - k ∧ k ≤ s.rels.length ∧ ∀ i < k,∀ r,s.rels[i]? = some r → (relOk s.size r && !(s.rels.take i).any fun q=>q.name.toList == r.name.toList) = true) s.rels.length ⟨0,rfl,rfl,by simp only [go_sem]<;>rfl,by omega,Nat.zero_le _,by simp⟩ ?_
  rintro m t o ⟨k,hok,h0,h22,rfl,hk,hi⟩
  have h0':=fun l=>app_get l h0
  repeat (first | refine nav ?_ | refine bo ?_)
  (refine wr fun K R hK hR=>?_;simp only [go_sem,h22];(try go_ints);(try simp only [go_sem,h22]);(repeat refine And.intro side ?_);(first|refine hK _ ?_|refine hR _ _ ?_);clear hK hR K R)
  repeat (first | refine nav ?_ | refine bo ?_)
  refine W_cond (by simp only [go_sem]<;>exact rfl) (fun hb=>?_) (fun hb=>?_)
  ·simp at hb
   obtain ⟨r,hr⟩ : ∃ r,s.rels[k]? = some r:=⟨_,List.getElem?_eq_getElem hb⟩
   have hro:=hs.rel r (List.mem_of_getElem? hr)
   repeat (first | refine nav ?_ | refine bo ?_)
   (refine wr fun K R hK hR=>?_;simp only [go_sem,h22,rels_get hr];(try go_ints);(try simp only [go_sem,h22,rels_get hr]);(repeat refine And.intro side ?_);(first|refine hK _ ?_|refine hR _ _ ?_);clear hK hR K R)
   repeat (first | refine nav ?_ | refine bo ?_)
   (refine wr fun K R hK hR=>?_;simp only [go_sem];(try go_ints);(repeat refine And.intro side ?_);(first|refine hK _ ?_|refine hR _ _ ?_);clear hK hR K R)
   refine RL_callF (name_spec r.name hro.name) rfl rfl rfl (by first | (simp only [go_sem]<;>first | exact LeA.refl _ | exact Le.refl _) | exact LeA.refl _) rfl rfl ?_
   (refine rr fun K R hK hR=>?_;simp only [go_sem,h0'];(try go_ints);(try simp only [go_sem,h0']);(repeat refine And.intro side ?_);(first|refine hK _ ?_|refine hR _ _ ?_);clear hK hR K R)
   refine RL_callDg rfl (by simp only [go_sem]<;>exact rfl) (fun e=>power_spec s.size r.arity (by omega) (by omega) (by have:=e;simp at this;omega) (by have:=e;simp at this;omega)) rfl rfl rfl (fun e=>by (try simp only [go_sem] at e);simp only [go_sem,e]<;>(try simp only [go_sem])<;>first | exact LeA.refl _ | exact Le.refl _) rfl rfl ?_
   (refine rr fun K R hK hR=>?_;simp only [go_sem,h0'];(try go_ints);(try simp only [go_sem,h0']);(repeat refine And.intro side ?_);(first|refine hK _ ?_|refine hR _ _ ?_);clear hK hR K R)
   refine RL_callDg rfl (by simp only [go_sem]<;>exact rfl) (fun e=>tuples_spec s.size r hro) rfl rfl rfl (fun e=>by (try simp only [go_sem] at e);simp only [go_sem,e]<;>(try simp only [go_sem])<;>first | exact LeA.refl _ | exact Le.refl _) rfl rfl ?_
   (refine rr fun K R hK hR=>?_;simp only [go_sem];(try go_ints);(repeat refine And.intro side ?_);(first|refine hK _ ?_|refine hR _ _ ?_);clear hK hR K R)
   have hcm : decide (powL s.size 4096 r.arity.toNat 1 < 0) = !decide (powL s.size 4096 r.arity.toNat 1 ≥ 0):=by
    by_cases h : powL s.size 4096 r.arity.toNat 1 < 0
    ·simp [h]
    ·simp [h];omega
   have hc1 : decide (r.arity < 0) = !decide (0 ≤ r.arity):=by
    by_cases h : r.arity < 0
    ·simp [h]
    ·simp [h];omega
   have hc2 : decide (r.arity > 12) = !decide (r.arity ≤ 12):=by
    by_cases h : r.arity > 12
    ·simp [h]
    ·simp [h];omega
   repeat (first | refine nav ?_ | refine bo ?_)
   refine W_cond (by simp only [go_sem,hcm,hc1,hc2]<;>exact rfl) (fun hc=>?_) (fun hc=>?_)
   ·have hno : relOk s.size r = false:=by
     rw [relOk]
     revert hc
     cases nameF r.name<;>cases decide (0 ≤ r.arity)<;>cases decide (r.arity ≤ 12)<;>cases decide (powL s.size 4096 r.arity.toNat 1 ≥ 0)<;>cases tuplesF s.size r.arity r.tuples<;>simp
    repeat (first | refine nav ?_ | refine bo ?_)
    (refine wr fun K R hK hR=>?_;simp only [go_sem];(try go_ints);(repeat refine And.intro side ?_);(first|refine hK _ ?_|refine hR _ _ ?_);clear hK hR K R)
    repeat (first | refine nav ?_ | refine bo ?_)
    refine endQ_data (by simp only [go_sem]<;>exact rfl) (Le.of_eq ?_) rfl
    rw [AV.b.injEq,eq_comm,validF]
    simp only [Bool.and_eq_false_iff]
    right
    rw [List.all_eq_false]
    exact ⟨k,by simpa using hb,by simp [hr,hno]⟩
   ·have hyes : relOk s.size r = true:=by
     rw [relOk]
     revert hc
     cases nameF r.name<;>cases decide (0 ≤ r.arity)<;>cases decide (r.arity ≤ 12)<;>cases decide (powL s.size 4096 r.arity.toNat 1 ≥ 0)<;>cases tuplesF s.size r.arity r.tuples<;>simp
    repeat (first | refine nav ?_ | refine bo ?_)
    (refine wr fun K R hK hR=>?_;simp only [go_sem,h0',rels_take];(try go_ints);(try simp only [go_sem,h0',rels_take]);(repeat refine And.intro side ?_);(first|refine hK _ ?_|refine hR _ _ ?_);clear hK hR K R)
    have hok2 : okO (o ++ [.cells 3 [[.s r.name,.i .i64 r.arity,.sl 1 (tups r.tuples)]]]) = true:=okO_app hok rfl
    refine RL_callQ (containsRel_spec hok2 (by simp [AV.ltk]) rfl (fun q=>q.name.toList == r.name.toList) (s.rels.take k) (by rw [List.length_take];have:=hs.len;omega) fun q _=>valid1_spec (i:=o.length) hok2 (by simp) q) (by simp only [go_sem]<;>exact rfl) rfl rfl (by simp) (by simp only [go_sem]) hok2 (by simp [AV.ltk,AV.ltks]) rfl ?_
    (refine rr fun K R hK hR=>?_;simp only [go_sem];(try go_ints);(repeat refine And.intro side ?_);(first|refine hK _ ?_|refine hR _ _ ?_);clear hK hR K R)
    repeat (first | refine nav ?_ | refine bo ?_)
    refine W_cond (by simp only [go_sem]<;>exact rfl) (fun hd=>?_) (fun hd=>?_)
    ·repeat (first | refine nav ?_ | refine bo ?_)
     (refine wr fun K R hK hR=>?_;simp only [go_sem];(try go_ints);(repeat refine And.intro side ?_);(first|refine hK _ ?_|refine hR _ _ ?_);clear hK hR K R)
     repeat (first | refine nav ?_ | refine bo ?_)
     refine endQ_data (by simp only [go_sem]<;>exact rfl) (Le.of_eq ?_) rfl
     rw [AV.b.injEq,eq_comm,validF]
     simp only [Bool.and_eq_false_iff]
     right
     rw [List.all_eq_false]
     exact ⟨k,by simpa using hb,by simp only [hr,hd];simp⟩
    ·repeat (first | refine nav ?_ | refine bo ?_)
     (refine wr fun K R hK hR=>?_;simp only [go_sem,h22];(try go_ints);(try simp only [go_sem,h22]);(repeat refine And.intro side ?_);(first|refine hK _ ?_|refine hR _ _ ?_);clear hK hR K R)
     refine forQ_normal (s.rels.length - (k + 1)) (by omega) ⟨k + 1,hok2,h0' _,?_⟩
     ((try simp only [go_sem]);(repeat' refine And.intro ?_ ?_)<;>(try first | with_reducible rfl | omega | with_reducible assumption | (simp;done)))
     intro i hik r' hr'
     rcases Nat.lt_succ_iff_lt_or_eq.1 hik with h | rfl
     ·exact hi i h r' hr'
     ·rw [hr] at hr'
      obtain rfl:=Option.some.inj hr'
      rw [hyes,hd];rfl
  ·simp at hb
   have : k = s.rels.length:=by omega
   subst this
   repeat (first | refine nav ?_ | refine bo ?_)
   (refine wr fun K R hK hR=>?_;simp only [go_sem];(try go_ints);(repeat refine And.intro side ?_);(first|refine hK _ ?_|refine hR _ _ ?_);clear hK hR K R)
   repeat (first | refine nav ?_ | refine bo ?_)
   refine endQ_data (by simp only [go_sem]<;>exact rfl) (Le.of_eq ?_) rfl
   rw [AV.b.injEq,eq_comm,validF,decide_eq_true (show 1 ≤ s.size by omega),decide_eq_true (show s.size ≤ 64 by omega),decide_eq_true (show s.rels.length ≤ 8 by omega)]
   simp only [Bool.true_and]
   rw [List.all_eq_true]
   intro i hi'
   have hlt : i < s.rels.length:=by simpa using hi'
   rw [List.getElem?_eq_getElem hlt]
   exact hi i hlt _ (List.getElem?_eq_getElem hlt)
end Go.AW
namespace Go.AW
open Go Go.Proofs TyTry Go.IntWalk
set_option linter.unusedSimpArgs false
set_option linter.unusedVariables false
set_option maxRecDepth 10000
mutual
theorem unref_ltk {id sz : Nat} {rows : List (List AV)} {k : Nat} (hk : k ≤ id) : ∀ (a : AV),a.ltk k = true → a.unref id sz rows = a
 | .ref j _ _,h=>by
  simp only [AV.ltk,decide_eq_true_eq] at h
  simp only [AV.unref]
  rw [if_neg]
  omega
 | .fn _ l,h=>by simp only [AV.ltk] at h;simp only [AV.unref,unrefs_ltk hk l h]
 | .agg l,h=>by simp only [AV.ltk] at h;simp only [AV.unref,unrefs_ltk hk l h]
 | .tup l,h=>by simp only [AV.ltk] at h;simp only [AV.unref,unrefs_ltk hk l h]
 | .ifc _ v,h=>by simp only [AV.ltk] at h;simp only [AV.unref,unref_ltk hk v h]
 | .bm _ v,h=>by simp only [AV.ltk] at h;simp only [AV.unref,unref_ltk hk v h]
 | .gd _ v,h=>by simp only [AV.ltk] at h;simp only [AV.unref,unref_ltk hk v h]
 | .any,_ | .b _,_ | .i _ _,_ | .s _,_ | .sl _ _,_ | .own _ _,_ | .ep _ _,_ | .nilp,_ | .nilm,_ | .nsl,_ | .esl,_ | .nilf,_ | .nili,_ | .ptr _ _ _,_ | .mp _,_=>rfl
theorem unrefs_ltk {id sz : Nat} {rows : List (List AV)} {k : Nat} (hk : k ≤ id) : ∀ (l : List AV),AV.ltks k l = true → AV.unrefs id sz rows l = l
 | [],_=>rfl
 | a :: l,h=>by
  simp only [AV.ltks,Bool.and_eq_true] at h
  simp only [AV.unrefs,unref_ltk hk a h.1,unrefs_ltk hk l h.2]
end
theorem Ob.unref_ltk {id sz : Nat} {rows : List (List AV)} {k : Nat} (hk : k ≤ id) (x : Ob) (h : x.ltk k = true) : x.unref id sz rows = x:=by
 cases x with
 | cells s rs =>
  simp only [Ob.ltk,List.all_eq_true] at h
  simp only [Ob.unref,Ob.cells.injEq,true_and]
  conv=>rhs;rw [← List.map_id rs]
  refine List.map_congr_left fun r hr=>?_
  conv=>rhs;rw [show (_root_.id r) = r from rfl,← List.map_id r]
  exact List.map_congr_left fun a ha=>AW.unref_ltk hk a (h r hr a ha)
 | mapo es =>
  simp only [Ob.ltk,List.all_eq_true,Bool.and_eq_true] at h
  simp only [Ob.unref,Ob.mapo.injEq]
  conv=>rhs;rw [← List.map_id es]
  refine List.map_congr_left fun x hx=>?_
  rw [AW.unref_ltk hk _ (h x hx).1,AW.unref_ltk hk _ (h x hx).2];rfl
 | _=>rfl
theorem ints_set (l : List Int) (p : Nat) (b : Int) : (ints l).modify p (fun row=>row.set 0 (.i .i64 b)) = ints (l.set p b):=by
 apply List.ext_getElem?
 intro i
 simp only [ints,List.getElem?_modify,List.getElem?_map,List.getElem?_set]
 by_cases hi : p = i
 ·subst hi
  cases h : l[p]? with
  | none=>have:=List.getElem?_eq_none_iff.1 h;simp;omega
  | some x=>have:=(List.getElem?_eq_some_iff.1 h).1;simp [this]
 ·simp [hi]
theorem frS_last {o : List Ob} {t : Nat → AV} {rows : List (List AV)} (ho : okO o = true) (hd : rows.map (fun r=>r.map AV.dat) = rows) :
  frS o.length 1 rows ⟨t,o ++ [.cells 1 rows]⟩ = ⟨fun k=>(t k).unref o.length 1 rows,o ++ [.frz 1 rows]⟩:=by
 simp only [frS,hd,app_set,List.map_append,List.map_cons,List.map_nil,Ob.unref,St.mk.injEq,true_and]
 congr 1
 conv=>rhs;rw [← List.map_id o]
 refine List.map_congr_left fun x hx=>?_
 unfold okO at ho
 rw [List.all_eq_true] at ho
 exact Ob.unref_ltk (Nat.le_refl _) x (ho x hx)
def tab (l : List (Nat × AV)) : Nat → AV:=fun k=>match l.find? (fun x=>x.1 == k) with | some x=>x.2 | none=>.any
theorem tab_le {t : Nat → AV} {l : List (Nat × AV)} (h : ∀ x ∈ l,t x.1 = x.2) (k : Nat) : Le (t k) (tab l k):=by
 unfold tab
 cases hf : l.find? (fun x=>x.1 == k) with
 | none=>exact Le.any _
 | some x =>
  have h1:=List.find?_some hf
  have h2:=List.mem_of_find?_eq_some hf
  simp only [beq_iff_eq] at h1
  rw [← h1,h x h2]
  exact Le.refl _
@[go_sem] theorem tab_cons (j : Nat) (v : AV) (l : List (Nat × AV)) (k : Nat) : tab ((j,v) :: l) k = if j = k then v else tab l k:=by
 unfold tab
 rw [List.find?_cons]
 by_cases h : j = k
 ·simp [h]
 ·have : (j == k) = false:=by simpa using h
  simp [h,this]
@[go_sem] theorem tab_nil (k : Nat) : tab [] k = .any:=rfl
theorem tab_mix {t : Nat → AV} {lo hi : Nat} {L : List Nat} {l l0 : List (Nat × AV)} (h : ∀ x ∈ l,t x.1 = x.2) (h0 : ∀ x ∈ l0,t x.1 = x.2) (k : Nat) : Le (t k) (mix lo hi L (tab l) (tab l0) k):=by
 simp only [mix]
 split
 ·exact tab_le h k
 ·exact tab_le h0 k
theorem W_forM {P : Program} {n : Nat} {Q : Exit → St → Prop} {c : Code} (lo hi : Nat) (L : List Nat) (I : Nat → (Nat → AV) → List Ob → Prop) (m : Nat) {t1 t0 : Nat → AV} {o0 : List Ob} (h0 : I m t1 o0)
  (round : ∀ m t o,I m t o → W P n c (forQ lo hi L t0 I m Q) ⟨mix lo hi L t t0,o⟩) : W P n (.loop c) Q ⟨mix lo hi L t1 t0,o0⟩:=by
 refine W_while (fun m s=>∃ t,s.t = mix lo hi L t t0 ∧ I m t s.o) m ⟨t1,rfl,h0⟩ ?_
 rintro m ⟨ts,o⟩ ⟨t,ht,hI⟩
 simp only at ht
 subst ht
 refine (round m t o hI).mono ?_
 intro e s h
 cases e with
 | normal =>
  obtain ⟨m',t',h1,h2,h3⟩:=h
  exact ⟨m',h1,t',h2,h3⟩
 | _=>exact h
end Go.AW
namespace Go.AW
open Go Go.Proofs TyTry Go.IntWalk
set_option linter.unusedSimpArgs false
set_option linter.unusedVariables false
set_option maxRecDepth 10000
set_option maxHeartbeats 1000000
theorem find1_spec {oc : List Ob} (ho : okO oc = true) {i j : Nat} {name : ByteArray} {arity : Int} (hi : oc[i]? = some (.cells 1 [[.s name]])) (hj : oc[j]? = some (.cells 1 [[.i .i64 arity]])) (q : RelD) :
  ACallsQ Try.prog 52 [.agg [.s q.name,.i .i64 q.arity,.sl 1 (tups q.tuples)],.ptr i 0 0,.ptr j 0 0] oc (.b (q.name.toList == name.toList && (q.arity == arity))):=by
 have hi':=fun l=>app_get l hi
 have hj':=fun l=>app_get l hj
 refine ACalls_of' (n:=15) (rs:=[.tmp 4]) (show Try.prog.funcs[52]? = some Try.f52 by kernel_rfl) rfl rfl rfl (by simp) (by decide +kernel) ?_
 repeat (first | refine nav ?_ | refine bo ?_)
 (refine wr fun K R hK hR=>?_;simp only [go_sem];(try go_ints);(repeat refine And.intro side ?_);(first|refine hK _ ?_|refine hR _ _ ?_);clear hK hR K R)
 repeat (first | refine nav ?_ | refine bo ?_)
 (refine wr fun K R hK hR=>?_;simp only [go_sem,hi',hj'];(try go_ints);(try simp only [go_sem,hi',hj']);(repeat refine And.intro side ?_);(first|refine hK _ ?_|refine hR _ _ ?_);clear hK hR K R)
 repeat (first | refine nav ?_ | refine bo ?_)
 refine endQ_quiet (by simp only [go_sem]<;>exact rfl) (Le.of_eq ?_) (by assumption) rfl
 rfl
def findF (s : StrD) (name : ByteArray) (w : Int) : Int:=idxI (fun q=>q.name.toList == name.toList && (q.arity == w)) s.rels 0
theorem find_spec (s : StrD) (hs : s.rels.length ≤ 1000000) (name : ByteArray) (w : Int) : ACallsD Try.prog 36 [.agg s.cells,.s name,.i .i64 w] (.i .i64 (findF s name w)):=by
 have hsx : s.cells = [.i .i64 s.size,.sl 3 (rels s.rels)]:=rfl
 rw [hsx]
 refine ACalls_of' (n:=11) (rs:=[.tmp 6]) (show Try.prog.funcs[36]? = some Try.f36 by kernel_rfl) rfl rfl rfl (by simp) (by decide +kernel) ?_
 repeat (first | refine nav ?_ | refine bo ?_)
 (refine wr fun K R hK hR=>?_;simp only [go_sem];(try go_ints);(repeat refine And.intro side ?_);(first|refine hK _ ?_|refine hR _ _ ?_);clear hK hR K R)
 repeat (first | refine nav ?_ | refine bo ?_)
 (refine wr fun K R hK hR=>?_;simp only [go_sem];(try go_ints);(repeat refine And.intro side ?_);(first|refine hK _ ?_|refine hR _ _ ?_);clear hK hR K R)
 refine RL_callQ (indexRel_spec (by rfl) (by simp [AV.ltk]) rfl (fun q=>q.name.toList == name.toList && (q.arity == w)) s.rels (by omega) fun q _=>find1_spec (i:=1) (j:=2) (by rfl) (by rfl) (by rfl) q) (by simp only [go_sem]<;>exact rfl) rfl rfl (by simp) (by simp only [go_sem]) (by rfl) (by simp [AV.ltk,AV.ltks]) rfl ?_
 (refine rr fun K R hK hR=>?_;simp only [go_sem];(try go_ints);(repeat refine And.intro side ?_);(first|refine hK _ ?_|refine hR _ _ ?_);clear hK hR K R)
 repeat (first | refine nav ?_ | refine bo ?_)
 refine endQ_data (by simp only [go_sem]<;>exact rfl) (Le.of_eq ?_) rfl
 rfl
theorem powL_eq (n : Nat) (hn : 1 ≤ n) : ∀ (k p : Nat),p ≤ 4096 → powL n 4096 k p = if p * n ^ k ≤ 4096 then ((p * n ^ k : Nat) : Int) else -1
 | 0,p,hp=>by simp [powL,hp]
 | k + 1,p,hp=>by
  rw [powL]
  have e : p * n ^ (k + 1) = p * n * n ^ k:=by rw [Nat.pow_succ,Nat.mul_comm (n ^ k) n,Nat.mul_assoc]
  have hk : 1 ≤ n ^ k:=Nat.one_le_pow _ _ hn
  have hle : p * n ≤ p * n * n ^ k:=Nat.le_mul_of_pos_right _ hk
  by_cases h : p * n ≤ 4096
  ·rw [if_neg (by rw [← Int.natCast_mul];omega),← Int.natCast_mul,powL_eq n hn k (p * n) h,e]
  ·rw [if_pos (by rw [← Int.natCast_mul];omega),e,if_neg (by omega)]
theorem powL_one (n : Nat) (hn : 1 ≤ n) (k : Nat) : powL n 4096 k 1 = if n ^ k ≤ 4096 then ((n ^ k : Nat) : Int) else -1:=by
 have:=powL_eq n hn k 1 (by omega)
 simpa using this
def powerF (n k : Int) : Int × Int:=if n < 1 ∨ n > 64 ∨ k < 0 ∨ k > 12 then (0,2) else if powL n 4096 k.toNat 1 < 0 then (0,5) else (powL n 4096 k.toNat 1,0)
theorem power2_spec (n k : Int) : ACallsD Try.prog 53 [.i .i64 n,.i .i64 k] (.tup [.i .i64 (powerF n k).1,.i .i64 (powerF n k).2]):=by
 unfold powerF
 refine ACalls_of' (n:=27) (rs:=[.tmp 4,.tmp 5]) (show Try.prog.funcs[53]? = some Try.f53 by kernel_rfl) rfl rfl rfl (by simp) (by decide +kernel) ?_
 repeat (first | refine nav ?_ | refine bo ?_)
 (refine wr fun K R hK hR=>?_;simp only [go_sem];(try go_ints);(repeat refine And.intro side ?_);(first|refine hK _ ?_|refine hR _ _ ?_);clear hK hR K R)
 repeat (first | refine nav ?_ | refine bo ?_)
 (refine wr fun K R hK hR=>?_;simp only [go_sem];(try go_ints);(repeat refine And.intro side ?_);(first|refine hK _ ?_|refine hR _ _ ?_);clear hK hR K R)
 repeat (first | refine nav ?_ | refine bo ?_)
 refine W_cond (by simp only [go_sem]<;>exact rfl) (fun hb=>?_) (fun hb=>?_)
 ·simp only [Bool.or_eq_true,Bool.and_eq_true,Bool.not_eq_true',Bool.not_eq_false',Bool.and_eq_false_iff,Bool.or_eq_false_iff,decide_eq_true_eq,decide_eq_false_iff_not,Bool.not_eq_eq_eq_not,Bool.not_true,Bool.not_false] at hb
  rw [if_pos (by omega)]
  repeat (first | refine nav ?_ | refine bo ?_)
  (refine wr fun K R hK hR=>?_;simp only [go_sem];(try go_ints);(repeat refine And.intro side ?_);(first|refine hK _ ?_|refine hR _ _ ?_);clear hK hR K R)
  repeat (first | refine nav ?_ | refine bo ?_)
  refine endQ_data (by simp only [go_sem]<;>exact rfl) (Le.of_eq ?_) rfl
  rfl
 ·simp only [Bool.or_eq_true,Bool.and_eq_true,Bool.not_eq_true',Bool.not_eq_false',Bool.and_eq_false_iff,Bool.or_eq_false_iff,decide_eq_true_eq,decide_eq_false_iff_not,Bool.not_eq_eq_eq_not,Bool.not_true,Bool.not_false] at hb
  obtain ⟨⟨⟨h1,h2⟩,h3⟩,h4⟩:=hb
  rw [if_neg (by omega)]
  repeat (first | refine nav ?_ | refine bo ?_)
  (refine wr fun K R hK hR=>?_;simp only [go_sem];(try go_ints);(repeat refine And.intro side ?_);(first|refine hK _ ?_|refine hR _ _ ?_);clear hK hR K R)
  refine RL_callF (power_spec n k (by omega) (by omega) (by omega) (by omega)) rfl rfl rfl (by first | (simp only [go_sem]<;>first | exact LeA.refl _ | exact Le.refl _) | exact LeA.refl _) rfl rfl ?_
  (refine rr fun K R hK hR=>?_;simp only [go_sem];(try go_ints);(repeat refine And.intro side ?_);(first|refine hK _ ?_|refine hR _ _ ?_);clear hK hR K R)
  repeat (first | refine nav ?_ | refine bo ?_)
  (refine wr fun K R hK hR=>?_;simp only [go_sem];(try go_ints);(repeat refine And.intro side ?_);(first|refine hK _ ?_|refine hR _ _ ?_);clear hK hR K R)
  repeat (first | refine nav ?_ | refine bo ?_)
  refine W_cond (by simp only [go_sem]<;>exact rfl) (fun hb=>?_) (fun hb=>?_)
  ·rw [if_pos (by simpa using hb)]
   repeat (first | refine nav ?_ | refine bo ?_)
   (refine wr fun K R hK hR=>?_;simp only [go_sem];(try go_ints);(repeat refine And.intro side ?_);(first|refine hK _ ?_|refine hR _ _ ?_);clear hK hR K R)
   repeat (first | refine nav ?_ | refine bo ?_)
   refine endQ_data (by simp only [go_sem]<;>exact rfl) (Le.of_eq ?_) rfl
   rfl
  ·rw [if_neg (by simpa using hb)]
   repeat (first | refine nav ?_ | refine bo ?_)
   (refine wr fun K R hK hR=>?_;simp only [go_sem];(try go_ints);(repeat refine And.intro side ?_);(first|refine hK _ ?_|refine hR _ _ ?_);clear hK hR K R)
   repeat (first | refine nav ?_ | refine bo ?_)
   refine endQ_data (by simp only [go_sem]<;>exact rfl) (Le.of_eq ?_) rfl
   rfl
def digs (n : Nat) : Nat → Nat → List Int
 | 0,_=>[]
 | k + 1,r=>digs n k (r / n) ++ [((r % n : Nat) : Int)]
theorem digs_len (n : Nat) : ∀ k r,(digs n k r).length = k
 | 0,_=>rfl
 | k + 1,r=>by simp [digs,digs_len n k]
theorem ints_rep (j : Nat) (x : Int) (l : List Int) : (ints (List.replicate (j + 1) 0 ++ l)).modify j (fun row=>row.set 0 (.i .i64 x)) = ints (List.replicate j 0 ++ x :: l):=by
 have : (ints (List.replicate (j + 1) 0 ++ l)) = (ints (List.replicate j 0 ++ 0 :: l)):=by rw [List.replicate_succ',List.append_assoc];rfl
 rw [this]
 simp only [ints,List.map_append,List.map_cons,List.map_replicate]
 rw [List.modify_eq_take_cons_drop (by simp)]
 simp [List.drop_append]
theorem tuple_spec (n k r : Nat) (hn : 1 ≤ n) (hn2 : n ≤ 64) (hk : k ≤ 12) (hr : (r : Int) < powL n 4096 k 1) : ACallsD Try.prog 73 [.i .i64 n,.i .i64 k,.i .i64 r] (.tup [.sl 1 (ints (digs n k r)),.i .i64 0]):=by
 have hpw : powerF n k = (powL n 4096 k 1,0):=by
  unfold powerF
  rw [if_neg (by omega),Int.toNat_natCast,if_neg (by omega)]
 have hp:=power2_spec n k
 rw [hpw] at hp
 refine ACalls_of' (n:=46) (rs:=[.tmp 6,.tmp 7]) (show Try.prog.funcs[73]? = some Try.f73 by kernel_rfl) rfl rfl rfl (by simp) (by decide +kernel) ?_
 repeat (first | refine nav ?_ | refine bo ?_)
 (refine wr fun K R hK hR=>?_;simp only [go_sem];(try go_ints);(repeat refine And.intro side ?_);(first|refine hK _ ?_|refine hR _ _ ?_);clear hK hR K R)
 repeat (first | refine nav ?_ | refine bo ?_)
 (refine wr fun K R hK hR=>?_;simp only [go_sem];(try go_ints);(repeat refine And.intro side ?_);(first|refine hK _ ?_|refine hR _ _ ?_);clear hK hR K R)
 refine RL_callF (hp) rfl rfl rfl (by first | (simp only [go_sem]<;>first | exact LeA.refl _ | exact Le.refl _) | exact LeA.refl _) rfl rfl ?_
 (refine rr fun K R hK hR=>?_;simp only [go_sem];(try go_ints);(repeat refine And.intro side ?_);(first|refine hK _ ?_|refine hR _ _ ?_);clear hK hR K R)
 repeat (first | refine nav ?_ | refine bo ?_)
 (refine wr fun K R hK hR=>?_;simp only [go_sem];(try go_ints);(repeat refine And.intro side ?_);(first|refine hK _ ?_|refine hR _ _ ?_);clear hK hR K R)
 repeat (first | refine nav ?_ | refine bo ?_)
 refine W_cond (b:=false) (by simp only [go_sem]<;>rfl) (fun hb=>by cases hb) (fun _=>?_)
 repeat (first | refine nav ?_ | refine bo ?_)
 (refine wr fun K R hK hR=>?_;simp only [go_sem];(try go_ints);(repeat refine And.intro side ?_);(first|refine hK _ ?_|refine hR _ _ ?_);clear hK hR K R)
 repeat (first | refine nav ?_ | refine bo ?_)
 refine W_cond (b:=false) (by simp only [go_sem]<;>simp<;>omega) (fun hb=>by cases hb) (fun _=>?_)
 repeat (first | refine nav ?_ | refine bo ?_)
 (refine wr fun K R hK hR=>?_;simp only [go_sem];(try go_ints);(repeat refine And.intro side ?_);(first|refine hK _ ?_|refine hR _ _ ?_);clear hK hR K R)
 repeat (first | refine nav ?_ | refine bo ?_)
 (refine wr fun K R hK hR=>?_;simp only [go_sem];(try go_ints);(repeat refine And.intro side ?_);(first|refine hK _ ?_|refine hR _ _ ?_);clear hK hR K R)
 repeat (first | refine nav ?_ | refine bo ?_)
 have hr4 : r ≤ 4096:=by
  have hpb : powL n 4096 k 1 ≤ 4096:=by rw [powL_one n hn];split<;>omega
  omega
 clear hr hp hpw
 refine W_weak (s':=⟨tab [(2,.i .i64 r),(0,.i .i64 n),(10,.ref 0 0 k),(11,.i .i64 ((k : Int) - 1))],[.cells 1 (ints (List.replicate k 0))]⟩) (tab_le fun y hy=>?_) ?_ ?_
 ·simp only [List.mem_cons,List.not_mem_nil,or_false] at hy
  rcases hy with rfl | rfl | rfl | rfl
  all_goals rfl
 ·simp only [ints,List.map_replicate]
 refine W_for 32 46 [2,11] (fun m t o=>∃ (j q : Nat) (l : List Int),o = [.cells 1 (ints (List.replicate j 0 ++ l))] ∧ t 11 = .i .i64 ((j : Int) - 1) ∧ t 2 = .i .i64 q ∧ m = j ∧ j + l.length = k ∧ digs n j q ++ l = digs n k r ∧ q ≤ r) k ⟨k,r,[],by simp,by simp only [go_sem],by simp only [go_sem],rfl,by simp,by simp,Nat.le_refl _⟩ ?_
 rintro m t o ⟨j,q,l,rfl,h11,h2,rfl,hjl,hd,hqr⟩
 have e1 : True → Int.tmod (q : Int) (n : Int) = ((q % n : Nat) : Int):=fun _=>by rw [Int.tmod_eq_emod_of_nonneg (by omega)];rfl
 have e2 : True → Int.tdiv (q : Int) (n : Int) = ((q / n : Nat) : Int):=fun _=>by rw [Int.tdiv_eq_ediv_of_nonneg (by omega)];rfl
 have hqn : q / n ≤ q:=Nat.div_le_self _ _
 have hqm : q % n < 64:=Nat.lt_of_lt_of_le (Nat.mod_lt _ hn) hn2
 have hds : ∀ i,digs n (i + 1) q = digs n i (q / n) ++ [((q % n : Nat) : Int)]:=fun i=>rfl
 generalize q / n = qd at *
 generalize q % n = qm at *
 repeat (first | refine nav ?_ | refine bo ?_)
 (refine wr fun K R hK hR=>?_;simp only [go_sem,h11];(try go_ints);(try simp only [go_sem,h11]);(repeat refine And.intro side ?_);(first|refine hK _ ?_|refine hR _ _ ?_);clear hK hR K R)
 repeat (first | refine nav ?_ | refine bo ?_)
 refine W_cond (by simp only [go_sem]<;>exact rfl) (fun hb=>?_) (fun hb=>?_)
 ·simp at hb
  obtain ⟨i,rfl⟩ : ∃ i,m = i + 1:=⟨m - 1,by omega⟩
  have hi1 : ((i + 1 : Nat) : Int) - 1 = i:=by omega
  rw [hi1] at h11
  repeat (first | refine nav ?_ | refine bo ?_)
  have hlen : (ints (List.replicate (i + 1) 0 ++ l)).length = i + 1 + l.length:=by simp [ints]
  have hget : (ints (List.replicate (i + 1) 0 ++ l)).getD i [] = [.i .i64 0]:=by simp [ints,List.getElem?_append]
  have hw : True → RowKit.wrap64 (qd : Int) = qd:=fun _=>by unfold RowKit.wrap64;omega
  (refine W_dreg (by decide +kernel) [] [0,1,2,3,4,5,6,7,8,9,10] [[],[],[],[],[3,2],[],[],[6,5],[4,3,2,1,0],[0,1,2,3,4,8],[8,4,3,2,1,0,9,5,6,7]] (by decide +kernel) rfl fun K R hK hR=>?_;simp only [List.filterMap_cons,List.filterMap_nil,List.getElem?_cons_zero,List.getElem?_cons_succ,List.cons_append,List.nil_append];simp only [go_sem,h11,h2,e1,e2,hlen,hget,hw,ints_rep];(try go_ints);(try simp only [go_sem,h11,h2,e1,e2,hlen,hget,hw,ints_rep]);(repeat refine And.intro side ?_);(first|refine hK _ ?_|refine hR _ _ ?_);clear hK hR K R)
  repeat (first | refine nav ?_ | refine bo ?_)
  (refine wr fun K R hK hR=>?_;simp only [go_sem,h11];(try go_ints);(try simp only [go_sem,h11]);(repeat refine And.intro side ?_);(first|refine hK _ ?_|refine hR _ _ ?_);clear hK hR K R)
  refine forQ_normal i (by omega) ⟨i,qd,(qm : Int) :: l,rfl,by simp only [go_sem],by simp only [go_sem],rfl,by rw [List.length_cons];omega,?_,by omega⟩
  rw [← hd,hds]
  simp
 ·simp at hb
  obtain rfl : m = 0:=by omega
  simp only [digs,List.nil_append] at hd
  subst hd
  repeat (first | refine nav ?_ | refine bo ?_)
  (refine wr fun K R hK hR=>?_;simp only [go_sem];(try go_ints);(repeat refine And.intro side ?_);(first|refine hK _ ?_|refine hR _ _ ?_);clear hK hR K R)
  generalize hu : digs n k r = u at *
  have hul : (ints u).length = k:=by simp [ints,← hu,digs_len]
  change W Try.prog 46 Code.ret _ _
  refine W_freeze 0 (sz:=1) (rows:=ints u) (by simp) (by simp [ints,AV.dat,AV.ltk,AV.plain]) ?_
  refine W_weak (s':=⟨tab [(6,.sl 1 (ints u)),(7,.i .i64 0)],_⟩) (tab_le fun y hy=>?_) rfl ?_
  ·have htk : List.take k (ints u) = ints u:=List.take_of_length_le (by omega)
   simp only [List.mem_cons,List.not_mem_nil,or_false] at hy
   rcases hy with rfl | rfl
   ·have hid : ((ints u).map fun r=>r.map AV.dat) = ints u:=by simp [ints,Function.comp_def,AV.dat]
    show AV.unref 0 1 ((ints u).map fun r=>r.map AV.dat) (.ref 0 0 k) = _
    rw [hid]
    unfold AV.unref
    rw [if_pos ⟨rfl,by omega⟩,List.drop_zero,htk]
   ·rfl
  repeat (first | refine nav ?_ | refine bo ?_)
  refine endQ_data (by simp only [go_sem]<;>exact rfl) (Le.of_eq ?_) rfl
  rfl
end Go.AW
namespace Go.AW
open Go
set_option linter.unusedSimpArgs false
set_option linter.unusedVariables false
section
variable {w : World} {Z : CS} {m : List MB} {reg : Pl → Option Reg} {t : Nat → AV} {u : Nat → Value} {o : List Ob}
theorem Rel.objSet (h : Rel w Z m reg t u o) {id : Nat} {x0 : Ob} {mb : MB} (ho : o[id]? = some x0) (hl0 : x0.live) (hm : m[id]? = some mb) {w' : World} (hos : w'.os = w.os) (htp : w'.tape = w.tape) (hout : w'.output = w.output) (hdr : w.drawn ≤ w'.drawn)
  (hsz : w'.heap.size = w.heap.size) (hot : ∀ b,b ≠ mb.blk → w'.heap[b]? = w.heap[b]?) (x1 : Ob) (hl1 : x1.live)
  (hob : ∀ (Y' : CS),Keeps w (YS Z m reg o) m w' Y' m → ObR w' Y' m mb x1) (hno : ∀ r c sz rows,leaf t [x1] (.o 0 r c) ≠ some (.own sz rows)) :
  Rel w' Z m (regDrop reg id o.length) t u (o.set id x1) ∧ Evol w (XS m reg o) w' ∧ (∀ b x,XS m (regDrop reg id o.length) (o.set id x1) b x → XS m reg o b x):=by
 have hlt : id < o.length:=(List.getElem?_eq_some_iff.1 ho).1
 have hsub : ∀ p rg,regDrop reg id o.length p = some rg → reg p = some rg:=by
  intro p rg hp
  cases p with
  | t k=>exact hp
  | o j r c =>
   simp only [regDrop] at hp
   split at hp
   ·cases hp
   ·exact hp
 have og : ∀ {j : Nat} {x : Ob},(o.set id x1)[j]? = some x → (j = id ∧ x = x1) ∨ (j ≠ id ∧ o[j]? = some x):=by
  intro j x hj
  rw [set_get ho] at hj
  split at hj
  ·rename_i e;exact .inl ⟨e,(Option.some.inj hj).symm⟩
  ·rename_i e;exact .inr ⟨e,hj⟩
 have hXb : ∀ y,XS m reg o mb.blk y:=fun y=>.inl ⟨id,_,mb,ho,hl0,hm,rfl⟩
 have hX : ∀ b y,XS m (regDrop reg id o.length) (o.set id x1) b y → XS m reg o b y:=by
  rintro b y (⟨j,ob,mb',h1,h2,h3,h4⟩ | ⟨p,rg,h1,h2⟩)
  ·rcases og h1 with ⟨rfl,rfl⟩ | ⟨_,h1⟩
   ·rw [hm] at h3
    obtain rfl:=Option.some.inj h3
    rw [← h4];exact hXb y
   ·exact .inl ⟨j,ob,mb',h1,h2,h3,h4⟩
  ·exact .inr ⟨p,rg,hsub p rg h1,h2⟩
 have hE : Evol w (XS m reg o) w':=by
  refine ⟨hos,htp,hout,hdr,by rw [hsz];exact Nat.le_refl _,fun b _ hb=>hot b (fun e=>hb 0 (e ▸ hXb 0)),fun b x v hb hc=>?_⟩
  have : b ≠ mb.blk:=fun e=>hb (e ▸ hXb x)
  unfold World.cell? at hc ⊢
  rw [hot b this];exact hc
 have K : Keeps w (YS Z m reg o) m w' (YS Z m (regDrop reg id o.length) (o.set id x1)) m :=
  ⟨fun b x v hc hy=>⟨hE.cell b x v (fun k=>hy (.inl k)) hc,fun k=>hy (k.imp (hX b x) (fun h=>h))⟩,fun _ _ h=>h⟩
 have hblk : ∀ {j : Nat} {x : Ob} {mb' : MB},j ≠ id → o[j]? = some x → x.live → m[j]? = some mb' → mb'.blk ≠ mb.blk:=fun hj hx hl hmj e=>hj (h.inj _ _ _ _ _ _ hx ho hl hl0 hmj hm e)
 refine ⟨?_,hE,hX⟩
 refine ⟨by simp [h.len],fun k=>V.keep K _ _ (h.tv k),?_,?_,fun p rg hp=>by rw [hsz];exact h.rok p rg (hsub p rg hp),?_,fun p q r s hpq hp hq=>h.rdj p q r s hpq (hsub p r hp) (hsub q s hq),?_,fun b y hz hy=>h.zx b y hz (hX b y hy),fun b y hz=>by rw [hsz];exact h.zs b y hz⟩
 ·intro j ob mb' hoj hmj
  rcases og hoj with ⟨rfl,rfl⟩ | ⟨hne,h1⟩
  ·rw [hm] at hmj
   obtain rfl:=Option.some.inj hmj
   exact hob _ K
  ·exact Ob.keep K ob (fun hl=>hot _ (hblk hne h1 hl hmj)) (h.ob j ob mb' h1 hmj)
 ·intro i j x y a b hi hj lx ly ha hb e
  rcases og hi with ⟨rfl,rfl⟩ | ⟨n1,g1⟩
  ·rw [hm] at ha
   obtain rfl:=Option.some.inj ha
   rcases og hj with ⟨rfl,rfl⟩ | ⟨n2,g2⟩
   ·rfl
   ·exact (hblk n2 g2 ly hb e.symm).elim
  ·rcases og hj with ⟨rfl,rfl⟩ | ⟨n2,g2⟩
   ·rw [hm] at hb
    obtain rfl:=Option.some.inj hb
    exact (hblk n1 g1 lx ha e).elim
   ·exact h.inj i j x y a b g1 g2 lx ly ha hb e
 ·intro p rg j x mb' hp hj hl hmj
  rcases og hj with ⟨rfl,rfl⟩ | ⟨n1,g1⟩
  ·rw [hm] at hmj
   obtain rfl:=Option.some.inj hmj
   exact h.rob p rg _ _ mb (hsub p rg hp) ho hl0 hm
  ·exact h.rob p rg j x mb' (hsub p rg hp) g1 hl hmj
 ·intro p sz' rows' v hlf hv
  have oa : ∀ {p : Pl} {n : Nat} {v : Value},OwnAt w (reg p) sz' n v → (∀ r,reg p = some r → r.blk ≠ mb.blk) → OwnAt w' (reg p) sz' n v:=by
   rintro p n v ⟨a,cap',h1,h2⟩ hr
   refine ⟨a,cap',h1,fun hn=>?_⟩
   obtain ⟨blk',off',lo',c1,e1,q1,q2,q3,q4,q5⟩:=h2 hn
   refine ⟨blk',off',lo',c1,e1,q1,q2,q3,?_,q5⟩
   rw [hot _ (hr _ q2)];exact q4
  have hrb : ∀ {p : Pl} r,reg p = some r → r.blk ≠ mb.blk:=fun r hr e=>h.rob _ r id _ mb hr ho hl0 hm e.symm
  cases p with
  | t k=>exact oa (h.own (.t k) sz' rows' v hlf hv) (fun r hr=>hrb r hr)
  | o j r c =>
   simp only [leaf] at hlf
   cases hoj : (o.set id x1)[j]? with
   | none=>rw [hoj] at hlf;simp at hlf
   | some x =>
    rw [hoj] at hlf
    rcases og hoj with ⟨rfl,rfl⟩ | ⟨n1,g1⟩
    ·exact (hno r c sz' rows' (by simp only [leaf,List.getElem?_cons_zero];exact hlf)).elim
    ·have l1:=(List.getElem?_eq_some_iff.1 g1).1
     have hreg : regDrop reg id o.length (.o j r c) = reg (.o j r c):=by simp only [regDrop];rw [if_neg (by rintro (e | e)<;>omega)]
     rw [hreg]
     have hleaf : leaf t o (.o j r c) = some (.own sz' rows'):=by simp only [leaf,g1];exact hlf
     refine oa (h.own _ sz' rows' v hleaf ?_) (fun r hr=>hrb r hr)
     have hlive : x.live:=by
      cases x with
      | cells=>trivial
      | mapo=>trivial
      | _=>simp at hlf
     obtain ⟨mb',hmb'⟩:=h.mget g1
     simp only [valAt] at hv ⊢
     rw [hmb'] at hv ⊢
     simp only [Option.bind_some] at hv ⊢
     unfold World.cell? at hv ⊢
     rw [hot _ (hblk n1 g1 hlive hmb')] at hv
     exact hv
end
theorem endQ_all {P : Program} {rs : List ResultVar} {no : Nat} {R : AV → List Ob → Prop} {s : St} {r r' : AV} (h1 : resAV P rs s = some r) (h2 : Le r r') (hno : no ≤ s.o.length) (hok : okO s.o = true) (hr : r'.ltk s.o.length = true) (hR : R r' s.o) : endQ P rs no R .ret s :=
 ⟨r,r',s.o.length,h1,h2,hno,Nat.le_refl _,by rw [List.take_length];exact hok,hr,by rw [List.take_length];exact hR⟩
theorem W_joinS {P : Program} {n : Nat} {Q : Exit → St → Prop} {x y : Code} (lo hi : Nat) (L : List Nat) (I : (Nat → AV) → List Ob → Prop) {t0 : Nat → AV} {o0 : List Ob} (h : W P n x (joinQ lo hi L t0 I Q) ⟨mix lo hi L t0 t0,o0⟩)
  (h2 : ∀ t o,I t o → W P n y Q ⟨mix lo hi L t t0,o⟩) : W P n x (seqQ P n y Q) ⟨t0,o0⟩:=by
 rw [mix_self] at h
 refine h.mono ?_
 intro e s k
 cases e with
 | normal =>
  obtain ⟨t',h1,h3⟩:=k
  have:=h2 t' s.o h3
  rw [← h1] at this
  exact this
 | _=>exact k
end Go.AW
namespace Go.AW
open Go
set_option linter.unusedSimpArgs false
set_option linter.unusedVariables false
section
variable {P : Program} {n : Nat} {Q : Exit → St → Prop} {s : St}
theorem wpAny_of_I {ops : Array Oper} (I : (Nat → Bool) → St → Prop) (hac : ∀ i,i < ops.size → ∀ k ∈ dirs ops i,k < i)
  (hst : ∀ d s i o,ops[i]? = some o → d i = false → (∀ k ∈ dirs ops i,d k = true) → I d s → o.guard = none ∧ OpW P n o s (I (fun j=>d j || j == i)))
  (hend : ∀ d s,(∀ i < ops.size,d i = true) → I d s → Q .normal s) {g : G} (hn : g.n = n) :
  ∀ (fuel : Nat) (rem : List Nat) (listed : Array Bool) (s : St) (a : Act) (w : World),rem.length = fuel → rem.Sublist (List.range ops.size) → listed.size = ops.size →
   (∀ i,i < ops.size → (listed.getD i true = false ↔ i ∈ rem)) → I (fun j=>!rem.contains j) s → At g s a w → wpAny P .any ops (QL g Q) fuel listed a w:=by
 intro fuel
 induction fuel with
 | zero =>
  intro rem listed s a w hl hsub hsz hli hD hat
  have : rem = []:=List.eq_nil_of_length_eq_zero hl
  subst this
  refine ⟨?_,s,hend _ _ (fun i _=>rfl) hD,hat⟩
  unfold Region.ready
  rw [List.filter_eq_nil_iff]
  intro i hi
  have:=(hli i (List.mem_range.1 hi))
  simp only [List.not_mem_nil,iff_false,Bool.not_eq_false] at this
  simp [this]
 | succ fuel ih =>
  intro rem listed s a w hl hsub hsz hli hD hat
  have hmem : ∀ i,i ∈ rem → i < ops.size:=fun i hi=>List.mem_range.1 (hsub.subset hi)
  have hdir : ∀ (i : Nat),i ∈ Region.ready .any ops listed → i < ops.size ∧ i ∈ rem ∧ ∀ k ∈ dirs ops i,k ∉ rem:=by
   intro i hi
   rw [mem_ready] at hi
   obtain ⟨h1,o,ho,h2⟩:=hi
   have hlt:=(Array.getElem?_eq_some_iff.1 ho).1
   refine ⟨hlt,(hli i hlt).1 h1,fun k hk hkr=>?_⟩
   unfold dirs at hk
   rw [ho] at hk
   simp only [List.mem_map,List.mem_filter,Array.mem_toList_iff] at hk
   obtain ⟨e,⟨he,hb⟩,rfl⟩:=hk
   have h3:=h2 e he hb
   have h4:=(hli e.on (hmem _ hkr)).2 hkr
   rw [Array.getD_eq_getD_getElem?] at h3 h4
   cases hq : listed[e.on]? with
   | none=>rw [hq] at h4;simp at h4
   | some b=>rw [hq] at h3 h4;simp at h3 h4;rw [h3] at h4;cases h4
  have hnd : rem.Nodup:=(List.nodup_range).sublist hsub
  have hso : rem.Pairwise (· < ·):=(List.pairwise_lt_range).sublist hsub
  refine ⟨fun hno=>?_,fun i hi=>?_⟩
  ·exfalso
   match rem,hl with
   | i :: rest,_ =>
    have hi : i < ops.size:=hmem i (by simp)
    have : i ∈ Region.ready .any ops listed:=by
     rw [mem_ready]
     refine ⟨(hli i hi).2 (by simp),ops[i],by simp [hi],fun e he hb=>?_⟩
     have hk : e.on ∈ dirs ops i:=by
      unfold dirs
      rw [show ops[i]? = some ops[i] by simp [hi]]
      simp only [List.mem_map,List.mem_filter,Array.mem_toList_iff]
      exact ⟨e,⟨he,hb⟩,rfl⟩
     have hne:=hac i hi _ hk
     have hlt2 : e.on < ops.size:=by omega
     cases hq : listed.getD e.on true with
     | false =>
      have hin:=(hli _ hlt2).1 hq
      rw [List.pairwise_cons] at hso
      rcases List.mem_cons.1 hin with h | h
      ·omega
      ·have:=hso.1 e.on h;omega
     | true =>
      rw [Array.getD_eq_getD_getElem?] at hq ⊢
      have h4 : e.on < listed.size:=by rw [hsz];exact hlt2
      rw [Array.getElem?_eq_getElem h4] at hq ⊢
      simpa using hq
    rw [hno] at this;cases this
  ·obtain ⟨hlt,hir,hdn⟩:=hdir i hi
   have ho : ops[i]? = some ops[i]:=by simp [hlt]
   obtain ⟨hg,hop⟩:=hst _ s i _ ho (by simp [List.contains_iff_mem,hir]) (fun k hk=>by simpa using hdn k hk) hD
   unfold wpOp
   simp only [ho]
   have hw : Region.wanted ops[i] (yielded ops a.tmps) = true:=by simp [Region.wanted,hg]
   simp only [hw,if_true]
   refine .inl (Oper.wp_q (Oper.wp_mono (fun a' w' ⟨s',h1,h2⟩=>?_) (hop g a w hn hat)))
   have hmer : ∀ j,j ∈ rem.erase i ↔ j ≠ i ∧ j ∈ rem:=fun j=>hnd.mem_erase_iff
   refine ih (rem.erase i) _ s' a' w' ?_ (List.erase_sublist.trans hsub) (by simp [hsz]) ?_ ?_ h2
   ·rw [List.length_erase_of_mem hir];omega
   ·intro j hj
    by_cases hji : j = i
    ·subst hji
     rw [hmer]
     simp [hsz,hj]
    ·rw [getD_set_ne true (fun e=>hji e.symm),hli j hj,hmer]
     simp [hji]
   ·have : (fun j=>!(rem.erase i).contains j) = fun j=>!rem.contains j || j == i:=by
     funext j
     by_cases hji : j = i
     ·subst hji
      simp [List.contains_iff_mem,hmer]
     ·have h1 : (j ∈ rem.erase i) = (j ∈ rem):=by rw [hmer];simp [hji]
      simp [hji,h1]
    rw [this];exact h1
theorem W_drawInv {id : Nat} {l : List Oper} (hm : P.follows .mixedOrders = true) (I : (Nat → Bool) → St → Prop) (hac : ((List.range l.length).all fun i=>(dirs l.toArray i).all fun k=>decide (k < i)) = true)
  (h0 : I (fun j=>decide (l.length ≤ j)) s)
  (hst : ∀ d s i o,l[i]? = some o → d i = false → (∀ k ∈ dirs l.toArray i,d k = true) → I d s → o.guard = none ∧ OpW P n o s (I (fun j=>d j || j == i)))
  (hend : ∀ d s,(∀ i < l.length,d i = true) → I d s → Q .normal s) : W P n (.region id l.toArray true) Q s:=by
 intro g a w hn hat
 have hat' : At g s a { w with drawn:=w.drawn + 1 }:=by
  obtain ⟨⟨m,reg,h1,h2,h3⟩,h4,h5,h6⟩:=hat
  have hg:=Grow.draw w (w.drawn + 1) (Nat.le_succ _)
  exact ⟨⟨m,reg,h1.grow hg,h2,h3⟩,h4.trans (hg.evol (fun _ _=>False)) (fun _ _ k=>k.elim),h5,h6⟩
 refine wp_region_any hm ?_
 simp only [List.all_eq_true,List.mem_range,decide_eq_true_eq] at hac
 refine wpAny_of_I (Q:=Q) I (fun i hi=>hac i (by simpa using hi)) (fun d s i o ho=>hst d s i o (by simpa using ho)) (fun d s hd=>hend d s (fun i hi=>hd i (by simpa using hi))) hn _ (List.range l.toArray.size) _ s a _ ?_ (List.Sublist.refl _) (by simp) ?_ ?_ hat'
 ·simp
 ·intro i hi
  simp at hi
  simp [hi]
 ·have : (fun j=>!(List.range l.toArray.size).contains j) = fun j=>decide (l.length ≤ j):=by
   funext j
   by_cases h : j < l.length
   ·simp [h]
   ·simp [h];omega
  rw [this];exact h0
theorem OpW_run {o : Oper} {K : St → Prop} (tk : List Nat) (hc : isCall o = false) (hg : o.guard = none) (h : ∀ K' : St → Prop,(∀ s,K s → K' s) → runR P n [] tk (fun _ _=>False) [o] K' s) : OpW P n o s K:=by
 have h:=h K fun _ h=>h
 simp only [runR,hc,Bool.false_eq_true,if_false,andR,runO,hg] at h
 exact OpW_step tk (s':=(step1 P n tk o s).2) (by rw [← h.1]) h.2
end
end Go.AW
namespace Go.AW
open Go
set_option linter.unusedSimpArgs false
set_option linter.unusedVariables false
def putRows (rows : List (List AV)) : Nat → List AV → List (List AV)
 | _,[]=>rows
 | r,a :: l=>putRows (rset rows r 0 a) (r + 1) l
section
variable {w : World} {Z : CS} {m : List MB} {reg : Pl → Option Reg} {t : Nat → AV} {u : Nat → Value} {o : List Ob}
theorem Rel.storeRows (q : Nat) (hq : u q = undef) : ∀ (l : List AV) (vs : List Value) (w : World) (reg : Pl → Option Reg) (o : List Ob) (id r : Nat) (rows : List (List AV)) (mb : MB),
  Rel w Z m reg t u o → Vs w (YS Z m reg o) m l vs → (∀ a ∈ l,a.isOwn = false) →
  o[id]? = some (.cells 1 rows) → m[id]? = some mb → mb.sz = 1 → (∀ x ∈ rows,x.length = 1) → r + l.length ≤ rows.length →
  ∃ reg',Rel (putCells w mb.blk (mb.base + r) vs) Z m reg' t u (o.set id (.cells 1 (putRows rows r l))) ∧
   Evol w (XS m reg o) (putCells w mb.blk (mb.base + r) vs) ∧
   ∀ b x,XS m reg' (o.set id (.cells 1 (putRows rows r l))) b x → XS m reg o b x
 | [],vs,w,reg,o,id,r,rows,mb,h,hvs,hl,ho,hm,hsz,h1,hr=>by
  simp only [Vs] at hvs;subst hvs
  have e : o.set id (.cells 1 (putRows rows r [])) = o:=by
   simp only [putRows]
   apply List.ext_getElem?;intro i
   rw [set_get ho];split
   ·rename_i e;rw [e,ho]
   ·rfl
  rw [e]
  exact ⟨reg,h,Evol.refl _ _,fun _ _ k=>k⟩
 | a :: l,vs,w,reg,o,id,r,rows,mb,h,hvs,hl,ho,hm,hsz,h1,hr=>by
  simp only [Vs] at hvs
  obtain ⟨v,vs',rfl,hv,hvs'⟩:=hvs
  simp only [List.length_cons] at hr
  have hrow : rows[r]? = some rows[r]:=List.getElem?_eq_getElem (by omega)
  obtain ⟨reg1,g1,hE,_,hX⟩:=h.storeV q hq hv (.inl (hl a (by simp))) ho hm hrow (c:=0) (by rw [h1 _ (List.getElem_mem _)];omega) rfl rfl
  have ea : mb.base + r * mb.sz + 0 = mb.base + r:=by rw [hsz];omega
  rw [ea] at g1 hE
  have hK : Keeps w (YS Z m reg o) m (w.setCell ⟨mb.blk,mb.base + r,none⟩ v) (YS Z m reg1 (o.set id (.cells 1 (rset rows r 0 a)))) m :=
   ⟨fun b' y v' hcv hy=>⟨hE.cell b' y v' (fun k=>hy (.inl k)) hcv,fun k=>hy (k.imp (hX b' y) (fun h=>h))⟩,fun _ _ h=>h⟩
  obtain ⟨reg2,h2,hE2,hX2⟩:=Rel.storeRows q hq l vs' _ reg1 _ id (r + 1) (rset rows r 0 a) mb g1 (Vs.keep hK _ _ hvs')
   (fun a' h'=>hl a' (by simp [h'])) (by rw [set_get ho,if_pos rfl]) hm hsz (fun x hx=>by
    obtain ⟨i,hi⟩:=List.getElem?_of_mem hx
    rw [rset_get] at hi
    split at hi
    ·cases hz : rows[i]? with
     | none=>rw [hz] at hi;cases hi
     | some z =>
      rw [hz] at hi
      simp only [Option.map_some,Option.some.injEq] at hi
      rw [← hi,List.length_set]
      exact h1 z (List.mem_of_getElem? hz)
    ·exact h1 x (List.mem_of_getElem? hi)) (by rw [rset_length];omega)
  rw [List.set_set] at h2 hX2
  refine ⟨reg2,?_,?_,?_⟩
  ·simp only [putCells,putRows]
   rwa [show mb.base + (r + 1) = mb.base + r + 1 by omega] at h2
  ·simp only [putCells]
   rw [show mb.base + (r + 1) = mb.base + r + 1 by omega] at hE2
   exact hE.trans hE2 fun b x k=>.inl (hX b x k)
  ·intro b x k
   simp only [putRows] at k
   exact hX b x (hX2 b x k)
end
section
variable {P : Program} {n : Nat} {Q : Exit → St → Prop} {s : St}
end
end Go.AW
namespace Go.AW
open Go
set_option linter.unusedSimpArgs false
set_option linter.unusedVariables false
def AV.lit : AV → Bool
 | .b _ | .i _ _ | .s _=>true
 | _=>false
theorem V_lit {w w' : World} {Y Y' : CS} {m m' : List MB} {a : AV} {v : Value} (h : a.lit = true) (k : V w Y m a v) : V w' Y' m' a v:=by
 cases a<;>simp_all [AV.lit,V]
def litE (es : List (AV × AV)) : Bool:=es.all fun e=>e.1.lit && e.2.lit
theorem MapR_lit {w w' : World} {Y Y' : CS} {m m' : List MB} : ∀ {es : List (AV × AV)} {l : List MapEntry},litE es = true → MapR w Y m es l → MapR w' Y' m' es l
 | [],_,_,k=>by simpa only [MapR] using k
 | (a,b) :: r,_,h,k=>by
  simp only [litE,List.all_cons,Bool.and_eq_true] at h
  simp only [MapR] at k ⊢
  obtain ⟨e,t,h1,h2,h3,h4⟩:=k
  exact ⟨e,t,h1,V_lit h.1.1 h2,V_lit h.1.2 h3,MapR_lit (by simpa [litE] using h.2) h4⟩
theorem Rel.hideMap {w : World} {Z : CS} {m : List MB} {reg : Pl → Option Reg} {t : Nat → AV} {u : Nat → Value} {o : List Ob} (h : Rel w Z m reg t u o) {id : Nat} {es : List (AV × AV)} {mb : MB}
  (ho : o[id]? = some (.mapo es)) (hm : m[id]? = some mb) : Rel w (fun b x=>Z b x ∨ b = mb.blk) m reg t u (o.set id .dead) ∧ (∀ b x,XS m reg (o.set id .dead) b x → XS m reg o b x):=by
 have live' : ∀ {i : Nat} {x : Ob},(o.set id .dead)[i]? = some x → x.live → i ≠ id ∧ o[i]? = some x:=by
  intro i x hi hl
  rw [set_get ho] at hi
  split at hi
  ·obtain rfl:=Option.some.inj hi;exact hl.elim
  ·rename_i e;exact ⟨e,hi⟩
 have hX : ∀ b x,XS m reg (o.set id .dead) b x → XS m reg o b x:=by
  rintro b x (⟨j,ob,mb',g1,g2,g3,g4⟩ | k)
  ·exact .inl ⟨j,ob,mb',(live' g1 g2).2,g2,g3,g4⟩
  ·exact .inr k
 have hY : ∀ b x,YS (fun b x=>Z b x ∨ b = mb.blk) m reg (o.set id .dead) b x → YS Z m reg o b x:=by
  rintro b x (k | k | rfl)
  ·exact .inl (hX b x k)
  ·exact .inr k
  ·exact .inl (.inl ⟨id,_,mb,ho,trivial,hm,rfl⟩)
 have K:=Keeps.sub (w:=w) m hY
 refine ⟨⟨by simp [h.len],fun k=>V.keep K _ _ (h.tv k),?_,?_,h.rok,?_,h.rdj,?_,?_,?_⟩,hX⟩
 ·intro j x mb' hj hmj
  rw [set_get ho] at hj
  split at hj
  ·obtain rfl:=Option.some.inj hj;trivial
  ·exact Ob.keep K x (fun _=>rfl) (h.ob j x mb' hj hmj)
 ·intro i j x y a b hi hj lx ly ha hb e
  exact h.inj i j x y a b (live' hi lx).2 (live' hj ly).2 lx ly ha hb e
 ·intro p rg j x mb' hp hj hl hmj
  exact h.rob p rg j x mb' hp (live' hj hl).2 hl hmj
 ·intro p sz rows v hl hv
  refine h.own p sz rows v ?_ hv
  cases p with
  | t k=>exact hl
  | o i r c =>
   simp only [leaf,set_get ho] at hl ⊢
   split at hl
   ·rename_i e
    split at e
    ·cases e
    ·rename_i e';rw [e];exact hl
   ·cases hl
 ·rintro b x (hz | rfl) hx
  ·exact h.zx b x hz (hX b x hx)
  ·rcases hx with ⟨j,ob,mb',g1,g2,g3,g4⟩ | ⟨p,r,hp,hb,_⟩
   ·obtain ⟨hne,hj⟩:=live' g1 g2
    exact hne (h.inj j id ob _ mb' mb hj ho g2 trivial g3 hm g4)
   ·exact h.rob p r id _ mb hp ho trivial hm hb.symm
 ·rintro b x (hz | rfl)
  ·exact h.zs b x hz
  ·obtain ⟨ents,clock,g1,_⟩:=h.ob id _ mb ho hm
   exact get_lt g1
theorem Rel.addDead {w : World} {Z : CS} {m : List MB} {reg : Pl → Option Reg} {t : Nat → AV} {u : Nat → Value} {o : List Ob} (h : Rel w Z m reg t u o) (x : Obj) :
  Rel { w with heap:=w.heap.push x } (fun b y=>Z b y ∨ b = w.heap.size) (m ++ [⟨w.heap.size,0,0,0⟩]) reg t u (o ++ [.dead]) ∧
   (∀ b y,XS (m ++ [⟨w.heap.size,0,0,0⟩]) reg (o ++ [.dead]) b y → XS m reg o b y):=by
 have g:=Grow.push w x
 have h':=h.grow g
 have live' : ∀ {i : Nat} {x : Ob},(o ++ [.dead])[i]? = some x → x.live → o[i]? = some x:=by
  intro i x hi hl
  rw [append_get] at hi
  split at hi
  ·obtain rfl:=Option.some.inj hi;exact hl.elim
  ·exact hi
 have mget : ∀ {i : Nat} {mb : MB} {x : Ob},o[i]? = some x → (m ++ [⟨w.heap.size,0,0,0⟩])[i]? = some mb → m[i]? = some mb:=by
  intro i mb x hi hm
  have:=(List.getElem?_eq_some_iff.1 hi).1
  rw [append_get,if_neg (by rw [h.len];omega)] at hm
  exact hm
 have hX : ∀ b y,XS (m ++ [⟨w.heap.size,0,0,0⟩]) reg (o ++ [.dead]) b y → XS m reg o b y:=by
  rintro b y (⟨j,ob,mb',g1,g2,g3,g4⟩ | k)
  ·exact .inl ⟨j,ob,mb',live' g1 g2,g2,mget (live' g1 g2) g3,g4⟩
  ·exact .inr k
 have K : Keeps w (YS Z m reg o) m { w with heap:=w.heap.push x } (YS (fun b y=>Z b y ∨ b = w.heap.size) (m ++ [⟨w.heap.size,0,0,0⟩]) reg (o ++ [.dead])) (m ++ [⟨w.heap.size,0,0,0⟩]):=by
  refine ⟨fun b y v hc hy=>⟨g.cell hc,?_⟩,fun id mb hm=>?_⟩
  ·rintro (k | k | rfl)
   ·exact hy (.inl (hX b y k))
   ·exact hy (.inr k)
   ·have:=cell_lt hc;omega
  ·rw [append_get,if_neg (by have:=(List.getElem?_eq_some_iff.1 hm).1;omega)]
   exact hm
 refine ⟨⟨by simp [h.len],fun k=>V.keep K _ _ (h.tv k),?_,?_,h'.rok,?_,h.rdj,?_,?_,?_⟩,hX⟩
 ·intro j x' mb' hj hmj
  rw [append_get] at hj
  split at hj
  ·obtain rfl:=Option.some.inj hj;trivial
  ·have hm:=mget hj hmj
   have hob:=h.ob j x' mb' hj hm
   refine Ob.keep K x' (fun hl=>?_) hob
   refine g.block _ ?_
   cases x' with
   | cells sz rows=>obtain ⟨_,⟨c,e,g1,_⟩,_⟩:=hob;exact get_lt g1
   | mapo es=>obtain ⟨ents,clock,g1,_⟩:=hob;exact get_lt g1
   | _=>exact hl.elim
 ·intro i j x y a b hi hj lx ly ha hb e
  have hi':=live' hi lx;have hj':=live' hj ly
  exact h.inj i j x y a b hi' hj' lx ly (mget hi' ha) (mget hj' hb) e
 ·intro p rg j x mb' hp hj hl hmj
  have hj':=live' hj hl
  exact h.rob p rg j x mb' hp hj' hl (mget hj' hmj)
 ·intro p sz rows v hl hv
  have hlo : leaf t o p = some (.own sz rows):=by
   cases p with
   | t k=>exact hl
   | o i r c =>
    simp only [leaf,append_get] at hl ⊢
    split at hl
    ·rename_i e
     split at e
     ·cases e
     ·rw [e];exact hl
    ·cases hl
  refine h'.own p sz rows v hlo ?_
  cases p with
  | t k=>exact hv
  | o i r c =>
   have : ∃ y,o[i]? = some y:=by
    simp only [leaf] at hlo
    cases hq : o[i]? with
    | none=>rw [hq] at hlo;cases hlo
    | some y=>exact ⟨y,rfl⟩
   obtain ⟨y,hy⟩:=this
   have:=(List.getElem?_eq_some_iff.1 hy).1
   simp only [valAt] at hv ⊢
   rw [append_get,if_neg (by rw [h.len];omega)] at hv
   exact hv
 ·rintro b y (hz | rfl) hx
  ·exact h.zx b y hz (hX b y hx)
  ·rcases hX _ _ hx with ⟨j,ob,mb',g1,g2,g3,g4⟩ | ⟨p,r,hp,hb,_⟩
   ·have hob:=h.ob j ob mb' g1 g3
    have : mb'.blk < w.heap.size:=by
     cases ob with
     | cells sz rows=>obtain ⟨_,⟨c,e,g1,_⟩,_⟩:=hob;exact get_lt g1
     | mapo es=>obtain ⟨ents,clock,g1,_⟩:=hob;exact get_lt g1
     | _=>exact g2.elim
    omega
   ·have:=h.rok p r hp;omega
 ·rintro b y (hz | rfl)
  ·have:=h.zs b y hz;simp;omega
  ·simp
theorem Rel.setHid {w : World} {Z : CS} {m : List MB} {reg : Pl → Option Reg} {t : Nat → AV} {u : Nat → Value} {o : List Ob} (h : Rel w Z m reg t u o) {bi : Nat} (hz : ∀ x,Z bi x) {x x' : Obj}
  (hb : w.heap[bi]? = some x) (hx : ∀ c e q,x ≠ .cells c e q) (hx' : ∀ c e q,x' ≠ .cells c e q) : Rel { w with heap:=w.heap.setIfInBounds bi x' } Z m reg t u o:=by
 have hlt:=get_lt hb
 have hget : ∀ b,({ w with heap:=w.heap.setIfInBounds bi x' } : World).heap[b]? = if b = bi then some x' else w.heap[b]?:=by
  intro b
  simp only [Array.getElem?_setIfInBounds]
  by_cases e : b = bi
  ·subst e;simp [hlt]
  ·rw [if_neg (fun q=>e q.symm),if_neg e]
 have hcell : ∀ b y v,w.cell? ⟨b,y,none⟩ = some v → ({ w with heap:=w.heap.setIfInBounds bi x' } : World).cell? ⟨b,y,none⟩ = some v:=by
  intro b y v hc
  obtain ⟨c,e,f,g1,g2⟩:=cell_at hc
  have : b ≠ bi:=by rintro rfl;rw [hb] at g1;exact hx _ _ _ (Option.some.inj g1)
  unfold World.cell? at hc ⊢
  rw [hget,if_neg this];exact hc
 have K : Keeps w (YS Z m reg o) m { w with heap:=w.heap.setIfInBounds bi x' } (YS Z m reg o) m:=⟨fun b y v hc hy=>⟨hcell b y v hc,hy⟩,fun _ _ h=>h⟩
 have hnx : ∀ y,¬ XS m reg o bi y:=fun y=>h.zx bi y (hz y)
 refine ⟨h.len,fun k=>V.keep K _ _ (h.tv k),?_,h.inj,fun p r hr=>by simpa using h.rok p r hr,h.rob,h.rdj,?_,h.zx,fun b y hz=>by simpa using h.zs b y hz⟩
 ·intro j y mb' hj hmj
  refine Ob.keep K y (fun hl=>?_) (h.ob j y mb' hj hmj)
  rw [hget,if_neg (fun e=>hnx 0 (.inl ⟨j,y,mb',hj,hl,hmj,e⟩))]
 ·intro p sz rows v hl hv
  have hv' : valAt w m u p = some v ∨ True:=.inr trivial
  cases p with
  | t k =>
   obtain ⟨a,cap,e1,e2⟩:=h.own (.t k) sz rows v hl hv
   refine ⟨a,cap,e1,fun hc=>?_⟩
   obtain ⟨blk,off,lo,c,e,q1,q2,q3,q4,q5⟩:=e2 hc
   exact ⟨blk,off,lo,c,e,q1,q2,q3,by rw [hget,if_neg (fun e=>hnx lo (.inr ⟨_,_,q2,e,Nat.le_refl _⟩))];exact q4,q5⟩
  | o i r c =>
   have hv2 : valAt w m u (.o i r c) = some v:=by
    simp only [leaf] at hl
    cases hq : o[i]? with
    | none=>rw [hq] at hl;cases hl
    | some y =>
     rw [hq] at hl
     cases y with
     | cells k rs =>
      simp only [valAt] at hv ⊢
      cases hm : m[i]? with
      | none=>rw [hm] at hv;cases hv
      | some mb' =>
       rw [hm] at hv
       simp only [Option.bind_some] at hv ⊢
       unfold World.cell? at hv ⊢
       rw [hget,if_neg (fun e=>hnx 0 (.inl ⟨i,_,mb',hq,trivial,hm,e⟩))] at hv
       exact hv
     | _=>cases hl
   obtain ⟨a,cap,e1,e2⟩:=h.own (.o i r c) sz rows v hl hv2
   refine ⟨a,cap,e1,fun hc=>?_⟩
   obtain ⟨blk,off,lo,c',e,q1,q2,q3,q4,q5⟩:=e2 hc
   exact ⟨blk,off,lo,c',e,q1,q2,q3,by rw [hget,if_neg (fun e=>hnx lo (.inr ⟨_,_,q2,e,Nat.le_refl _⟩))];exact q4,q5⟩
theorem Rel.showMap {w : World} {Z : CS} {m : List MB} {reg : Pl → Option Reg} {t : Nat → AV} {u : Nat → Value} {o : List Ob} {bm bi : Nat} (h : Rel w (fun b x=>(Z b x ∨ b = bm) ∨ b = bi) m reg t u o) {id : Nat} {es : List (AV × AV)} {mb : MB}
  (hm : m[id]? = some mb) (hmb : mb.blk = bm) {ents : Array MapEntry} {clock : Nat} (hb : w.heap[bm]? = some (.map ents clock)) (hl : litE es = true)
  {w0 : World} {Y0 : CS} {m0 : List MB} (hr : MapR w0 Y0 m0 es ents.toList) (hp : ents.toList.Pairwise fun a b=>a.born < b.born) (hc : ∀ e ∈ ents.toList,e.born < clock) (hz : ∀ x,¬ Z bm x) :
  Rel w Z m reg t u (o.set id (.mapo es)) ∧ ∀ b x,XS m reg (o.set id (.mapo es)) b x → XS m reg o b x ∨ b = bm:=by
 obtain ⟨y0,ho⟩ : ∃ y,o[id]? = some y:=⟨_,List.getElem?_eq_getElem (by have:=(List.getElem?_eq_some_iff.1 hm).1;rw [h.len] at this;exact this)⟩
 have hnx : ∀ y,¬ XS m reg o bm y:=fun y=>h.zx bm y (.inl (.inr rfl))
 have hX : ∀ b x,XS m reg (o.set id (.mapo es)) b x → XS m reg o b x ∨ b = bm:=by
  rintro b x (⟨j,ob,mb',g1,g2,g3,g4⟩ | k)
  ·rw [set_get ho] at g1
   split at g1
   ·rename_i e;subst e;rw [hm] at g3;obtain rfl:=Option.some.inj g3;exact .inr (g4.symm.trans hmb)
   ·exact .inl (.inl ⟨j,ob,mb',g1,g2,g3,g4⟩)
  ·exact .inl (.inr k)
 have hY : ∀ b x,YS Z m reg (o.set id (.mapo es)) b x → YS (fun b x=>(Z b x ∨ b = bm) ∨ b = bi) m reg o b x:=by
  rintro b x (k | k)
  ·rcases hX b x k with k | k
   ·exact .inl k
   ·exact .inr (.inl (.inr k))
  ·exact .inr (.inl (.inl k))
 have K:=Keeps.sub (w:=w) m hY
 refine ⟨⟨by simp [h.len],fun k=>V.keep K _ _ (h.tv k),?_,?_,h.rok,?_,h.rdj,?_,?_,fun b x hz=>h.zs b x (.inl (.inl hz))⟩,hX⟩
 ·intro j x mb' hj hmj
  rw [set_get ho] at hj
  split at hj
  ·rename_i e;subst e
   rw [hm] at hmj
   obtain rfl:=Option.some.inj hmj
   obtain rfl:=Option.some.inj hj
   exact ⟨ents,clock,by rw [hmb];exact hb,MapR_lit hl hr,hp,hc⟩
  ·exact Ob.keep K x (fun _=>rfl) (h.ob j x mb' hj hmj)
 ·intro i j x y a b hi hj lx ly ha hb' e
  rw [set_get ho] at hi hj
  split at hi<;>split at hj
  ·omega
  ·rename_i e1 e2
   subst e1;rw [hm] at ha;obtain rfl:=Option.some.inj ha
   exact absurd (.inl ⟨j,y,b,hj,ly,hb',by rw [← e,hmb]⟩) (hnx 0)
  ·rename_i e1 e2
   subst e2;rw [hm] at hb';obtain rfl:=Option.some.inj hb'
   exact absurd (.inl ⟨i,x,a,hi,lx,ha,by rw [e,hmb]⟩) (hnx 0)
  ·exact h.inj i j x y a b hi hj lx ly ha hb' e
 ·intro p rg j x mb' hp hj hl' hmj
  rw [set_get ho] at hj
  split at hj
  ·rename_i e;subst e;rw [hm] at hmj;obtain rfl:=Option.some.inj hmj
   intro e;exact hnx rg.lo (.inr ⟨p,rg,hp,by rw [← e,hmb],Nat.le_refl _⟩)
  ·exact h.rob p rg j x mb' hp hj hl' hmj
 ·intro p sz rows v hl' hv
  refine h.own p sz rows v ?_ hv
  cases p with
  | t k=>exact hl'
  | o i r c =>
   simp only [leaf,set_get ho] at hl' ⊢
   split at hl'
   ·rename_i e
    split at e
    ·cases e
    ·rw [e];exact hl'
   ·cases hl'
 ·intro b x hzb hx
  rcases hX b x hx with k | rfl
  ·exact h.zx b x (.inl (.inl hzb)) k
  ·exact hz x hzb
structure Hid where
 im : Nat
 ii : Nat
 bm : Nat
 bi : Nat
 ents : Array MapEntry
 clock : Nat
structure HAt (g : G) (h : Hid) (seen : Array Nat) (s : St) (a : Act) (w : World) : Prop where
 rel : ∃ m reg mb mi,Rel w (fun b x=>(g.Z b x ∨ b = h.bm) ∨ b = h.bi) m reg s.t (fun k=>a.tmps.getD k undef) s.o ∧ (∀ b x,XS m reg s.o b x → g.X b x ∨ g.w.heap.size ≤ b) ∧
  (∀ (id : Nat) mb,g.m[id]? = some mb → m[id]? = some mb) ∧ m[h.im]? = some mb ∧ mb.blk = h.bm ∧ m[h.ii]? = some mi ∧ mi = ⟨h.bi,0,0,0⟩
 evol : Evol g.w g.X w
 size : a.tmps.size = g.n
 defers : a.defers = g.ds
 map : w.heap[h.bm]? = some (.map h.ents h.clock)
 it : w.heap[h.bi]? = some (.mapIter (some h.bm) h.clock seen h.clock)
 gx : ∀ x,g.X h.bm x ∨ g.w.heap.size ≤ h.bm
 gi : g.w.heap.size ≤ h.bi
 zm : ∀ x,¬ g.Z h.bm x
 ne : h.bm ≠ h.bi
theorem HAt.inner {g : G} {h : Hid} {seen : Array Nat} {s : St} {a : Act} {w : World} (H : HAt g h seen s a w) :
  ∃ g' : G,g'.n = g.n ∧ At g' s a w ∧ ∀ s1 a1 w1,At g' s1 a1 w1 → HAt g h seen s1 a1 w1:=by
 obtain ⟨m,reg,mb,mi,h1,h2,h3,h4,h5,h6,h7⟩:=H.rel
 refine ⟨⟨w,XS m reg s.o,fun b x=>(g.Z b x ∨ b = h.bm) ∨ b = h.bi,m,g.n,g.ds⟩,rfl,⟨⟨m,reg,h1,fun b x k=>.inl k,fun _ _ k=>k⟩,.refl _ _,H.size,H.defers⟩,?_⟩
 rintro s1 a1 w1 ⟨⟨m1,reg1,q1,q2,q3⟩,q4,q5,q6⟩
 simp only at q1 q2 q3 q4 q5
 refine ⟨⟨m1,reg1,mb,mi,q1,fun b x k=>?_,fun id mb' k=>q3 _ _ (h3 _ _ k),q3 _ _ h4,h5,q3 _ _ h6,h7⟩,?_,q5,q6,?_,?_,H.gx,H.gi,H.zm,H.ne⟩
 ·rcases q2 b x k with k | k
  ·exact h2 b x k
  ·exact .inr (Nat.le_trans H.evol.size k)
 ·exact H.evol.trans q4 fun b x k=>(h2 b x k)
 ·rw [q4.block h.bm (get_lt H.map) (fun x=>h1.zx h.bm x (.inl (.inr rfl)))];exact H.map
 ·rw [q4.block h.bi (get_lt H.it) (fun x=>h1.zx h.bi x (.inr rfl))];exact H.it
theorem W.hid {P : Program} {n : Nat} {c : Code} {Q : Exit → St → Prop} {s : St} (hw : W P n c Q s) {g : G} {h : Hid} {seen : Array Nat} {a : Act} {w : World} (hn : g.n = n) (H : HAt g h seen s a w) :
  c.wp P (fun e a' w'=>∃ s',Q e s' ∧ HAt g h seen s' a' w') a w:=by
 obtain ⟨g',h1,h2,h3⟩:=H.inner
 exact wp_mono (hw g' a w (h1.trans hn) h2) fun e a' w' ⟨s',k1,k2⟩=>⟨s',k1,h3 _ _ _ k2⟩
theorem LetsOut.mono {Q Q' : Exit → Act → World → Prop} (hq : ∀ e a w,Q e a w → Q' e a w) (h : LetsOut Q) : LetsOut Q':=let ⟨a,w,k⟩:=h;⟨a,w,hq _ _ _ k⟩
theorem Oper.wp_mono2 {P : Program} {o : Oper} {a : Act} {w : World} {K K' : Act → World → Prop} {Q Q' : Exit → Act → World → Prop} (hk : ∀ a w,K a w → K' a w) (hq : ∀ e a w,Q e a w → Q' e a w) (h : o.wp P a w K Q) : o.wp P a w K' Q':=by
 unfold Oper.wp at *
 generalize (execOp a.eval o).run P w = r at *
 cases r with
 | ok n w' =>
  cases n<;>simp only [Oper.upon] at h ⊢ <;>
   first
    | exact hk _ _ h
    | exact Calls.mono h (fun e w'' he=>by cases e<;>first | exact hk _ _ he | exact hq _ _ _ he | exact LetsOut.mono hq he)
    | exact Rows.mono h (fun _ _ he=>hk _ _ he)
    | exact h
 | halt x w'=>cases x<;>simp only [Oper.upon] at h ⊢<;>first | exact h | exact hq _ _ _ h
theorem wpOps_mono2 {P : Program} {ops : Array Oper} {Q Q' : Exit → Act → World → Prop} (hq : ∀ e a w,Q e a w → Q' e a w) : ∀ (is : List Nat) (a : Act) (w : World),wpOps P ops Q is a w → wpOps P ops Q' is a w
 | [],_,_,h=>hq _ _ _ h
 | i :: r,a,w,h=>by
  simp only [wpOps] at h ⊢
  split at h
  ·exact wpOps_mono2 hq r _ _ h
  ·split at h
   ·rename_i hw
    rw [if_pos hw]
    exact h.imp (Oper.wp_mono2 (wpOps_mono2 hq r) hq) fun k=>⟨k.1,LetsOut.mono hq k.2⟩
   ·rename_i hw
    rw [if_neg hw]
    exact wpOps_mono2 hq r _ _ h
theorem RL.hid {P : Program} {n : Nat} {gd : List (Option Nat)} {rest : List Oper} {Q : Exit → St → Prop} {s : St} (hr : RL P n gd rest Q s) {ops : Array Oper} {is : List Nat} (ho : ops.toList.map (·.dst) = gd) (hf : FitsL ops is rest)
  {g : G} {h : Hid} {seen : Array Nat} {a : Act} {w : World} (hn : g.n = n) (H : HAt g h seen s a w) : wpOps P ops (fun e a' w'=>∃ s',Q e s' ∧ HAt g h seen s' a' w') is a w:=by
 obtain ⟨g',h1,h2,h3⟩:=H.inner
 exact wpOps_mono2 (fun e a' w' ⟨s',k1,k2⟩=>⟨s',k1,h3 _ _ _ k2⟩) is a w (hr ops is ho hf g' a w (h1.trans hn) h2)
theorem HAt.put {g : G} {h : Hid} {seen : Array Nat} {s : St} {a : Act} {w : World} (H : HAt g h seen s a w) {d : Nat} (hd : d < g.n) {av : AV} {v : Value} (hv : ∀ Y m,V w Y m av v) (hl : av.isOwn = false) :
  HAt g h seen ⟨upd s.t d av,s.o⟩ (a.put (some d) v) w:=by
 obtain ⟨g',h1,h2,h3⟩:=H.inner
 obtain ⟨⟨m,reg,q1,q2,q3⟩,q4,q5,q6⟩:=h2
 exact h3 _ _ _ (At.put (s:=s) q1 q2 q3 q4 q5 q6 (d:=some d) (by simpa [dstOk,h1] using hd) (hv _ _) (.inl hl))
theorem HAt.slot {g : G} {h : Hid} {seen : Array Nat} {s : St} {a : Act} {w : World} (H : HAt g h seen s a w) {k : Nat} (hk : s.t k = .ptr h.ii 0 0) : a.eval (.tmp k) = .pointer (some ⟨h.bi,0,none⟩):=by
 obtain ⟨m,reg,mb,mi,h1,h2,h3,h4,h5,h6,h7⟩:=H.rel
 have:=h1.tv k
 rw [hk] at this
 simp only [V] at this
 obtain ⟨mb',e1,e2⟩:=this
 rw [h6] at e1
 obtain rfl:=Option.some.inj e1
 subst h7
 rw [show a.eval (.tmp k) = a.tmps.getD k undef from rfl,e2]
 simp
theorem HAt.out {g : G} {h : Hid} {seen : Array Nat} {s : St} {a : Act} {w : World} (H : HAt g h seen s a w) {es : List (AV × AV)} (hl : litE es = true)
  {w0 : World} {Y0 : CS} {m0 : List MB} (hr : MapR w0 Y0 m0 es h.ents.toList) (hp : h.ents.toList.Pairwise fun a b=>a.born < b.born) (hc : ∀ e ∈ h.ents.toList,e.born < h.clock) :
  At g ⟨s.t,s.o.set h.im (.mapo es)⟩ a w:=by
 obtain ⟨m,reg,mb,mi,h1,h2,h3,h4,h5,h6,h7⟩:=H.rel
 obtain ⟨r1,r2⟩:=h1.showMap h4 h5 H.map hl hr hp hc H.zm
 refine ⟨⟨m,reg,r1,fun b x k=>?_,h3⟩,H.evol,H.size,H.defers⟩
 rcases r2 b x k with k | rfl
 ·exact h2 b x k
 ·exact H.gx x
theorem HAt.step {g : G} {h : Hid} {seen seen' : Array Nat} {s : St} {a : Act} {w w1 : World} (H : HAt g h seen s a w) (hw : w1 = w ∨ w1 = w.drew) :
  HAt g h seen' s a (Go.ChangeMaps.setBlock w1 h.bi (.mapIter (some h.bm) h.clock seen' h.clock)):=by
 have H1 : HAt g h seen s a w1:=by
  rcases hw with rfl | rfl
  ·exact H
  ·have gr : Grow w w.drew:=⟨rfl,rfl,rfl,Nat.le_succ _,Nat.le_refl _,fun _ _=>rfl⟩
   obtain ⟨m,reg,mb,mi,h1,h2,h3,h4,h5,h6,h7⟩:=H.rel
   exact ⟨⟨m,reg,mb,mi,h1.grow gr,h2,h3,h4,h5,h6,h7⟩,H.evol.trans (gr.evol g.X) (fun b x k=>.inl k),H.size,H.defers,H.map,H.it,H.gx,H.gi,H.zm,H.ne⟩
 obtain ⟨m,reg,mb,mi,h1,h2,h3,h4,h5,h6,h7⟩:=H1.rel
 have hlt:=get_lt H1.it
 have hget : ∀ b,(Go.ChangeMaps.setBlock w1 h.bi (.mapIter (some h.bm) h.clock seen' h.clock)).heap[b]? = if b = h.bi then some (.mapIter (some h.bm) h.clock seen' h.clock) else w1.heap[b]?:=by
  intro b
  simp only [Go.ChangeMaps.setBlock,Array.getElem?_setIfInBounds]
  by_cases e : b = h.bi
  ·subst e;simp [hlt]
  ·rw [if_neg (fun q=>e q.symm),if_neg e]
 refine ⟨⟨m,reg,mb,mi,h1.setHid (fun x=>.inr rfl) H1.it (by intros;simp) (by intros;simp),h2,h3,h4,h5,h6,h7⟩,?_,H1.size,H1.defers,?_,?_,H1.gx,H1.gi,H1.zm,H1.ne⟩
 ·have hE:=H1.evol
  refine ⟨hE.os,hE.tape,hE.output,hE.drawn,by simpa [Go.ChangeMaps.setBlock] using hE.size,fun b hb hx=>?_,fun b x v hx hc=>?_⟩
  ·rw [hget,if_neg (by have:=H1.gi;omega)];exact hE.block b hb hx
  ·have : b < g.w.heap.size:=cell_lt hc
   have h9:=hE.cell b x v hx hc
   unfold World.cell? at h9 ⊢
   rw [hget,if_neg (show ¬ b = h.bi by have:=H1.gi;omega)];exact h9
 ·rw [hget,if_neg H1.ne];exact H1.map
 ·rw [hget,if_pos rfl]
theorem MapR.pairs {w : World} {Y : CS} {m : List MB} : ∀ {es : List (AV × AV)} {l : List MapEntry},MapR w Y m es l → ∀ x ∈ es.zip l,V w Y m x.1.1 x.2.key ∧ V w Y m x.1.2 x.2.val
 | [],_,_,x,hx=>by simp at hx
 | (a,b) :: r,l,h,x,hx=>by
  simp only [MapR] at h
  obtain ⟨e,t,rfl,h2,h3,h4⟩:=h
  simp only [List.zip_cons_cons,List.mem_cons] at hx
  rcases hx with rfl | hx
  ·exact ⟨h2,h3⟩
  ·exact MapR.pairs h4 x hx
def remE (es : List (AV × AV)) (l : List MapEntry) (seen : Array Nat) : List ((AV × AV) × MapEntry):=(es.zip l).filter fun p=>!seen.contains p.2.born
theorem perm_out {α : Type} (f : α → Nat) : ∀ (l : List α) (x : α),x ∈ l → (l.map f).Nodup → l.Perm (x :: l.filter fun y=>!(f y == f x))
 | [],x,h,_=>by cases h
 | y :: r,x,h,hn=>by
  simp only [List.map_cons,List.nodup_cons] at hn
  rcases List.mem_cons.1 h with rfl | h
  ·rw [List.filter_cons,if_neg (by simp)]
   rw [List.filter_eq_self.2 (fun z hz=>by
    simp only [Bool.not_eq_true',beq_eq_false_iff_ne]
    intro e;exact hn.1 (e ▸ List.mem_map_of_mem hz))]
  ·have hne : f y ≠ f x:=fun e=>hn.1 (e ▸ List.mem_map_of_mem h)
   rw [List.filter_cons,if_pos (by simpa using hne)]
   exact ((perm_out f r x h hn.2).cons y).trans (List.Perm.swap _ _ _)
theorem zip_born {es : List (AV × AV)} {l : List MapEntry} (h : es.length = l.length) : (es.zip l).map (fun p=>p.2.born) = l.map (·.born):=by
 rw [show (fun p : (AV × AV) × MapEntry=>p.2.born) = (fun e : MapEntry=>e.born) ∘ Prod.snd from rfl,← List.map_map,List.map_snd_zip (by omega)]
section
variable {P : Program} {n : Nat}
theorem wp_loopN {Q : Exit → Act → World → Prop} {c : Code} (J : Nat → Act → World → Prop) (round : ∀ N a w,J N a w → c.wp P (Exit.then (fun a' w'=>∃ M,M < N ∧ J M a' w') Q) a w) {N : Nat} {a : Act} {w : World} (h0 : J N a w) : (Code.loop c).wp P Q a w:=by
 intro b k cs
 have key : ∀ N a w,J N a w → ∃ e a' w',Q e a' w' ∧ Arrives P (lone (b.at a (.code c :: .inLoop c :: k)) cs w) b k cs e a' w':=by
  intro N
  induction N using Nat.strongRecOn with
  | _ N ih =>
   intro a w hI
   obtain ⟨e,a₁,w₁,hq,harr⟩:=round N a w hI b (.inLoop c :: k) cs
   cases e with
   | normal =>
    obtain ⟨M,hM,hJ⟩:=hq
    obtain ⟨e₂,a₂,w₂,hq₂,harr₂⟩:=ih M hM a₁ w₁ hJ
    exact ⟨e₂,a₂,w₂,hq₂,.of_steps (Steps.trans harr (.one step_inLoop)) harr₂⟩
   | exit id=>exact ⟨_,a₁,w₁,hq,.pass (x:=.inLoop c) rfl (fun _ _=>.inl (by simp)) harr⟩
   | goto l=>exact ⟨_,a₁,w₁,hq,.pass (x:=.inLoop c) rfl (fun _ _=>.inl (by simp)) harr⟩
   | ret=>exact ⟨_,a₁,w₁,hq,.pass (x:=.inLoop c) rfl (fun _ _=>.inl (by simp)) harr⟩
   | panic ch=>exact ⟨_,a₁,w₁,hq,.pass (x:=.inLoop c) rfl (fun _ _=>.inl (by simp)) harr⟩
   | outgrown=>exact ⟨_,a₁,w₁,hq,.pass (x:=.inLoop c) rfl (fun _ _=>.inl (by simp)) harr⟩
 obtain ⟨e,a',w',hq,harr⟩:=key _ a w h0
 exact ⟨e,a',w',hq,.of_steps (.one step_loop) harr⟩
theorem wpOps_val {ops : Array Oper} {Q : Exit → Act → World → Prop} {i : Nat} {is : List Nat} {o : Oper} {a : Act} {w w' : World} {v : Value} (hi : ops[i]? = some o) (hg : o.guard = none) (hrun : (execOp a.eval o).run P w = .ok (.value v) w')
  (h : wpOps P ops Q is (a.put o.dst v) w') : wpOps P ops Q (i :: is) a w:=by
 have hw : Region.wanted o (yielded ops a.tmps) = true:=by simp [Region.wanted,hg]
 simp only [wpOps,hi,hw,if_true]
 refine .inl ?_
 unfold Oper.wp
 rw [hrun]
 exact h
theorem wpOps_append {ops : Array Oper} {Q : Exit → Act → World → Prop} {js : List Nat} : ∀ (is : List Nat) (a : Act) (w : World),wpOps P ops (Exit.then (wpOps P ops Q js) Q) is a w → wpOps P ops Q (is ++ js) a w
 | [],_,_,h=>h
 | i :: r,a,w,h=>by
  simp only [wpOps,List.cons_append] at h ⊢
  split at h
  ·exact wpOps_append r _ _ h
  ·split at h
   ·rename_i hw
    rw [if_pos hw]
    refine h.imp (fun h=>?_) fun k=>⟨k.1,let ⟨a',w',q⟩:=k.2;⟨a',w',q⟩⟩
    unfold Oper.wp at h ⊢
    generalize (execOp _ _).run P w = r' at *
    cases r' with
    | ok x w' =>
     cases x<;>simp only [Oper.upon] at h ⊢ <;>
      first
       | exact wpOps_append r _ _ h
       | exact Calls.mono h (fun e w'' he=>by cases e<;>first | exact wpOps_append r _ _ he | exact he | exact (let ⟨a',w',q⟩:=he;⟨a',w',q⟩))
       | exact Rows.mono h (fun _ _ he=>wpOps_append r _ _ he)
       | exact h
    | halt x w'=>cases x<;>simp only [Oper.upon] at h ⊢<;>first | exact h
   ·rename_i hw
    rw [if_neg hw]
    exact wpOps_append r _ _ h
def rangeQ (B B1 im : Nat) (es : List (AV × AV)) (K : St → Prop) (Q : Exit → St → Prop) : Exit → St → Prop
 | .normal,s=>K s
 | .exit b,s=>if b = B1 then K s else if b = B then Q .normal ⟨s.t,s.o.set im (.mapo es)⟩ else Q (.exit b) ⟨s.t,s.o.set im (.mapo es)⟩
 | e,s=>Q e ⟨s.t,s.o.set im (.mapo es)⟩
theorem rangeQ_normal {B B1 im : Nat} {es : List (AV × AV)} {K : St → Prop} {Q : Exit → St → Prop} {s : St} (h : K s) : rangeQ B B1 im es K Q .normal s:=h
theorem rangeQ_ret {B B1 im : Nat} {es : List (AV × AV)} {K : St → Prop} {Q : Exit → St → Prop} {s : St} (h : Q .ret ⟨s.t,s.o.set im (.mapo es)⟩) : rangeQ B B1 im es K Q .ret s:=h
theorem W_rangeMap {l0 : List Oper} (kk : Nat) {T kt et ty0 ty1 ty2 ty3 : TypeId} {x : Operand} {it d1 d2 d3 B B1 r0 r1 r2 im : Nat} {p0 p1 p2 p3 : String} {f0 f1 f2 f3 : Array Edge} {ops2 : List Oper} {body : Code} {Q : Exit → St → Prop} {s s1 : St} {es : List (AV × AV)}
  (hk : l0.drop kk = [⟨some it,.range T x,ty0,p0,f0,none⟩]) (pre : RL P n (l0.map (·.dst)) (l0.take kk) (fun e s'=>e = .normal ∧ s' = s1) s)
  (hu : P.underlying T = some (.map kt et)) (hx : ung true (opd s1.t x) = .mp im) (hid : s1.o[im]? = some (.mapo es)) (hl : litE es = true)
  (hd : (it < n ∧ d1 < n ∧ d2 < n ∧ d3 < n) ∧ d1 ≠ it ∧ d2 ≠ it ∧ d3 ≠ it ∧ d1 ≠ d2)
  (I : List (AV × AV) → (Nat → AV) → List Ob → Prop) (h0 : I es (upd s1.t it (.ptr s1.o.length 0 0)) (s1.o.set im .dead ++ [.dead]))
  (round : ∀ (l l' : List (AV × AV)) (k v : AV) (t : Nat → AV) (o : List Ob),I l t o → t it = .ptr s1.o.length 0 0 → l.Perm ((k,v) :: l') → (∀ y ∈ l,y ∈ es) →
   RL P n ((some d3) :: ops2.map (·.dst)) ops2 (seqQ P n body (rangeQ B B1 im es (fun s'=>I l' s'.t s'.o ∧ s'.t it = .ptr s1.o.length 0 0) Q)) ⟨upd (upd (upd t d1 (.tup [.b true,k,v])) d2 (.b true)) d3 (.tup [k,v]),o⟩)
  (fin : ∀ (t : Nat → AV) (o : List Ob),I [] t o → Q .normal ⟨upd (upd t d1 (.tup [.b false])) d2 (.b false),o.set im (.mapo es)⟩) :
  W P n (.seq (.region r0 l0.toArray false) (.block B (.loop (.seq (.region r1 [⟨some d1,.next (.tmp it) false,ty1,p1,f1,none⟩,⟨some d2,.extract (.tmp d1) 0,ty2,p2,f2,none⟩].toArray false)
     (.seq (.cond (.tmp d2) .skip (.exit B)) (.block B1 (.seq (.region r2 (⟨some d3,.entry (.tmp it),ty3,p3,f3,none⟩ :: ops2).toArray false) body))))))) Q s:=by
 obtain ⟨⟨hin,h1n,h2n,h3n⟩,h1i,h2i,h3i,h12⟩:=hd
 intro g a w hn hat
 -- the region before
 refine wp_seq (wp_mono (Q:=fun e a' w'=>e = .normal ∧ ∃ (h : Hid) (w0 : World) (Y0 : CS) (m0 : List MB),h.im = im ∧ h.ii = s1.o.length ∧ HAt g h #[] ⟨upd s1.t it (.ptr s1.o.length 0 0),s1.o.set im .dead ++ [.dead]⟩ a' w' ∧
   MapR w0 Y0 m0 es h.ents.toList ∧ (h.ents.toList.Pairwise fun a b=>a.born < b.born) ∧ ∀ e ∈ h.ents.toList,e.born < h.clock) (wp_region ?_) ?_)
 ·have hkl : kk < l0.length:=by
   have:=congrArg List.length hk
   simp only [List.length_drop,List.length_cons,List.length_nil] at this;omega
  have hlen : l0.length = kk + 1:=by
   have:=congrArg List.length hk
   simp only [List.length_drop,List.length_cons,List.length_nil] at this;omega
  have hsz : l0.toArray.size = kk + 1:=by simp [hlen]
  have hlast : l0.toArray[kk]? = some ⟨some it,.range T x,ty0,p0,f0,none⟩:=by
   have : (l0.drop kk)[0]? = some ⟨some it,.range T x,ty0,p0,f0,none⟩:=by rw [hk];rfl
   rw [List.getElem?_drop] at this
   simpa using this
  rw [hsz,List.range_succ]
  refine wpOps_append _ _ _ ?_
  have hfit : FitsL l0.toArray (List.range kk) (l0.take kk):=by
   have key : ∀ (k : Nat) (i : Nat),i + k ≤ kk → FitsL l0.toArray (List.range' i k) ((l0.drop i).take k):=by
    intro k
    induction k with
    | zero=>intro i _;simp [FitsL]
    | succ k ih =>
     intro i hi
     have hil : i < l0.length:=by omega
     rw [List.range'_succ,List.drop_eq_getElem_cons hil,List.take_succ_cons]
     refine ⟨by simp [hil],ih (i + 1) (by omega)⟩
   have:=key kk 0 (by omega)
   rwa [List.drop_zero,← List.range_eq_range'] at this
  refine wpOps_mono2 ?_ _ _ _ (pre l0.toArray _ (by simp) hfit g a w hn hat)
  rintro e a' w' ⟨s',⟨rfl,rfl⟩,hat'⟩
  show wpOps P _ _ [kk] a' w'
  obtain ⟨⟨m,reg,q1,q2,q3⟩,q4,q5,q6⟩:=hat'
  have hv:=ung_V (g:=true) rfl (opd_V q1.tv x)
  rw [hx] at hv
  simp only [V] at hv
  obtain ⟨mb,hmb,hv⟩:=hv
  obtain ⟨ents,clock,e1,e2,e3,e4⟩:=q1.ob im _ mb hid hmb
  refine wpOps_val hlast rfl (v:=.pointer (some ⟨w'.heap.size,0,none⟩)) (w':={ w' with heap:=w'.heap.push (.mapIter (some mb.blk) clock #[] clock) }) ?_ ?_
  ·have hg : (getObj mb.blk).run P w' = .ok (.map ents clock) w':=by simp [getObj,Sem.run,e1]
   have hxv : a'.eval x = .map (some mb.blk):=hv
   have : (Instr.range T (.map (some mb.blk))).run P w' = .ok (.pointer (some ⟨w'.heap.size,0,none⟩)) { w' with heap:=w'.heap.push (.mapIter (some mb.blk) clock #[] clock) }:=by
    unfold Instr.range
    simp only [srun_bind,run_und hu,hg,srun_pure,Result.andThen]
    simp [newObj,Sem.run]
   show ((do pure (Next.value (← Instr.range T (a'.eval x))) : Sem Next)).run P w' = _
   rw [hxv,srun_bind_ok this];rfl
  ·obtain ⟨r1',x1⟩:=q1.hideMap hid hmb
   obtain ⟨r2',x2⟩:=r1'.addDead (.mapIter (some mb.blk) clock #[] clock)
   have hgr:=Grow.push w' (.mapIter (some mb.blk) clock #[] clock)
   have hblt:=get_lt e1
   refine ⟨rfl,⟨im,s'.o.length,mb.blk,w'.heap.size,ents,clock⟩,w',_,m,rfl,rfl,?_,e2,e3,e4⟩
   have H : HAt g ⟨im,s'.o.length,mb.blk,w'.heap.size,ents,clock⟩ #[] ⟨s'.t,s'.o.set im .dead ++ [.dead]⟩ a' { w' with heap:=w'.heap.push (.mapIter (some mb.blk) clock #[] clock) }:=by
    refine ⟨⟨_,reg,mb,⟨w'.heap.size,0,0,0⟩,r2',fun b y k=>q2 b y (x1 b y (x2 b y k)),fun id mb' k=>?_,?_,rfl,?_,rfl⟩,q4.trans (hgr.evol g.X) (fun b y k=>.inl k),q5,q6,?_,?_,?_,q4.size,?_,?_⟩
    ·have:=q3 _ _ k
     rw [append_get,if_neg (by have:=(List.getElem?_eq_some_iff.1 this).1;omega)]
     exact this
    ·rw [append_get,if_neg (by have:=(List.getElem?_eq_some_iff.1 hmb).1;simp only;omega)]
     exact hmb
    ·rw [append_get,if_pos q1.len.symm]
    ·exact hgr.obj e1
    ·show (w'.heap.push _)[w'.heap.size]? = _
     simp
    ·exact fun y=>q2 _ y (.inl ⟨im,_,mb,hid,trivial,hmb,rfl⟩)
    ·exact fun y k=>q1.zx _ y k (.inl ⟨im,_,mb,hid,trivial,hmb,rfl⟩)
    ·simp only;omega
   obtain ⟨g',k1,k2,k3⟩:=H.inner
   obtain ⟨⟨m3,reg3,u1,u2,u3⟩,u4,u5,u6⟩:=k2
   obtain ⟨m4,reg4,mb4,mi4,v1,v2,v3,v4,v5,v6,v7⟩:=H.rel
   refine ⟨⟨_,(fun p=>if p = .t it then none else reg4 p),mb4,mi4,?_,?_,v3,v4,v5,v6,v7⟩,H.evol,by rw [put_size];exact H.size,by rw [put_defers];exact H.defers,H.map,H.it,H.gx,H.gi,H.zm,H.ne⟩
   ·show Rel _ _ m4 (fun p=>if p = .t it then none else reg4 p) (upd s'.t it _) (fun k=>(a'.put (some it) _).tmps.getD k undef) _
    rw [put_getD a' it _ (by rw [q5];omega)]
    refine v1.put it ?_ (.inl rfl)
    simp only [V]
    exact ⟨_,v6,by subst v7;simp⟩
   ·rintro b y (k | ⟨p,rg,g1,g2⟩)
    ·exact v2 b y (.inl k)
    ·simp only at g1
     split at g1
     ·cases g1
     ·exact v2 b y (.inr ⟨p,rg,g1,g2⟩)
 ·rintro e a' w' ⟨rfl,h,w0,Y0,m0,hhi,hii,H,hr,hp,hc⟩
  show Code.wp P _ _ a' w'
  have hlen : es.length = h.ents.toList.length:=(MapR.length hr).symm
  have hnd : (h.ents.toList.map (·.born)).Nodup:=by
   rw [List.nodup_iff_pairwise_ne,List.pairwise_map]
   exact hp.imp fun h=>Nat.ne_of_lt h
  have hout : ∀ {seen : Array Nat} {s : St} {a : Act} {w : World},HAt g h seen s a w → At g ⟨s.t,s.o.set im (.mapo es)⟩ a w:=fun H=>hhi ▸ H.out hl hr hp hc
  refine wp_block (wp_loopN (fun N a w=>∃ seen t o,HAt g h seen ⟨t,o⟩ a w ∧ I ((remE es h.ents.toList seen).map (·.1)) t o ∧ t it = .ptr s1.o.length 0 0 ∧ (remE es h.ents.toList seen).length = N) ?_ (N:=es.length)
   ⟨#[],_,_,H,?_,by simp [upd],?_⟩)
  ·rintro N a2 w2 ⟨seen,t,o,H2,hI,hti,hN⟩
   have hit2 : a2.eval (.tmp it) = .pointer (some ⟨h.bi,0,none⟩):=H2.slot (s:=⟨t,o⟩) (by simpa [hii] using hti)
   have hexec : ∀ (v : Value) (w3 : World),(Instr.next (.pointer (some ⟨h.bi,0,none⟩)) false ty1).run P w2 = .ok v w3 → (execOp a2.eval ⟨some d1,.next (.tmp it) false,ty1,p1,f1,none⟩).run P w2 = .ok (.value v) w3:=by
    intro v w3 hv
    show ((do pure (Next.value (← Instr.next (a2.eval (.tmp it)) false ty1)) : Sem Next)).run P w2 = _
    rw [hit2,srun_bind_ok hv];rfl
   have hext : ∀ (a3 : Act) (w3 : World) (b : Bool) (r : List Value),a3.eval (.tmp d1) = .tuple (Value.bool b :: r).toArray → (execOp a3.eval ⟨some d2,.extract (.tmp d1) 0,ty2,p2,f2,none⟩).run P w3 = .ok (.value (.bool b)) w3:=by
    intro a3 w3 b r hv
    show ((do pure (Next.value (← Instr.extract (a3.eval (.tmp d1)) 0)) : Sem Next)).run P w3 = _
    rw [hv]
    simp [Instr.extract,srun_bind,srun_pure,Result.andThen]
   have hput1 : ∀ (a3 : Act) (d : Nat) (v : Value),a3.tmps.size = g.n → d < n → (a3.put (some d) v).eval (.tmp d) = v:=by
    intro a3 d v hs hd
    show (a3.put (some d) v).tmps.getD d undef = v
    have:=congrFun (put_getD a3 d v (by omega)) d
    simp only [upd_same] at this
    exact this
   rcases run_next_at (P:=P) w2 ty1 h.bi h.bm h.clock h.clock seen h.ents h.clock H2.it H2.map hc (Nat.le_refl _) with ⟨hleft,hrun⟩ | ⟨e,he,w3,hw3,hrun⟩
   ·have hrem : remE es h.ents.toList seen = []:=by
     have hall:=all_seen h.ents seen hleft
     unfold remE
     rw [List.filter_eq_nil_iff]
     intro p hp
     have:=hall p.2 (List.of_mem_zip hp).2
     simpa using this
    rw [hrem] at hI
    have H3:=(H2.put (d:=d1) (by omega) (av:=.tup [.b false]) (v:=.tuple #[.bool false]) (by intro Y m;simp [V,Vs]) rfl)
    have H4:=(H3.put (d:=d2) (by omega) (av:=.b false) (v:=.bool false) (by intro Y m;simp [V]) rfl)
    refine wp_seq (wp_region ?_)
    show wpOps P _ _ [0,1] a2 w2
    refine wpOps_val (o:=⟨some d1,.next (.tmp it) false,ty1,p1,f1,none⟩) rfl rfl (hexec _ _ hrun) (wpOps_val (o:=⟨some d2,.extract (.tmp d1) 0,ty2,p2,f2,none⟩) rfl rfl (hext _ _ false [] (hput1 a2 d1 _ H2.size h1n)) ?_)
    show Code.wp P _ _ _ _
    refine wp_seq (wp_cond_false (hput1 _ d2 _ H3.size h2n) (wp_exit ?_))
    simp only [Exit.then,Exit.inBlock,if_true]
    exact ⟨_,fin _ _ hI,hout H4⟩
   ·have hmem:=mem_left he
    obtain ⟨j,hj⟩:=List.getElem?_of_mem hmem.1
    have hjl:=(List.getElem?_eq_some_iff.1 hj).1
    obtain ⟨kv,hkv⟩ : ∃ kv,es[j]? = some kv:=⟨_,List.getElem?_eq_getElem (by omega)⟩
    have hpm : (kv,e) ∈ es.zip h.ents.toList:=by
     refine List.mem_of_getElem? (i:=j) ?_
     rw [List.getElem?_zip_eq_some];exact ⟨hkv,hj⟩
    have hV:=MapR.pairs hr _ hpm
    have hlit : kv.1.lit = true ∧ kv.2.lit = true:=by
     have:=List.all_eq_true.1 hl kv (List.mem_of_getElem? hkv)
     simpa using this
    have hin' : (kv,e) ∈ remE es h.ents.toList seen:=by
     unfold remE
     rw [List.mem_filter]
     exact ⟨hpm,by simpa using hmem.2⟩
    have hnd2 : ((remE es h.ents.toList seen).map fun p=>p.2.born).Nodup:=by
     unfold remE
     exact ((List.filter_sublist.map _).nodup (by rw [zip_born hlen];exact hnd))
    have hperm:=perm_out (fun p : (AV × AV) × MapEntry=>p.2.born) _ _ hin' hnd2
    have hrem' : (remE es h.ents.toList seen).filter (fun y=>!(y.2.born == e.born)) = remE es h.ents.toList (seen.push e.born):=by
     unfold remE
     rw [List.filter_filter]
     refine List.filter_congr fun p hp=>?_
     simp only [Array.contains_push,Bool.not_or]
     rw [Bool.and_comm]
    rw [hrem'] at hperm
    have hperm2:=hperm.map (·.1)
    simp only [List.map_cons] at hperm2
    have hlenN:=hperm.length_eq
    simp only [List.length_cons] at hlenN
    have H3:=H2.step (seen':=seen.push e.born) hw3
    have H4:=(H3.put (d:=d1) (by omega) (av:=.tup [.b true,kv.1,kv.2]) (v:=.tuple #[.bool true,e.key,e.val]) (by
     intro Y m;simp only [V,Vs]
     exact ⟨_,rfl,_,_,rfl,rfl,_,_,rfl,V_lit hlit.1 hV.1,_,_,rfl,V_lit hlit.2 hV.2,rfl⟩) rfl)
    have H5:=(H4.put (d:=d2) (by omega) (av:=.b true) (v:=.bool true) (by intro Y m;simp [V]) rfl)
    refine wp_seq (wp_region ?_)
    show wpOps P _ _ [0,1] a2 w2
    refine wpOps_val (o:=⟨some d1,.next (.tmp it) false,ty1,p1,f1,none⟩) rfl rfl (hexec _ _ hrun) (wpOps_val (o:=⟨some d2,.extract (.tmp d1) 0,ty2,p2,f2,none⟩) rfl rfl (hext _ _ true [e.key,e.val] (hput1 a2 d1 _ H2.size h1n)) ?_)
    show Code.wp P _ _ _ _
    refine wp_seq (wp_cond_true (hput1 _ d2 _ H4.size h2n) (wp_skip ?_))
    show Code.wp P _ _ _ _
    refine wp_block (wp_seq (wp_region ?_))
    have hsz : (⟨some d3,.entry (.tmp it),ty3,p3,f3,none⟩ :: ops2 : List Oper).toArray.size = ops2.length + 1:=by simp
    rw [hsz,List.range_succ_eq_map]
    have hit5 : ((a2.put (some d1) (.tuple #[.bool true,e.key,e.val])).put (some d2) (.bool true)).eval (.tmp it) = .pointer (some ⟨h.bi,0,none⟩) :=
     H5.slot (by simp only [upd_ne _ _ _ (Ne.symm h2i),upd_ne _ _ _ (Ne.symm h1i),hii];exact hti)
    refine wpOps_val (o:=⟨some d3,.entry (.tmp it),ty3,p3,f3,none⟩) (by simp) rfl (v:=.tuple #[e.key,e.val]) (w':=Go.ChangeMaps.setBlock w3 h.bi (.mapIter (some h.bm) h.clock (seen.push e.born) h.clock)) ?_ ?_
    ·have hrun2:=run_entry_at (P:=P) (Go.ChangeMaps.setBlock w3 h.bi (.mapIter (some h.bm) h.clock (seen.push e.born) h.clock)) h.bi h.bm h.clock seen h.ents h.clock e H5.it H5.map hmem.1 hnd
     show ((do pure (Next.value (← Instr.entry (Act.eval _ (.tmp it)))) : Sem Next)).run P _ = _
     rw [hit5,srun_bind_ok hrun2];rfl
    have H6:=(H5.put (d:=d3) (by omega) (av:=.tup [kv.1,kv.2]) (v:=.tuple #[e.key,e.val]) (by
     intro Y m;simp only [V,Vs]
     exact ⟨_,rfl,_,_,rfl,V_lit hlit.1 hV.1,_,_,rfl,V_lit hlit.2 hV.2,rfl⟩) rfl)
    have hrd:=round _ _ kv.1 kv.2 t o hI hti hperm2 (fun y hy=>by
     obtain ⟨p,hp1,rfl⟩:=List.mem_map.1 hy
     unfold remE at hp1
     exact (List.of_mem_zip (List.mem_filter.1 hp1).1).1)
    have hfit : FitsL (⟨some d3,.entry (.tmp it),ty3,p3,f3,none⟩ :: ops2 : List Oper).toArray ((List.range ops2.length).map Nat.succ) ops2:=by
     have key : ∀ (l pre : List Oper),(⟨some d3,.entry (.tmp it),ty3,p3,f3,none⟩ :: ops2 : List Oper) = pre ++ l → FitsL (⟨some d3,.entry (.tmp it),ty3,p3,f3,none⟩ :: ops2 : List Oper).toArray (List.range' pre.length l.length) l:=by
      intro l
      induction l with
      | nil=>intro pre _;simp [FitsL]
      | cons q l ih =>
       intro pre hpre
       simp only [List.length_cons,List.range'_succ,FitsL]
       refine ⟨by rw [hpre];simp,?_⟩
       have:=ih (pre ++ [q]) (by rw [hpre];simp)
       simpa using this
     have:=key ops2 [⟨some d3,.entry (.tmp it),ty3,p3,f3,none⟩] rfl
     have e9 : (List.range ops2.length).map Nat.succ = List.range' 1 ops2.length:=by
      rw [List.range'_eq_map_range]
      exact List.map_congr_left fun z _=>by omega
     rw [e9]
     exact this
    refine wpOps_mono2 ?_ _ _ _ (hrd.hid (by simp) hfit hn H6)
    rintro e3 a3 w4 ⟨s3,hq3,H7⟩
    have hend : ∀ (e4 : Exit) (s4 : St) (a4 : Act) (w5 : World),rangeQ B B1 im es (fun s'=>I ((remE es h.ents.toList (seen.push e.born)).map (·.1)) s'.t s'.o ∧ s'.t it = .ptr s1.o.length 0 0) Q e4 s4 → HAt g h (seen.push e.born) s4 a4 w5 →
      Exit.inBlock B1 (Exit.then (fun a' w'=>∃ M,M < N ∧ ∃ seen t o,HAt g h seen ⟨t,o⟩ a' w' ∧ I ((remE es h.ents.toList seen).map (·.1)) t o ∧ t it = .ptr s1.o.length 0 0 ∧ (remE es h.ents.toList seen).length = M)
       (Exit.inBlock B (fun e a' w'=>∃ s',Q e s' ∧ At g s' a' w'))) e4 a4 w5:=by
     intro e4 s4 a4 w5 hq H8
     have hgo : (I ((remE es h.ents.toList (seen.push e.born)).map (·.1)) s4.t s4.o ∧ s4.t it = .ptr s1.o.length 0 0) → ∃ M,M < N ∧ ∃ seen t o,HAt g h seen ⟨t,o⟩ a4 w5 ∧ I ((remE es h.ents.toList seen).map (·.1)) t o ∧ t it = .ptr s1.o.length 0 0 ∧ (remE es h.ents.toList seen).length = M :=
      fun hk=>⟨_,by omega,seen.push e.born,s4.t,s4.o,H8,hk.1,hk.2,rfl⟩
     cases e4 with
     | normal=>exact hgo hq
     | exit b =>
      simp only [rangeQ] at hq
      simp only [Exit.inBlock]
      split
      ·rename_i eb
       rw [if_pos eb] at hq
       exact hgo hq
      ·rename_i eb
       rw [if_neg eb] at hq
       simp only [Exit.then,Exit.inBlock]
       split
       ·rename_i eb2
        rw [if_pos eb2] at hq
        exact ⟨_,hq,hout H8⟩
       ·rename_i eb2
        rw [if_neg eb2] at hq
        exact ⟨_,hq,hout H8⟩
     | _=>exact ⟨_,hq,hout H8⟩
    cases e3 with
    | normal=>exact wp_mono (W.hid (s:=s3) hq3 hn H7) fun e4 a4 w5 ⟨s4,q1,q2⟩=>hend e4 s4 a4 w5 q1 q2
    | exit b=>exact hend (.exit b) s3 a3 w4 hq3 H7
    | goto b=>exact hend (.goto b) s3 a3 w4 hq3 H7
    | ret=>exact hend .ret s3 a3 w4 hq3 H7
    | panic b=>exact hend (.panic b) s3 a3 w4 hq3 H7
    | outgrown=>exact hend .outgrown s3 a3 w4 hq3 H7
  ·unfold remE
   rw [List.filter_eq_self.2 (by intro p _;simp),List.map_fst_zip (by omega)]
   exact h0
  ·unfold remE
   rw [List.filter_eq_self.2 (by intro p _;simp),List.length_zip];omega
end
end Go.AW
namespace Go.AW
open Go
set_option linter.unusedSimpArgs false
set_option linter.unusedVariables false
attribute [go_sem] List.drop_succ_cons
section
variable {P : Program} {n : Nat} {gd : List (Option Nat)} {tk : List Nat} {Q : Exit → St → Prop} {s : St}
theorem RL_runRp (kk : Nat) : ∀ {l : List Oper} {s : St},runR P n gd tk (fun l' s=>RL P n gd (l' ++ l.drop kk) Q s) (l.take kk) (fun s=>RL P n gd (l.drop kk) Q s) s → RL P n gd l Q s:=by
 intro l
 have key : ∀ (a b : List Oper) (s : St),runR P n gd tk (fun l' s=>RL P n gd (l' ++ b) Q s) a (fun s=>RL P n gd b Q s) s → RL P n gd (a ++ b) Q s:=by
  intro a b
  induction a with
  | nil=>intro s h;exact h
  | cons o r ih =>
   intro s h
   simp only [runR] at h
   split at h
   ·exact h
   ·exact RL_one (tk:=tk) (s':=(runO P n gd tk o s).2) (by rw [← h.1]) (ih _ h.2)
 intro s h
 have:=key (l.take kk) (l.drop kk) s h
 rwa [List.take_append_drop] at this
theorem RL_part (tk : List Nat) (kk : Nat) {l : List Oper} (h : ∀ (R : List Oper → St → Prop),(∀ l s,RL P n gd l Q s → R l s) → runR P n gd tk (fun l'=>R (l' ++ l.drop kk)) (l.take kk) (R (l.drop kk)) s) : RL P n gd l Q s :=
 RL_runRp kk (h _ (fun _ _ h=>h))
theorem W_part {id : Nat} {l : List Oper} (tk : List Nat) (kk : Nat) (h : ∀ (R : List Oper → St → Prop),(∀ l' s,RL P n (l.map (·.dst)) l' Q s → R l' s) → runR P n (l.map (·.dst)) tk (fun l'=>R (l' ++ l.drop kk)) (l.take kk) (R (l.drop kk)) s) : W P n (.region id l.toArray false) Q s :=
 W_region (RL_part tk kk h)
end
end Go.AW
