/-
Plain law: all tuples in order; strictly rising lists.
-/
import Derived.Test.YtfjdiofipbchcaaGreatKah
import Derived.Test.YtfjdiofipbchcaaGreatKag
import Derived.Test.YtfjdiofipbchcaaGreatKaf
namespace Go.AW
open Go
set_option linter.unusedSimpArgs false
set_option linter.unusedVariables false
def Up (l : List (List Int)) : Prop:=l.Pairwise fun x y=>cmpL x y < 0
def InT (n k : Nat) (t : List Int) : Prop:=t.length = k ∧ ∀ x ∈ t,0 ≤ x ∧ x < n
structure Tab (n k : Nat) (l : List (List Int)) : Prop where
 up : Up l
 el : ∀ t ∈ l,InT n k t
theorem cmpL_snoc : ∀ (a b : List Int) (x y : Int),a.length = b.length → cmpL (a ++ [x]) (b ++ [y]) = if cmpL a b ≠ 0 then cmpL a b else cmpF x y
 | [],[],x,y,_=>by
  simp only [List.nil_append,cmpL]
  by_cases h : cmpF x y = 0
  ·simp [h]
  ·simp [h]
 | a :: l,b :: r,x,y,h=>by
  have ih:=cmpL_snoc l r x y (by simpa using h)
  simp only [List.cons_append,cmpL]
  by_cases h0 : cmpF a b = 0
  ·simp only [h0,ne_eq,not_true,if_false];rw [ih]
  ·simp only [ne_eq,h0,not_false_eq_true,if_true]
theorem digs_in (n : Nat) (hn : 1 ≤ n) : ∀ k r,InT n k (digs n k r)
 | 0,r=>⟨rfl,fun x hx=>by cases hx⟩
 | k + 1,r=>by
  have ih:=digs_in n hn k (r / n)
  refine ⟨by simp [digs,ih.1],fun x hx=>?_⟩
  simp only [digs,List.mem_append,List.mem_singleton] at hx
  rcases hx with hx | rfl
  ·exact ih.2 x hx
  ·have:=Nat.mod_lt r (show n > 0 by omega)
   omega
theorem digs_lt (n : Nat) (hn : 1 ≤ n) : ∀ k r r',r < r' → r' < n ^ k → cmpL (digs n k r) (digs n k r') < 0
 | 0,r,r',h,h'=>by simp at h';omega
 | k + 1,r,r',h,h'=>by
  simp only [digs]
  rw [cmpL_snoc _ _ _ _ (by rw [digs_len,digs_len])]
  have hd : r / n ≤ r' / n:=Nat.div_le_div_right (Nat.le_of_lt h)
  rcases Nat.lt_or_eq_of_le hd with hd | hd
  ·have:=digs_lt n hn k (r / n) (r' / n) hd (by rw [Nat.div_lt_iff_lt_mul (by omega)];rw [Nat.pow_succ] at h';exact h')
   rw [if_pos (by omega)];exact this
  ·rw [hd,cmpL_self]
   simp only [ne_eq,not_true,if_false]
   have h1:=Nat.div_add_mod r n
   have h2:=Nat.div_add_mod r' n
   rw [hd] at h1
   unfold cmpF
   rw [if_pos (by omega)]
   decide
theorem allT_up (n k : Nat) (hn : 1 ≤ n) : Up (allT n k):=by
 unfold Up allT
 rw [List.pairwise_map]
 refine (List.pairwise_lt_range (n:=n ^ k)).imp_of_mem fun {a b} ha hb h=>?_
 exact digs_lt n hn k a b h (by simpa using hb)
theorem digs_surj (n : Nat) (hn : 1 ≤ n) : ∀ k (t : List Int),InT n k t → ∃ r,r < n ^ k ∧ digs n k r = t
 | 0,t,h=>⟨0,by simp,by rw [List.length_eq_zero_iff.1 h.1];rfl⟩
 | k + 1,t,h=>by
  have hne : t ≠ []:=by rintro rfl;have:=h.1;simp at this
  obtain ⟨a,x,rfl⟩ : ∃ a x,t = a ++ [x]:=⟨t.dropLast,t.getLast hne,(List.dropLast_concat_getLast hne).symm⟩
  have hl : a.length = k:=by have:=h.1;simp at this;exact this
  obtain ⟨r,hr,hd⟩:=digs_surj n hn k a ⟨hl,fun y hy=>h.2 y (by simp [hy])⟩
  have hx:=h.2 x (by simp)
  obtain ⟨m,rfl⟩:=Int.eq_ofNat_of_zero_le hx.1
  have hm : m < n:=by omega
  refine ⟨r * n + m,?_,?_⟩
  ·rw [Nat.pow_succ]
   have : (r + 1) * n ≤ n ^ k * n:=Nat.mul_le_mul_right n hr
   rw [Nat.add_mul] at this
   omega
  ·have e1 : (r * n + m) / n = r:=by
    rw [Nat.mul_comm,Nat.mul_add_div (by omega),Nat.div_eq_of_lt hm,Nat.add_zero]
   have e2 : (r * n + m) % n = m:=by rw [Nat.mul_comm,Nat.mul_add_mod,Nat.mod_eq_of_lt hm]
   simp only [digs]
   rw [e1,e2,hd]
theorem mem_allT (n k : Nat) (hn : 1 ≤ n) (t : List Int) : t ∈ allT n k ↔ InT n k t:=by
 unfold allT
 rw [List.mem_map]
 constructor
 ·rintro ⟨r,_,rfl⟩;exact digs_in n hn k r
 ·intro h
  obtain ⟨r,hr,hd⟩:=digs_surj n hn k t h
  exact ⟨r,by simpa using hr,hd⟩
theorem allT_tab (n k : Nat) (hn : 1 ≤ n) : Tab n k (allT n k):=⟨allT_up n k hn,fun t h=>(mem_allT n k hn t).1 h⟩
theorem allT_len (n k : Nat) : (allT n k).length = n ^ k:=by simp [allT]
theorem up_ext : ∀ {a b : List (List Int)},Up a → Up b → (∀ t,t ∈ a ↔ t ∈ b) → a = b
 | [],[],_,_,_=>rfl
 | [],y :: b,_,_,h=>by have:=(h y).2 (by simp);simp at this
 | x :: a,[],_,_,h=>by have:=(h x).1 (by simp);simp at this
 | x :: a,y :: b,ha,hb,h=>by
  have ha':=List.pairwise_cons.1 ha
  have hb':=List.pairwise_cons.1 hb
  have irr : ∀ t : List Int,¬ cmpL t t < 0:=fun t=>by rw [cmpL_self];decide
  have asym : ∀ {s t : List Int},cmpL s t < 0 → ¬ cmpL t s < 0:=fun {s t} h k=>irr s (cmpL_trans h k)
  have hxy : x = y:=by
   rcases List.mem_cons.1 ((h x).1 (by simp)) with e | hx
   ·exact e
   ·rcases List.mem_cons.1 ((h y).2 (by simp)) with e | hy
    ·exact e.symm
    ·exact absurd (ha'.1 y hy) (asym (hb'.1 x hx))
  subst hxy
  rw [up_ext ha'.2 hb'.2 fun t=>?_]
  constructor
  ·intro ht
   rcases List.mem_cons.1 ((h t).1 (by simp [ht])) with rfl | h'
   ·exact absurd (ha'.1 t ht) (irr t)
   ·exact h'
  ·intro ht
   rcases List.mem_cons.1 ((h t).2 (by simp [ht])) with rfl | h'
   ·exact absurd (hb'.1 t ht) (irr t)
   ·exact h'
theorem Up.filter {l : List (List Int)} (h : Up l) (p : List Int → Bool) : Up (l.filter p):=List.Pairwise.filter p h
theorem Tab.eq {n k : Nat} {l : List (List Int)} (hn : 1 ≤ n) (h : Tab n k l) : l = (allT n k).filter fun t=>decide (t ∈ l):=by
 refine up_ext h.up ((allT_up n k hn).filter _) fun t=>?_
 rw [List.mem_filter,mem_allT n k hn,decide_eq_true_iff]
 exact ⟨fun ht=>⟨h.el t ht,ht⟩,fun ht=>ht.2⟩
theorem Tab.len {n k : Nat} {l : List (List Int)} (hn : 1 ≤ n) (h : Tab n k l) : l.length ≤ n ^ k:=by
 rw [h.eq hn,← allT_len n k]
 exact List.length_filter_le _ _
theorem Tab.filter {n k : Nat} {l : List (List Int)} (h : Tab n k l) (p : List Int → Bool) : Tab n k (l.filter p) :=
 ⟨h.up.filter p,fun t ht=>h.el t (List.mem_filter.1 ht).1⟩
theorem ddN_mem (l : List (List Int)) : ∀ m,m ≤ l.length → ∀ t,t ∈ ddN l m ↔ t ∈ l.take m
 | 0,_,t=>by simp [ddN]
 | m + 1,hm,t=>by
  have ih:=ddN_mem l m (by omega)
  obtain ⟨x,hx⟩ : ∃ x,l[m]? = some x:=⟨_,List.getElem?_eq_getElem (by omega)⟩
  have hg : l.getD m [] = x:=by simp [hx]
  simp only [ddN]
  rw [List.take_add_one,hx,hg]
  split
  ·rename_i hc
   rw [ih t]
   simp only [Option.toList_some,List.mem_append,List.mem_singleton]
   constructor
   ·exact .inl
   ·rintro (h | rfl)
    ·exact h
    ·obtain ⟨y,hy⟩ : ∃ y,l[m - 1]? = some y:=⟨_,List.getElem?_eq_getElem (by omega)⟩
     have hg2 : l.getD (m - 1) [] = y:=by simp [hy]
     rw [hg2] at hc
     rw [hc.2]
     exact List.mem_of_getElem? (i:=m - 1) (by rw [List.getElem?_take,if_pos (by omega)];exact hy)
  ·simp only [List.mem_append,List.mem_singleton,Option.toList_some,ih t]
theorem ddN_up {l : List (List Int)} (h : Rise l) : ∀ m,m ≤ l.length → Up (ddN l m)
 | 0,_=>List.Pairwise.nil
 | m + 1,hm=>by
  have ih:=ddN_up h m (by omega)
  obtain ⟨x,hx⟩ : ∃ x,l[m]? = some x:=⟨_,List.getElem?_eq_getElem (by omega)⟩
  have hg : l.getD m [] = x:=by simp [hx]
  simp only [ddN]
  rw [hg]
  split
  ·exact ih
  ·rename_i hc
   unfold Up
   rw [List.pairwise_append]
   refine ⟨ih,by simp,fun a ha b hb=>?_⟩
   obtain rfl:=List.mem_singleton.1 hb
   rw [ddN_mem l m (by omega)] at ha
   obtain ⟨j,hj,hja⟩:=mem_take_ex ha
   have h1:=h.get (i:=j) (j:=m) (by omega) hja hx
   rcases Int.lt_or_eq_of_le h1 with h1 | h1
   ·exact h1
   ·exfalso
    have e1:=cmpL_zero h1
    subst e1
    obtain ⟨y,hy⟩ : ∃ y,l[m - 1]? = some y:=⟨_,List.getElem?_eq_getElem (by omega)⟩
    have hg2 : l.getD (m - 1) [] = y:=by simp [hy]
    rw [hg2] at hc
    have h2:=h.get (i:=j) (j:=m - 1) (by omega) hja hy
    have h3:=h.get (i:=m - 1) (j:=m) (by omega) hy hx
    have h4:=cmpL_swap y a
    exact hc ⟨by omega,(cmpL_zero (by omega)).symm⟩
theorem sortT_mem (l : List (List Int)) (t : List Int) : t ∈ sortT l ↔ t ∈ l:=by
 unfold sortT
 rw [ddN_mem _ _ (Nat.le_refl _),List.take_length]
 exact (sortL_perm l).mem_iff
theorem sortT_up (l : List (List Int)) : Up (sortT l):=ddN_up (sortL_pw l) _ (Nat.le_refl _)
theorem sortT_tab {n k : Nat} {l : List (List Int)} (h : ∀ t ∈ l,InT n k t) : Tab n k (sortT l):=⟨sortT_up l,fun t ht=>h t ((sortT_mem l t).1 ht)⟩
theorem cmpL_append : ∀ (a b u v : List Int),a.length = b.length → cmpL (a ++ u) (b ++ v) = if cmpL a b ≠ 0 then cmpL a b else cmpL u v
 | [],[],u,v,_=>by simp [cmpL]
 | a :: l,b :: r,u,v,h=>by
  have ih:=cmpL_append l r u v (by simpa using h)
  simp only [List.cons_append,cmpL]
  by_cases h0 : cmpF a b = 0
  ·simp only [h0,ne_eq,not_true,if_false];rw [ih]
  ·simp only [ne_eq,h0,not_false_eq_true,if_true]
theorem joinF_tab {n i j : Nat} {a b : List (List Int)} (ha : Tab n i a) (hb : Tab n j b) : Tab n (i + j) (joinF a b):=by
 constructor
 ·unfold Up joinF
  have : ∀ l : List (List Int),Up l → (∀ t ∈ l,InT n i t) → Up (l.flatMap fun t=>b.map fun u=>t ++ u):=by
   intro l
   induction l with
   | nil=>intro _ _;exact List.Pairwise.nil
   | cons x l ih =>
    intro hu hel
    have hu':=List.pairwise_cons.1 hu
    rw [List.flatMap_cons]
    unfold Up
    rw [List.pairwise_append]
    refine ⟨?_,ih hu'.2 fun t ht=>hel t (by simp [ht]),?_⟩
    ·rw [List.pairwise_map]
     refine hb.up.imp fun {u v} h=>?_
     rw [cmpL_append _ _ _ _ rfl,cmpL_self];simpa using h
    ·intro p hp q hq
     obtain ⟨u,hu1,rfl⟩:=List.mem_map.1 hp
     obtain ⟨y,hy,hq⟩:=List.mem_flatMap.1 hq
     obtain ⟨v,hv,rfl⟩:=List.mem_map.1 hq
     have hxy:=hu'.1 y hy
     rw [cmpL_append _ _ _ _ (by rw [(hel x (by simp)).1,(hel y (by simp [hy])).1]),if_pos (by omega)]
     exact hxy
  exact this a ha.up ha.el
 ·intro t ht
  unfold joinF at ht
  obtain ⟨x,hx,ht⟩:=List.mem_flatMap.1 ht
  obtain ⟨u,hu,rfl⟩:=List.mem_map.1 ht
  have h1:=ha.el x hx
  have h2:=hb.el u hu
  refine ⟨by rw [List.length_append,h1.1,h2.1],fun y hy=>?_⟩
  rcases List.mem_append.1 hy with hy | hy
  ·exact h1.2 y hy
  ·exact h2.2 y hy
theorem places_in {n k : Nat} {cs : List Int} {t : List Int} (ht : InT n k t) (hc : ∀ c ∈ cs,0 ≤ c ∧ c < k) : InT n cs.length (placesF cs t):=by
 refine ⟨by simp [placesF],fun x hx=>?_⟩
 unfold placesF at hx
 obtain ⟨c,hcm,rfl⟩:=List.mem_map.1 hx
 have:=hc c hcm
 have hl : c.toNat < t.length:=by rw [ht.1];omega
 have : t.getD c.toNat 0 = t[c.toNat]:=by simp [hl]
 rw [this]
 exact ht.2 _ (List.getElem_mem hl)
end Go.AW
namespace Go.AW
open Go
set_option linter.unusedSimpArgs false
set_option linter.unusedVariables false
def rankN (n : Nat) (t : List Int) : Nat:=t.foldl (fun r x=>r * n + x.toNat) 0
theorem rankN_snoc (n : Nat) (t : List Int) (x : Int) : rankN n (t ++ [x]) = rankN n t * n + x.toNat:=by simp [rankN]
theorem InT.snoc {n k : Nat} {t : List Int} {x : Int} (h : InT n (k + 1) (t ++ [x])) : InT n k t ∧ 0 ≤ x ∧ x < n :=
 ⟨⟨by have:=h.1;simp at this;exact this,fun y hy=>h.2 y (by simp [hy])⟩,h.2 x (by simp)⟩
theorem InT.split {n k : Nat} {t : List Int} (h : InT n (k + 1) t) : ∃ a x,t = a ++ [x]:=by
 have hne : t ≠ []:=by rintro rfl;have:=h.1;simp at this
 exact ⟨t.dropLast,t.getLast hne,(List.dropLast_concat_getLast hne).symm⟩
theorem digs_rank (n : Nat) (hn : 1 ≤ n) : ∀ k (t : List Int),InT n k t → rankN n t < n ^ k ∧ digs n k (rankN n t) = t
 | 0,t,h=>by
  have : t = []:=List.length_eq_zero_iff.1 h.1
  subst this
  exact ⟨by simp [rankN],rfl⟩
 | k + 1,t,h=>by
  obtain ⟨a,x,rfl⟩:=h.split
  obtain ⟨ha,hx0,hx1⟩:=h.snoc
  obtain ⟨h1,h2⟩:=digs_rank n hn k a ha
  obtain ⟨m,rfl⟩:=Int.eq_ofNat_of_zero_le hx0
  have hm : m < n:=by omega
  rw [rankN_snoc]
  generalize rankN n a = r at *
  simp only [Int.toNat_natCast,Int.ofNat_eq_natCast]
  have e1 : (r * n + m) / n = r:=by rw [Nat.mul_comm,Nat.mul_add_div (by omega),Nat.div_eq_of_lt hm,Nat.add_zero]
  have e2 : (r * n + m) % n = m:=by rw [Nat.mul_comm,Nat.mul_add_mod,Nat.mod_eq_of_lt hm]
  refine ⟨?_,by simp only [digs];rw [e1,e2,h2]⟩
  rw [Nat.pow_succ]
  have : (r + 1) * n ≤ n ^ k * n:=Nat.mul_le_mul_right n h1
  rw [Nat.add_mul] at this
  omega
theorem allT_rank {n k : Nat} (hn : 1 ≤ n) {t : List Int} (h : InT n k t) : (allT n k)[rankN n t]? = some t:=by
 obtain ⟨h1,h2⟩:=digs_rank n hn k t h
 unfold allT
 rw [List.getElem?_map,List.getElem?_range h1]
 simp [h2]
theorem allT_inj {n k i j : Nat} (hn : 1 ≤ n) {t : List Int} (hi : (allT n k)[i]? = some t) (hj : (allT n k)[j]? = some t) : i = j:=by
 have hu:=allT_up n k hn
 have key : ∀ i j : Nat,i < j → (allT n k)[i]? = some t → ¬ (allT n k)[j]? = some t:=by
  intro i j hij hi hj
  obtain ⟨h1,rfl⟩:=List.getElem?_eq_some_iff.1 hi
  obtain ⟨h2,e⟩:=List.getElem?_eq_some_iff.1 hj
  have:=(List.pairwise_iff_getElem.1 hu) i j h1 h2 hij
  rw [e,cmpL_self] at this
  omega
 rcases Nat.lt_trichotomy i j with h | h | h
 ·exact absurd hj (key i j h hi)
 ·exact h
 ·exact absurd hi (key j i h hj)
theorem rank_take {n k : Nat} (hn : 1 ≤ n) {t : List Int} (h : InT n k t) (i : Nat) : rankN n (t.take i) < n ^ k:=by
 have hk : (t.take i).length ≤ k:=by rw [List.length_take,h.1];omega
 have hin : InT n (t.take i).length (t.take i):=⟨rfl,fun x hx=>h.2 x (List.mem_of_mem_take hx)⟩
 have h1:=(digs_rank n hn _ _ hin).1
 exact Nat.lt_of_lt_of_le h1 (Nat.pow_le_pow_right hn hk)
theorem rank_step {n : Nat} {t : List Int} {i : Nat} {x : Int} (hx : t[i]? = some x) : rankN n (t.take (i + 1)) = rankN n (t.take i) * n + x.toNat:=by
 rw [List.take_add_one,hx];exact rankN_snoc n _ x
def hasF (n k : Nat) (f : List Int → Bool) : List Bool:=(allT n k).map f
theorem hasF_len (n k : Nat) (f : List Int → Bool) : (hasF n k f).length = n ^ k:=by simp [hasF,allT_len]
theorem hasF_set {n k : Nat} (hn : 1 ≤ n) {t : List Int} (h : InT n k t) (f : List Int → Bool) (b : Bool) : (hasF n k f).set (rankN n t) b = hasF n k fun u=>if u = t then b else f u:=by
 apply List.ext_getElem?
 intro i
 unfold hasF
 rw [List.getElem?_set,List.length_map,List.getElem?_map,List.getElem?_map]
 have hr:=allT_rank hn h
 by_cases hi : rankN n t = i
 ·subst hi
  have hl:=(List.getElem?_eq_some_iff.1 hr).1
  rw [hr]
  simp [hl]
 ·rw [if_neg hi]
  cases hu : (allT n k)[i]? with
  | none=>rfl
  | some u =>
   have : u ≠ t:=by
    rintro rfl
    exact hi (allT_inj hn hr hu)
   simp [this]
theorem hasF_get {n k : Nat} {f : List Int → Bool} {i : Nat} {t : List Int} (h : (allT n k)[i]? = some t) : (hasF n k f)[i]? = some (f t):=by
 unfold hasF;rw [List.getElem?_map,h];rfl
theorem hasF_false (n k : Nat) : hasF n k (fun _=>false) = List.replicate (n ^ k) false:=by
 unfold hasF
 rw [← allT_len n k]
 exact List.map_const'
def ones (n : Nat) : List (List Int):=(List.range n).map fun (x : Nat)=>[(x : Int)]
theorem ones_tab (n : Nat) : Tab n 1 (ones n):=by
 constructor
 ·unfold Up ones
  rw [List.pairwise_map]
  refine List.pairwise_lt_range.imp fun {a b} h=>?_
  have : cmpF (a : Int) (b : Int) = -1:=by unfold cmpF;rw [if_pos (by omega)]
  simp only [cmpL]
  rw [this]
  decide
 ·intro t ht
  unfold ones at ht
  obtain ⟨x,hx,rfl⟩:=List.mem_map.1 ht
  have:=List.mem_range.1 hx
  exact ⟨rfl,fun y hy=>by simp at hy;omega⟩
theorem allT_succ (n k : Nat) (hn : 1 ≤ n) : allT n (k + 1) = joinF (allT n k) (ones n):=by
 have hj:=joinF_tab (allT_tab n k hn) (ones_tab n)
 refine up_ext (allT_up n (k + 1) hn) hj.up fun t=>⟨fun ht=>?_,fun ht=>(mem_allT n (k + 1) hn t).2 (hj.el t ht)⟩
 have h:=(mem_allT n (k + 1) hn t).1 ht
 obtain ⟨a,x,rfl⟩:=h.split
 obtain ⟨ha,hx0,hx1⟩:=h.snoc
 unfold joinF
 refine List.mem_flatMap.2 ⟨a,(mem_allT n k hn a).2 ha,List.mem_map.2 ⟨[x],?_,rfl⟩⟩
 unfold ones
 refine List.mem_map.2 ⟨x.toNat,List.mem_range.2 (by omega),?_⟩
 rw [Int.toNat_of_nonneg hx0]
theorem allT_zero (n : Nat) : allT n 0 = [[]]:=by simp [allT,digs]
theorem projectF_eq {n k : Nat} (hn : 1 ≤ n) {l : List (List Int)} (h : ∀ t ∈ l,InT n k t) : sortT l = (allT n k).filter fun t=>decide (t ∈ l):=by
 have hs:=sortT_tab h
 rw [hs.eq hn]
 exact List.filter_congr fun t _=>by simp [sortT_mem]
theorem unionF_eq {n k : Nat} (hn : 1 ≤ n) {a b : List (List Int)} (ha : Tab n k a) (hb : Tab n k b) : unionF a b = (allT n k).filter fun t=>decide (t ∈ a) || decide (t ∈ b):=by
 have hs : Tab n k (unionF a b):=sortT_tab fun t ht=>by
  rcases List.mem_append.1 ht with h | h
  ·exact ha.el t h
  ·exact hb.el t h
 rw [hs.eq hn]
 exact List.filter_congr fun t _=>by simp [unionF,sortT_mem]
theorem minusF_eq {n k : Nat} (hn : 1 ≤ n) {a b : List (List Int)} (ha : Tab n k a) : minusF a b = (allT n k).filter fun t=>decide (t ∈ a) && !decide (t ∈ b):=by
 have hs : Tab n k (minusF a b):=ha.filter _
 rw [hs.eq hn]
 exact List.filter_congr fun t _=>by simp [minusF]
end Go.AW
namespace Go.AW
open Go Go.Proofs TyTryz Go.IntWalk
set_option linter.unusedSimpArgs false
set_option linter.unusedVariables false
set_option maxRecDepth 10000
set_option maxHeartbeats 1000000
theorem pow2_eq (n : Nat) (hn : 1 ≤ n) (k : Nat) (h : n ^ k ≤ 4096) : pow2 n k 1 = ((n ^ k : Nat) : Int):=by
 have key : ∀ (k p : Nat),p * n ^ k ≤ 4096 → pow2 n k p = ((p * n ^ k : Nat) : Int):=by
  intro k
  induction k with
  | zero=>intro p _;simp [pow2]
  | succ k ih =>
   intro p hp
   have e : p * n ^ (k + 1) = p * n * n ^ k:=by rw [Nat.pow_succ,Nat.mul_comm (n ^ k) n,Nat.mul_assoc]
   have h1 : p ≤ p * n ^ (k + 1):=Nat.le_mul_of_pos_right _ (Nat.pow_pos (by omega))
   rw [pow2,if_pos (by omega),← Int.natCast_mul,ih (p * n) (by rw [← e];exact hp),e]
 have:=key k 1 (by omega)
 simpa using this
theorem rrank_spec (n k : Nat) (hn : 1 ≤ n) (hn2 : n ≤ 64) (hk : k ≤ 12) (hp : n ^ k ≤ 4096) (t : List Int) (ht : InT n k t) : ACallsD Tryz.prog 89 [.i .i64 n,.sl 1 (ints t)] (.i .i64 (rankN n t)):=by
 have il : ∀ l : List Int,(ints l).length = l.length:=fun l=>by simp [ints]
 have hl:=ht.1
 refine ACalls_of' (n:=22) (rs:=[.tmp 4]) (show Tryz.prog.funcs[89]? = some Tryz.f89 by kernel_rfl) rfl rfl rfl (by simp) (by decide +kernel) ?_
 repeat (first | refine nav ?_ | refine bo ?_)
 (refine wr fun K R hK hR=>?_;simp only [go_sem];(try go_ints);(repeat refine And.intro side ?_);(first|refine hK _ ?_|refine hR _ _ ?_);clear hK hR K R)
 repeat (first | refine nav ?_ | refine bo ?_)
 (refine wr fun K R hK hR=>?_;simp only [go_sem];(try go_ints);(repeat refine And.intro side ?_);(first|refine hK _ ?_|refine hR _ _ ?_);clear hK hR K R)
 repeat (first | refine nav ?_ | refine bo ?_)
 (refine wr fun K R hK hR=>?_;simp only [go_sem];(try go_ints);(repeat refine And.intro side ?_);(first|refine hK _ ?_|refine hR _ _ ?_);clear hK hR K R)
 repeat (first | refine nav ?_ | refine bo ?_)
 refine W_for 7 22 [5,6] (fun m t' o=>∃ i : Nat,[] = o ∧ t' 6 = .i .i64 i ∧ t' 5 = .i .i64 (rankN n (t.take i)) ∧ m = t.length - i ∧ i ≤ t.length) t.length ⟨0,rfl,by simp only [go_sem]<;>rfl,by simp only [go_sem]<;>rfl,by omega,by omega⟩ ?_
 rintro m t' o ⟨i,rfl,h6,h5,rfl,hi⟩
 have hr:=rank_take hn ht i
 repeat (first | refine nav ?_ | refine bo ?_)
 (refine wr fun K R hK hR=>?_;simp only [go_sem,h6,il];(try go_ints);(try simp only [go_sem,h6,il]);(repeat refine And.intro side ?_);(first|refine hK _ ?_|refine hR _ _ ?_);clear hK hR K R)
 repeat (first | refine nav ?_ | refine bo ?_)
 refine W_cond (by simp only [go_sem]<;>exact rfl) (fun hb=>?_) (fun hb=>?_)
 ·simp at hb
  have hb0 : i + 1 ≤ t.length:=hb
  obtain ⟨x,hx⟩ : ∃ x,t[i]? = some x:=⟨_,List.getElem?_eq_getElem hb⟩
  have hx2:=ht.2 x (List.mem_of_getElem? hx)
  have hr2:=rank_take hn ht (i + 1)
  have hst:=rank_step (n:=n) hx
  have hmul : ((rankN n (t.take i) : Int) * (n : Int)) + x = ((rankN n (t.take (i + 1)) : Nat) : Int):=by
   rw [hst,Int.natCast_add,Int.natCast_mul];omega
  have hm1 : True → 0 ≤ (rankN n (t.take i) : Int) * (n : Int) ∧ (rankN n (t.take i) : Int) * (n : Int) ≤ 4096:=fun _=>by
   rw [← Int.natCast_mul]
   omega
  obtain ⟨m1,hm1e⟩ : ∃ m1 : Int,m1 = (rankN n (t.take i) : Int) * (n : Int):=⟨_,rfl⟩
  rw [← hm1e] at hmul hm1
  have hm1:=hm1 trivial
  generalize rankN n (t.take i) = r0 at *
  have hm1e' : True → (r0 : Int) * (n : Int) = m1:=fun _=>hm1e.symm
  clear hm1e hst
  repeat (first | refine nav ?_ | refine bo ?_)
  (refine wr fun K R hK hR=>?_;simp only [go_sem,h6,h5,ints_get hx,il,hm1e',hmul];(try go_ints);(try simp only [go_sem,h6,h5,ints_get hx,il,hm1e',hmul]);(repeat refine And.intro side ?_);(first|refine hK _ ?_|refine hR _ _ ?_);clear hK hR K R)
  repeat (first | refine nav ?_ | refine bo ?_)
  (refine wr fun K R hK hR=>?_;simp only [go_sem,h6];(try go_ints);(try simp only [go_sem,h6]);(repeat refine And.intro side ?_);(first|refine hK _ ?_|refine hR _ _ ?_);clear hK hR K R)
  refine forQ_normal (t.length - (i + 1)) (by omega) ⟨i + 1,rfl,by simp only [go_sem]<;>rfl,?_,rfl,hb0⟩
  simp only [go_sem]
 ·simp at hb
  obtain rfl : i = t.length:=by omega
  rw [List.take_length] at h5
  repeat (first | refine nav ?_ | refine bo ?_)
  (refine wr fun K R hK hR=>?_;simp only [go_sem,h5];(try go_ints);(try simp only [go_sem,h5]);(repeat refine And.intro side ?_);(first|refine hK _ ?_|refine hR _ _ ?_);clear hK hR K R)
  repeat (first | refine nav ?_ | refine bo ?_)
  refine endQ_data (by simp only [go_sem]<;>exact rfl) (Le.of_eq ?_) rfl
  rfl
theorem rpower_spec (n k : Nat) (hn : 1 ≤ n) (hn2 : n ≤ 64) (hk : k ≤ 12) (hp : n ^ k ≤ 4096) : ACallsD Tryz.prog 90 [.i .i64 n,.i .i64 k] (.tup [.i .i64 ((n ^ k : Nat) : Int),.i .i64 0]):=by
 have hps:=pow_spec n k (by omega) (by omega) (by omega) (by omega)
 rw [Int.toNat_natCast,pow2_eq n hn k hp] at hps
 generalize n ^ k = M at *
 refine ACalls_of' (n:=27) (rs:=[.tmp 4,.tmp 5]) (show Tryz.prog.funcs[90]? = some Tryz.f90 by kernel_rfl) rfl rfl rfl (by simp) (by decide +kernel) ?_
 repeat (first | refine nav ?_ | refine bo ?_)
 (refine wr fun K R hK hR=>?_;simp only [go_sem];(try go_ints);(repeat refine And.intro side ?_);(first|refine hK _ ?_|refine hR _ _ ?_);clear hK hR K R)
 repeat (first | refine nav ?_ | refine bo ?_)
 (refine wr fun K R hK hR=>?_;simp only [go_sem];(try go_ints);(repeat refine And.intro side ?_);(first|refine hK _ ?_|refine hR _ _ ?_);clear hK hR K R)
 repeat (first | refine nav ?_ | refine bo ?_)
 refine W_cond (b:=false) (by first | rfl | (simp only [go_sem]<;>simp<;>omega)) (fun hb=>by cases hb) (fun _=>?_)
 repeat (first | refine nav ?_ | refine bo ?_)
 (refine wr fun K R hK hR=>?_;simp only [go_sem];(try go_ints);(repeat refine And.intro side ?_);(first|refine hK _ ?_|refine hR _ _ ?_);clear hK hR K R)
 refine RL_callF (hps) rfl rfl rfl (by first | (simp only [go_sem]<;>first | exact LeA.refl _ | exact Le.refl _) | exact LeA.refl _) rfl rfl ?_
 (refine rr fun K R hK hR=>?_;simp only [go_sem];(try go_ints);(repeat refine And.intro side ?_);(first|refine hK _ ?_|refine hR _ _ ?_);clear hK hR K R)
 repeat (first | refine nav ?_ | refine bo ?_)
 refine W_cond (b:=false) (by first | rfl | (simp only [go_sem]<;>simp<;>omega)) (fun hb=>by cases hb) (fun _=>?_)
 repeat (first | refine nav ?_ | refine bo ?_)
 (refine wr fun K R hK hR=>?_;simp only [go_sem];(try go_ints);(repeat refine And.intro side ?_);(first|refine hK _ ?_|refine hR _ _ ?_);clear hK hR K R)
 refine RL_callF (hps) rfl rfl rfl (by first | (simp only [go_sem]<;>first | exact LeA.refl _ | exact Le.refl _) | exact LeA.refl _) rfl rfl ?_
 (refine rr fun K R hK hR=>?_;simp only [go_sem];(try go_ints);(repeat refine And.intro side ?_);(first|refine hK _ ?_|refine hR _ _ ?_);clear hK hR K R)
 repeat (first | refine nav ?_ | refine bo ?_)
 refine endQ_data (by simp only [go_sem]<;>exact rfl) (Le.of_eq ?_) rfl
 rfl
theorem rRank_spec (n k : Nat) (hn : 1 ≤ n) (hn2 : n ≤ 64) (hk : k ≤ 12) (hp : n ^ k ≤ 4096) (t : List Int) (ht : InT n k t) : ACallsD Tryz.prog 66 [.i .i64 n,.sl 1 (ints t)] (.tup [.i .i64 (rankN n t),.i .i64 0]):=by
 have il : ∀ l : List Int,(ints l).length = l.length:=fun l=>by simp [ints]
 have hl:=ht.1
 have hps:=rpower_spec n k hn hn2 hk hp
 rw [← hl] at hps
 have hin : inT n t = true:=by
  unfold inT
  simp only [Bool.not_eq_true',List.any_eq_false,Bool.or_eq_true,decide_eq_true_eq]
  intro x hx
  have:=ht.2 x hx
  omega
 have his:=in_spec n t (by omega)
 rw [hin] at his
 generalize hM : n ^ t.length = M at hps
 refine ACalls_of' (n:=39) (rs:=[.tmp 4,.tmp 5]) (show Tryz.prog.funcs[66]? = some Tryz.f66 by kernel_rfl) rfl rfl rfl (by simp) (by decide +kernel) ?_
 repeat (first | refine nav ?_ | refine bo ?_)
 (refine wr fun K R hK hR=>?_;simp only [go_sem];(try go_ints);(repeat refine And.intro side ?_);(first|refine hK _ ?_|refine hR _ _ ?_);clear hK hR K R)
 repeat (first | refine nav ?_ | refine bo ?_)
 (refine wr fun K R hK hR=>?_;simp only [go_sem,il];(try go_ints);(try simp only [go_sem,il]);(repeat refine And.intro side ?_);(first|refine hK _ ?_|refine hR _ _ ?_);clear hK hR K R)
 refine RL_callF (hps) rfl rfl rfl (by first | (simp only [go_sem]<;>first | exact LeA.refl _ | exact Le.refl _) | exact LeA.refl _) rfl rfl ?_
 (refine rr fun K R hK hR=>?_;simp only [go_sem];(try go_ints);(repeat refine And.intro side ?_);(first|refine hK _ ?_|refine hR _ _ ?_);clear hK hR K R)
 repeat (first | refine nav ?_ | refine bo ?_)
 (refine wr fun K R hK hR=>?_;simp only [go_sem];(try go_ints);(repeat refine And.intro side ?_);(first|refine hK _ ?_|refine hR _ _ ?_);clear hK hR K R)
 repeat (first | refine nav ?_ | refine bo ?_)
 refine W_cond (b:=false) (by first | rfl | (simp only [go_sem]<;>rfl)) (fun hb=>by cases hb) (fun _=>?_)
 repeat (first | refine nav ?_ | refine bo ?_)
 (refine wr fun K R hK hR=>?_;simp only [go_sem];(try go_ints);(repeat refine And.intro side ?_);(first|refine hK _ ?_|refine hR _ _ ?_);clear hK hR K R)
 refine RL_callF (his) rfl rfl rfl (by first | (simp only [go_sem]<;>first | exact LeA.refl _ | exact Le.refl _) | exact LeA.refl _) rfl rfl ?_
 (refine rr fun K R hK hR=>?_;simp only [go_sem];(try go_ints);(repeat refine And.intro side ?_);(first|refine hK _ ?_|refine hR _ _ ?_);clear hK hR K R)
 repeat (first | refine nav ?_ | refine bo ?_)
 refine W_cond (b:=false) (by first | rfl | (simp only [go_sem]<;>rfl)) (fun hb=>by cases hb) (fun _=>?_)
 repeat (first | refine nav ?_ | refine bo ?_)
 (refine wr fun K R hK hR=>?_;simp only [go_sem];(try go_ints);(repeat refine And.intro side ?_);(first|refine hK _ ?_|refine hR _ _ ?_);clear hK hR K R)
 repeat (first | refine nav ?_ | refine bo ?_)
 (refine wr fun K R hK hR=>?_;simp only [go_sem];(try go_ints);(repeat refine And.intro side ?_);(first|refine hK _ ?_|refine hR _ _ ?_);clear hK hR K R)
 repeat (first | refine nav ?_ | refine bo ?_)
 refine W_for 24 39 [8,9] (fun m t' o=>∃ i : Nat,[] = o ∧ t' 9 = .i .i64 i ∧ t' 8 = .i .i64 (rankN n (t.take i)) ∧ m = t.length - i ∧ i ≤ t.length) t.length ⟨0,rfl,by simp only [go_sem]<;>rfl,by simp only [go_sem]<;>rfl,by omega,by omega⟩ ?_
 rintro m t' o ⟨i,rfl,h6,h5,rfl,hi⟩
 have hr:=rank_take hn ht i
 repeat (first | refine nav ?_ | refine bo ?_)
 (refine wr fun K R hK hR=>?_;simp only [go_sem,h6,il];(try go_ints);(try simp only [go_sem,h6,il]);(repeat refine And.intro side ?_);(first|refine hK _ ?_|refine hR _ _ ?_);clear hK hR K R)
 repeat (first | refine nav ?_ | refine bo ?_)
 refine W_cond (by simp only [go_sem]<;>exact rfl) (fun hb=>?_) (fun hb=>?_)
 ·simp at hb
  have hb0 : i + 1 ≤ t.length:=hb
  obtain ⟨x,hx⟩ : ∃ x,t[i]? = some x:=⟨_,List.getElem?_eq_getElem hb⟩
  have hx2:=ht.2 x (List.mem_of_getElem? hx)
  have hr2:=rank_take hn ht (i + 1)
  have hst:=rank_step (n:=n) hx
  have hmul : ((rankN n (t.take i) : Int) * (n : Int)) + x = ((rankN n (t.take (i + 1)) : Nat) : Int):=by
   rw [hst,Int.natCast_add,Int.natCast_mul];omega
  have hm1 : True → 0 ≤ (rankN n (t.take i) : Int) * (n : Int) ∧ (rankN n (t.take i) : Int) * (n : Int) ≤ 4096:=fun _=>by
   rw [← Int.natCast_mul]
   omega
  obtain ⟨m1,hm1e⟩ : ∃ m1 : Int,m1 = (rankN n (t.take i) : Int) * (n : Int):=⟨_,rfl⟩
  rw [← hm1e] at hmul hm1
  have hm1:=hm1 trivial
  generalize rankN n (t.take i) = r0 at *
  have hm1e' : True → (r0 : Int) * (n : Int) = m1:=fun _=>hm1e.symm
  clear hm1e hst
  repeat (first | refine nav ?_ | refine bo ?_)
  (refine wr fun K R hK hR=>?_;simp only [go_sem,h6,h5,ints_get hx,il,hm1e',hmul];(try go_ints);(try simp only [go_sem,h6,h5,ints_get hx,il,hm1e',hmul]);(repeat refine And.intro side ?_);(first|refine hK _ ?_|refine hR _ _ ?_);clear hK hR K R)
  repeat (first | refine nav ?_ | refine bo ?_)
  (refine wr fun K R hK hR=>?_;simp only [go_sem,h6];(try go_ints);(try simp only [go_sem,h6]);(repeat refine And.intro side ?_);(first|refine hK _ ?_|refine hR _ _ ?_);clear hK hR K R)
  refine forQ_normal (t.length - (i + 1)) (by omega) ⟨i + 1,rfl,by simp only [go_sem]<;>rfl,?_,rfl,hb0⟩
  simp only [go_sem]
 ·simp at hb
  obtain rfl : i = t.length:=by omega
  rw [List.take_length] at h5
  repeat (first | refine nav ?_ | refine bo ?_)
  (refine wr fun K R hK hR=>?_;simp only [go_sem,h5];(try go_ints);(try simp only [go_sem,h5]);(repeat refine And.intro side ?_);(first|refine hK _ ?_|refine hR _ _ ?_);clear hK hR K R)
  repeat (first | refine nav ?_ | refine bo ?_)
  refine endQ_data (by simp only [go_sem]<;>exact rfl) (Le.of_eq ?_) rfl
  rfl
theorem sameT_spec (a b : List (List Int)) (ha : a.length ≤ 1000000) (hb' : b.length ≤ 1000000) (hal : ∀ t ∈ a,t.length ≤ 1000000) : ACallsD Tryz.prog 9 [.sl 1 (tups a),.sl 1 (tups b)] (.b (decide (a = b))):=by
 have tl:=tups_len'
 refine ACalls_of' (n:=27) (rs:=[.tmp 4]) (show Tryz.prog.funcs[9]? = some Tryz.f9 by kernel_rfl) rfl rfl rfl (by simp) (by decide +kernel) ?_
 repeat (first | refine nav ?_ | refine bo ?_)
 (refine wr fun K R hK hR=>?_;simp only [go_sem];(try go_ints);(repeat refine And.intro side ?_);(first|refine hK _ ?_|refine hR _ _ ?_);clear hK hR K R)
 repeat (first | refine nav ?_ | refine bo ?_)
 (refine wr fun K R hK hR=>?_;simp only [go_sem,tl];(try go_ints);(try simp only [go_sem,tl]);(repeat refine And.intro side ?_);(first|refine hK _ ?_|refine hR _ _ ?_);clear hK hR K R)
 repeat (first | refine nav ?_ | refine bo ?_)
 refine W_cond (by simp only [go_sem]<;>exact rfl) (fun hb=>?_) (fun hb=>?_)
 ·repeat (first | refine nav ?_ | refine bo ?_)
  (refine wr fun K R hK hR=>?_;simp only [go_sem];(try go_ints);(repeat refine And.intro side ?_);(first|refine hK _ ?_|refine hR _ _ ?_);clear hK hR K R)
  repeat (first | refine nav ?_ | refine bo ?_)
  refine endQ_data (by simp only [go_sem]<;>exact rfl) (Le.of_eq ?_) rfl
  rw [decide_eq_false]
  rintro rfl
  simp at hb
 ·have hl : a.length = b.length:=by simp at hb;omega
  repeat (first | refine nav ?_ | refine bo ?_)
  (refine wr fun K R hK hR=>?_;simp only [go_sem];(try go_ints);(repeat refine And.intro side ?_);(first|refine hK _ ?_|refine hR _ _ ?_);clear hK hR K R)
  repeat (first | refine nav ?_ | refine bo ?_)
  refine W_for 11 27 [5] (fun m t o=>∃ k : Nat,[] = o ∧ t 5 = .i .i64 k ∧ m = a.length - k ∧ k ≤ a.length ∧ (a.drop k = b.drop k ↔ a = b)) a.length ⟨0,rfl,by simp only [go_sem]<;>rfl,by omega,Nat.zero_le _,Iff.rfl⟩ ?_
  rintro m t o ⟨k,rfl,h5,rfl,hk,hi⟩
  repeat (first | refine nav ?_ | refine bo ?_)
  (refine wr fun K R hK hR=>?_;simp only [go_sem,h5,tl];(try go_ints);(try simp only [go_sem,h5,tl]);(repeat refine And.intro side ?_);(first|refine hK _ ?_|refine hR _ _ ?_);clear hK hR K R)
  repeat (first | refine nav ?_ | refine bo ?_)
  refine W_cond (by simp only [go_sem]<;>exact rfl) (fun hb=>?_) (fun hb=>?_)
  ·simp at hb
   obtain ⟨x,hx⟩ : ∃ x,a[k]? = some x:=⟨_,List.getElem?_eq_getElem hb⟩
   obtain ⟨y,hy⟩ : ∃ y,b[k]? = some y:=⟨_,List.getElem?_eq_getElem (by omega)⟩
   have hxl:=hal x (List.mem_of_getElem? hx)
   rw [drop_cons hx,drop_cons hy,List.cons.injEq] at hi
   repeat (first | refine nav ?_ | refine bo ?_)
   (refine W_dreg (by decide +kernel) [] [0,1,2,3,4,5,6,7,8,9] [[],[],[1,0],[0,1,2],[],[],[5,4],[4,5,6],[6,5,4,7,2,1,0,3],[3,0,1,2,7,4,5,6,8]] (by decide +kernel) rfl fun K R hK hR=>?_;simp only [List.filterMap_cons,List.filterMap_nil,List.getElem?_cons_zero,List.getElem?_cons_succ,List.cons_append,List.nil_append];simp only [go_sem,h5,tups_get hx,tups_get hy,tl];(try go_ints);(try simp only [go_sem,h5,tups_get hx,tups_get hy,tl]);(repeat refine And.intro side ?_);(first|refine hK _ ?_|refine hR _ _ ?_);clear hK hR K R)
   refine D_callD (equal_spec x y (by omega)) rfl rfl rfl (by first | (simp only [go_sem]<;>first | exact LeA.refl _ | exact Le.refl _) | exact LeA.refl _) rfl rfl rfl rfl ?_
   (refine D_reg fun K R hK hR=>?_;simp only [go_sem];(try go_ints);(repeat refine And.intro side ?_);(first|refine hK _ ?_|refine hR _ _ ?_);clear hK hR K R)
   repeat (first | refine nav ?_ | refine bo ?_)
   refine W_cond (by simp only [go_sem]<;>exact rfl) (fun hd=>?_) (fun hd=>?_)
   ·repeat (first | refine nav ?_ | refine bo ?_)
    (refine wr fun K R hK hR=>?_;simp only [go_sem];(try go_ints);(repeat refine And.intro side ?_);(first|refine hK _ ?_|refine hR _ _ ?_);clear hK hR K R)
    repeat (first | refine nav ?_ | refine bo ?_)
    refine endQ_data (by simp only [go_sem]<;>exact rfl) (Le.of_eq ?_) rfl
    have hd : x ≠ y:=by simpa using hd
    rw [decide_eq_false]
    exact fun h=>hd (hi.2 h).1
   ·have hd : x = y:=by simpa using hd
    repeat (first | refine nav ?_ | refine bo ?_)
    (refine wr fun K R hK hR=>?_;simp only [go_sem,h5];(try go_ints);(try simp only [go_sem,h5]);(repeat refine And.intro side ?_);(first|refine hK _ ?_|refine hR _ _ ?_);clear hK hR K R)
    refine forQ_normal (a.length - (k + 1)) (by omega) ⟨k + 1,?_⟩
    ((try simp only [go_sem]);(repeat' refine And.intro ?_ ?_)<;>(try first | with_reducible rfl | omega | with_reducible assumption | (simp;done)))
    exact ⟨fun h=>hi.1 ⟨hd,h⟩,fun h=>(hi.2 h).2⟩
  ·simp at hb
   have : k = a.length:=by omega
   subst this
   rw [List.drop_length,List.drop_eq_nil_of_le (by omega)] at hi
   repeat (first | refine nav ?_ | refine bo ?_)
   (refine wr fun K R hK hR=>?_;simp only [go_sem];(try go_ints);(repeat refine And.intro side ?_);(first|refine hK _ ?_|refine hR _ _ ?_);clear hK hR K R)
   repeat (first | refine nav ?_ | refine bo ?_)
   refine endQ_data (by simp only [go_sem]<;>exact rfl) (Le.of_eq ?_) rfl
   rw [decide_eq_true (hi.1 rfl)]
end Go.AW
namespace Go.AW
open Go
set_option linter.unusedSimpArgs false
set_option linter.unusedVariables false
mutual
theorem ltk_unref {id sz : Nat} {rows : List (List AV)} {k : Nat} : ∀ (a : AV),a.ltk k = true → (a.unref id sz rows).ltk k = true
 | .ref j _ _,h=>by
  simp only [AV.unref]
  split
  ·rfl
  ·exact h
 | .fn _ l,h=>by simp only [AV.ltk] at h;simp only [AV.unref,AV.ltk];exact ltks_unref l h
 | .agg l,h=>by simp only [AV.ltk] at h;simp only [AV.unref,AV.ltk];exact ltks_unref l h
 | .tup l,h=>by simp only [AV.ltk] at h;simp only [AV.unref,AV.ltk];exact ltks_unref l h
 | .ifc _ v,h=>by simp only [AV.ltk] at h;simp only [AV.unref,AV.ltk];exact ltk_unref v h
 | .bm _ v,h=>by simp only [AV.ltk] at h;simp only [AV.unref,AV.ltk];exact ltk_unref v h
 | .gd _ v,h=>by simp only [AV.ltk] at h;simp only [AV.unref,AV.ltk];exact ltk_unref v h
 | .any,h | .b _,h | .i _ _,h | .s _,h | .sl _ _,h | .own _ _,h | .ep _ _,h | .nilp,h | .nilm,h | .nsl,h | .esl,h | .nilf,h | .nili,h | .ptr _ _ _,h | .mp _,h=>h
theorem ltks_unref {id sz : Nat} {rows : List (List AV)} {k : Nat} : ∀ (l : List AV),AV.ltks k l = true → AV.ltks k (AV.unrefs id sz rows l) = true
 | [],_=>rfl
 | a :: l,h=>by
  simp only [AV.ltks,Bool.and_eq_true] at h
  simp only [AV.unrefs,AV.ltks,ltk_unref a h.1,ltks_unref l h.2];rfl
end
theorem Ob.ltk_unref {id sz : Nat} {rows : List (List AV)} {k : Nat} (x : Ob) (h : x.ltk k = true) : (x.unref id sz rows).ltk k = true:=by
 cases x with
 | cells s rs =>
  simp only [Ob.ltk,List.all_eq_true] at h
  simp only [Ob.unref,Ob.ltk,List.all_eq_true]
  intro r hr a ha
  obtain ⟨r0,hr0,rfl⟩:=List.mem_map.1 hr
  obtain ⟨a0,ha0,rfl⟩:=List.mem_map.1 ha
  exact AW.ltk_unref a0 (h r0 hr0 a0 ha0)
 | mapo es =>
  simp only [Ob.ltk,List.all_eq_true,Bool.and_eq_true] at h
  simp only [Ob.unref,Ob.ltk,List.all_eq_true,Bool.and_eq_true]
  intro x hx
  obtain ⟨x0,hx0,rfl⟩:=List.mem_map.1 hx
  exact ⟨AW.ltk_unref _ (h x0 hx0).1,AW.ltk_unref _ (h x0 hx0).2⟩
 | _=>rfl
theorem okO_frz {o : List Ob} {id sz : Nat} {rows rs : List (List AV)} (ho : okO o = true) : okO ((o.set id (.frz sz rows)).map (Ob.unref id sz rs)) = true:=by
 unfold okO at ho ⊢
 rw [List.length_map,List.length_set,List.all_eq_true]
 rw [List.all_eq_true] at ho
 intro y hy
 obtain ⟨x,hx,rfl⟩:=List.mem_map.1 hy
 refine Ob.ltk_unref x ?_
 rcases List.mem_or_eq_of_mem_set hx with hx | rfl
 ·exact ho x hx
 ·rfl
theorem W_frz {P : Program} {n : Nat} {c : Code} {Q : Exit → St → Prop} {t : Nat → AV} {o : List Ob} (K : Nat) {sz : Nat} {rows : List (List AV)} (hok : okO o = true) (ho : o[K]? = some (.cells sz rows))
  (hr : (rows.all fun r=>r.all fun c=>c.dat.ltk 0 && c.dat.plain) = true)
  (h : ∀ o',okO o' = true → o'.length = o.length → (∀ i y,i ≠ K → o[i]? = some y → o'[i]? = some (y.unref K sz (rows.map fun r=>r.map AV.dat))) → o'[K]? = some (.frz sz (rows.map fun r=>r.map AV.dat)) →
   W P n c Q ⟨fun k=>(t k).unref K sz (rows.map fun r=>r.map AV.dat),o'⟩) : W P n c Q ⟨t,o⟩:=by
 refine W_freeze K (s:=⟨t,o⟩) ho hr ?_
 have hlt:=(List.getElem?_eq_some_iff.1 ho).1
 refine h _ (okO_frz hok) (by simp) (fun i y hi hy=>?_) ?_
 ·rw [List.getElem?_map,List.getElem?_set_ne (by omega),hy];rfl
 ·rw [List.getElem?_map,List.getElem?_set_self hlt];rfl
theorem W_weak1 {P : Program} {n : Nat} {c : Code} {Q : Exit → St → Prop} {s : St} (k : Nat) {a : AV} (h : Le (s.t k) a) (hw : W P n c Q ⟨upd s.t k a,s.o⟩) : W P n c Q s :=
 W_weak (s':=⟨upd s.t k a,s.o⟩) (fun j=>by
  show Le (s.t j) (upd s.t k a j)
  unfold upd
  split
  ·rename_i e;subst e;exact h
  ·exact Le.refl _) rfl hw
theorem D_skip {P : Program} {n : Nat} {gd : List (Option Nat)} {tk : List Nat} {K : St → Prop} {s : St} {o : Oper} {rest : List Oper} {j t : Nat} {want h0 x : Bool} (hg : o.guard = some (j,want)) (hj : gd.getD j none = some t)
  (hx : gv (s.t t) = some (h0,x)) (ht : (h0 && x == want) = false) (hd : dstOk n o.dst = true) (hq : isQ tk o = true) (hK : D P n gd tk rest K (s.put o.dst (.gd false .any))) : D P n gd tk (o :: rest) K s:=by
 simp only [D,hq,if_true]
 refine ⟨.gd false .any,?_,hK⟩
 unfold Val
 rw [hg]
 exact ⟨hd,t,h0,x,hj,hx,.inr ⟨[],.any,fun e=>(by rw [ht] at e;cases e),rfl,(by rw [ht])⟩⟩
theorem tab_LeE {t : Nat → AV} {l : List (Nat × AV)} (h : ∀ x ∈ l,Le (t x.1) x.2) (k : Nat) : Le (t k) (tab l k):=by
 unfold tab
 cases hf : l.find? (fun x=>x.1 == k) with
 | none=>exact Le.any _
 | some x =>
  have h1:=List.find?_some hf
  have h2:=List.mem_of_find?_eq_some hf
  simp only [beq_iff_eq] at h1
  rw [← h1]
  exact h x h2
theorem W_tab {P : Program} {n : Nat} {c : Code} {Q : Exit → St → Prop} {t : Nat → AV} {o : List Ob} (l : List (Nat × AV)) (h : ∀ x ∈ l,Le (t x.1) x.2) (hw : W P n c Q ⟨tab l,o⟩) : W P n c Q ⟨t,o⟩ :=
 W_weak (s':=⟨tab l,o⟩) (tab_LeE h) rfl hw
end Go.AW
namespace Go.AW
open Go Go.Proofs TyTryz Go.IntWalk
set_option linter.unusedSimpArgs false
set_option linter.unusedVariables false
set_option maxRecDepth 10000
set_option maxHeartbeats 2000000
theorem V_esl {w : World} {Y : CS} {m : List MB} {v : Value} (sz : Nat) (h : V w Y m .esl v) : V w Y m (.sl sz []) v:=by
 simp only [V] at h ⊢
 obtain ⟨ad,rfl⟩:=h
 exact ⟨_,_,rfl,Nat.le_refl _,by decide,.inl trivial⟩
theorem Le_esl1 : Le (.own 1 [[.esl]]) (.sl 1 [[.sl 1 []]]):=(Le.dat _ _).trans (Le.sl (LeR.cons (LeL.cons (fun _ _ _ _ h=>V_esl 1 h) LeL.nil) LeR.nil)) rfl
theorem ones_get {n x : Nat} (h : x < n) : (ones n)[x]? = some [(x : Int)]:=by
 unfold ones;rw [List.getElem?_map,List.getElem?_range h];rfl
theorem ones_len (n : Nat) : (ones n).length = n:=by simp [ones]
theorem ints_app (a b : List Int) : ints a ++ ints b = ints (a ++ b):=by simp [ints]
theorem rtuples_spec (n k : Nat) (hn : 1 ≤ n) (hn2 : n ≤ 64) (hk : k ≤ 12) (hp : n ^ k ≤ 4096) : ACallsD Tryz.prog 64 [.i .i64 n,.i .i64 k] (.sl 1 (tups (allT n k))):=by
 have tl:=tups_len'
 have il : ∀ l : List Int,(ints l).length = l.length:=fun l=>by simp [ints]
 have pw : ∀ i,i ≤ k → (allT n i).length ≤ 4096:=fun i hi=>by
  rw [allT_len];exact Nat.le_trans (Nat.pow_le_pow_right hn hi) hp
 refine ACalls_of' (n:=42) (rs:=[.tmp 4]) (show Tryz.prog.funcs[64]? = some Tryz.f64 by kernel_rfl) rfl rfl rfl (by simp) (by decide +kernel) ?_
 repeat (first | refine nav ?_ | refine bo ?_)
 (refine wr fun K R hK hR=>?_;simp only [go_sem];(try go_ints);(repeat refine And.intro side ?_);(first|refine hK _ ?_|refine hR _ _ ?_);clear hK hR K R)
 repeat (first | refine nav ?_ | refine bo ?_)
 (refine wr fun K R hK hR=>?_;simp only [go_sem,and_self,↓reduceIte];(try go_ints);(try simp only [go_sem,and_self,↓reduceIte]);(repeat refine And.intro side ?_);(first|refine hK _ ?_|refine hR _ _ ?_);clear hK hR K R)
 repeat (first | refine nav ?_ | refine bo ?_)
 (refine wr fun K R hK hR=>?_;simp only [go_sem];(try go_ints);(repeat refine And.intro side ?_);(first|refine hK _ ?_|refine hR _ _ ?_);clear hK hR K R)
 repeat (first | refine nav ?_ | refine bo ?_)
 show W Tryz.prog 42 _ _ _
 refine W_weak1 5 (a:=.sl 1 (tups (allT n 0))) (by simp only [go_sem];rw [allT_zero];exact Le_esl1) ?_
 refine W_for 12 42 [5,6,7,8,9] (fun m t o=>∃ i : Nat,[] = o ∧ t 6 = .i .i64 i ∧ t 5 = .sl 1 (tups (allT n i)) ∧ m = k - i ∧ i ≤ k) k ⟨0,rfl,by simp only [go_sem]<;>rfl,by simp only [go_sem],by omega,by omega⟩ ?_
 rintro m t o ⟨i,rfl,h6,h5,rfl,hi⟩
 have hpi:=pw i hi
 repeat (first | refine nav ?_ | refine bo ?_)
 (refine wr fun K R hK hR=>?_;simp only [go_sem,h6];(try go_ints);(try simp only [go_sem,h6]);(repeat refine And.intro side ?_);(first|refine hK _ ?_|refine hR _ _ ?_);clear hK hR K R)
 repeat (first | refine nav ?_ | refine bo ?_)
 refine W_cond (by simp only [go_sem]<;>exact rfl) (fun hb=>?_) (fun hb=>?_)
 ·simp at hb
  have hb0 : i + 1 ≤ k:=hb
  have hpi1:=pw (i + 1) hb0
  rw [allT_succ n i hn] at hpi1
  have hel : ∀ x ∈ allT n i,x.length = i:=fun x hx=>((mem_allT n i hn x).1 hx).1
  obtain ⟨T,hT⟩ : ∃ T,T = allT n i:=⟨_,rfl⟩
  rw [← hT] at h5 hpi hpi1 hel
  have jl : ∀ k,(joinF (T.take k) (ones n)).length = (T.take k).length * n:=fun k=>by
   unfold joinF
   rw [List.length_flatMap]
   simp [List.map_const',ones_len]
  repeat (first | refine nav ?_ | refine bo ?_)
  (refine wr fun K R hK hR=>?_;simp only [go_sem];(try go_ints);(repeat refine And.intro side ?_);(first|refine hK _ ?_|refine hR _ _ ?_);clear hK hR K R)
  repeat (first | refine nav ?_ | refine bo ?_)
  (refine wr fun K R hK hR=>?_;simp only [go_sem];(try go_ints);(repeat refine And.intro side ?_);(first|refine hK _ ?_|refine hR _ _ ?_);clear hK hR K R)
  repeat (first | refine nav ?_ | refine bo ?_)
  refine W_for 17 42 [7,8,9] (fun m t2 o=>∃ j : Nat,[] = o ∧ t2 8 = .i .i64 j ∧ t2 7 = .own 1 (tups (joinF (T.take j) (ones n))) ∧ m = T.length - j ∧ j ≤ T.length) T.length ⟨0,rfl,by simp only [go_sem]<;>rfl,by simp only [go_sem]<;>rfl,by omega,by omega⟩ ?_
  rintro m t2 o ⟨j,rfl,h8,h7,rfl,hj⟩
  repeat (first | refine nav ?_ | refine bo ?_)
  (refine wr fun K R hK hR=>?_;simp only [go_sem,h8,h5,tl];(try go_ints);(try simp only [go_sem,h8,h5,tl]);(repeat refine And.intro side ?_);(first|refine hK _ ?_|refine hR _ _ ?_);clear hK hR K R)
  repeat (first | refine nav ?_ | refine bo ?_)
  refine W_cond (by simp only [go_sem]<;>exact rfl) (fun hb=>?_) (fun hb=>?_)
  ·simp at hb
   have hb1 : j + 1 ≤ T.length:=hb
   obtain ⟨x,hx⟩ : ∃ x,T[j]? = some x:=⟨_,List.getElem?_eq_getElem hb⟩
   have hxl:=hel x (List.mem_of_getElem? hx)
   have hmul : (T.take j).length * n + n ≤ 4096:=by
    have h1 : (j + 1) * n ≤ T.length * n:=Nat.mul_le_mul_right _ hb1
    have h2:=jl T.length
    rw [List.take_length] at h2
    rw [List.length_take,Nat.min_eq_left hj,← Nat.succ_mul]
    exact Nat.le_trans h1 (by omega)
   repeat (first | refine nav ?_ | refine bo ?_)
   (refine wr fun K R hK hR=>?_;simp only [go_sem];(try go_ints);(repeat refine And.intro side ?_);(first|refine hK _ ?_|refine hR _ _ ?_);clear hK hR K R)
   repeat (first | refine nav ?_ | refine bo ?_)
   refine W_for 23 40 [7,9] (fun m t3 o=>∃ y : Nat,[] = o ∧ t3 9 = .i .i64 y ∧ t3 7 = .own 1 (tups (joinF (T.take j) (ones n) ++ ((ones n).take y).map fun u=>x ++ u)) ∧ m = n - y ∧ y ≤ n) n ⟨0,rfl,by simp only [go_sem]<;>rfl,by simp only [go_sem,h7,List.take_zero,List.map_nil,List.append_nil],by omega,by omega⟩ ?_
   rintro m t3 o ⟨y,rfl,h9,h73,rfl,hy⟩
   repeat (first | refine nav ?_ | refine bo ?_)
   (refine wr fun K R hK hR=>?_;simp only [go_sem,h9];(try go_ints);(try simp only [go_sem,h9]);(repeat refine And.intro side ?_);(first|refine hK _ ?_|refine hR _ _ ?_);clear hK hR K R)
   repeat (first | refine nav ?_ | refine bo ?_)
   refine W_cond (by simp only [go_sem]<;>exact rfl) (fun hb=>?_) (fun hb=>?_)
   ·simp at hb
    have hb2 : y + 1 ≤ n:=hb
    have hone:=ones_get hb
    obtain ⟨acc,hacc⟩ : ∃ acc,acc = joinF (T.take j) (ones n) ++ ((ones n).take y).map fun u=>x ++ u:=⟨_,rfl⟩
    have hln : acc.length ≤ 4096:=by
     rw [hacc,List.length_append,jl,List.length_map]
     have:=List.length_take_le y (ones n)
     omega
    have haln : (tups acc).length ≤ 4096:=by rw [tl];exact hln
    rw [← hacc] at h73
    have e1 : ints x ++ [[AV.i .i64 (y : Int)]] = ints (x ++ [(y : Int)]):=by simp [ints]
    repeat (first | refine nav ?_ | refine bo ?_)
    (refine W_reg [28,29,34] fun K R hK hR=>?_;simp only [go_sem,h9,h8,h5,h73,tups_get hx,tl,il,List.nil_append,e1,and_self,↓reduceIte];(try go_ints);(try simp only [go_sem,h9,h8,h5,h73,tups_get hx,tl,il,List.nil_append,e1,and_self,↓reduceIte]);(repeat refine And.intro side ?_);(first|refine hK _ ?_|refine hR _ _ ?_);clear hK hR K R)
    repeat (first | refine nav ?_ | refine bo ?_)
    (refine wr fun K R hK hR=>?_;simp only [go_sem,h9];(try go_ints);(try simp only [go_sem,h9]);(repeat refine And.intro side ?_);(first|refine hK _ ?_|refine hR _ _ ?_);clear hK hR K R)
    refine forQ_normal (n - (y + 1)) (by omega) ⟨y + 1,rfl,by simp only [go_sem]<;>rfl,?_,rfl,hb2⟩
    rw [List.take_add_one,hone,List.map_append,← List.append_assoc,← hacc]
    simp only [go_sem,tups_app]
    simp
   ·simp at hb
    obtain rfl : y = n:=by omega
    have hto : (ones y).take y = ones y:=List.take_of_length_le (by rw [ones_len];exact Nat.le_refl _)
    rw [hto,← joinF_take hx] at h73
    repeat (first | refine nav ?_ | refine bo ?_)
    (refine wr fun K R hK hR=>?_;simp only [go_sem,h8,mix_mix (lo:=23)];(try go_ints);(try simp only [go_sem,h8,mix_mix (lo:=23)]);(repeat refine And.intro side ?_);(first|refine hK _ ?_|refine hR _ _ ?_);clear hK hR K R)
    refine forQ_normal (T.length - (j + 1)) (by omega) ⟨j + 1,?_⟩
    ((try simp only [go_sem,h73]);(repeat' refine And.intro ?_ ?_)<;>(try first | with_reducible rfl | omega | with_reducible assumption | (simp;done)))
  ·simp at hb
   obtain rfl : j = T.length:=by omega
   rw [List.take_length,hT,← allT_succ n i hn] at h7
   repeat (first | refine nav ?_ | refine bo ?_)
   (refine wr fun K R hK hR=>?_;simp only [go_sem,h7];(try go_ints);(try simp only [go_sem,h7]);(repeat refine And.intro side ?_);(first|refine hK _ ?_|refine hR _ _ ?_);clear hK hR K R)
   repeat (first | refine nav ?_ | refine bo ?_)
   (refine wr fun K R hK hR=>?_;simp only [go_sem,h6,mix_mix (lo:=17)];(try go_ints);(try simp only [go_sem,h6,mix_mix (lo:=17)]);(repeat refine And.intro side ?_);(first|refine hK _ ?_|refine hR _ _ ?_);clear hK hR K R)
   refine forQ_normal (k - (i + 1)) (by omega) ⟨i + 1,?_⟩
   ((try simp only [go_sem]);(repeat' refine And.intro ?_ ?_)<;>(try first | with_reducible rfl | omega | with_reducible assumption | (simp;done)))
 ·simp at hb
  obtain rfl : i = k:=by omega
  repeat (first | refine nav ?_ | refine bo ?_)
  (refine wr fun K R hK hR=>?_;simp only [go_sem,h5];(try go_ints);(try simp only [go_sem,h5]);(repeat refine And.intro side ?_);(first|refine hK _ ?_|refine hR _ _ ?_);clear hK hR K R)
  repeat (first | refine nav ?_ | refine bo ?_)
  refine endQ_data (by simp only [go_sem]<;>exact rfl) (Le.of_eq ?_) rfl
  rfl
end Go.AW
namespace Go.AW
open Go Go.Proofs TyTryz Go.IntWalk
set_option linter.unusedSimpArgs false
set_option linter.unusedVariables false
set_option maxRecDepth 10000
set_option maxHeartbeats 2000000
structure RelD.Wide (r : RelD) : Prop where
 name : r.name.size ≤ 1125899906842624
 len : r.tuples.length ≤ 1125899906842624
 tup : ∀ t ∈ r.tuples,t.length ≤ 1125899906842624
structure StrD.Wide (s : StrD) : Prop where
 len : s.rels.length ≤ 1125899906842624
 rel : ∀ r ∈ s.rels,r.Wide
def sumL (l : List (List Int)) : Nat:=(l.map List.length).sum
theorem sumL_take {l : List (List Int)} {j : Nat} {x : List Int} (h : l[j]? = some x) : sumL (l.take (j + 1)) = sumL (l.take j) + x.length:=by
 unfold sumL
 rw [List.take_add_one,h];simp
theorem sumL_le {l : List (List Int)} {B : Nat} (h : ∀ t ∈ l,t.length ≤ B) : sumL l ≤ l.length * B:=by
 induction l with
 | nil=>simp [sumL]
 | cons x l ih =>
  have h1:=h x (by simp)
  have h2:=ih fun t ht=>h t (by simp [ht])
  have : sumL (x :: l) = x.length + sumL l:=by simp [sumL]
  rw [this,List.length_cons,Nat.succ_mul];omega
theorem sumL_few {l : List (List Int)} {B : Nat} (h : ∀ t ∈ l,t.length ≤ B) (hl : l.length ≤ 1500) (j : Nat) : sumL (l.take j) ≤ 1500 * B:=by
 have h1:=sumL_le (l:=l.take j) (B:=B) fun t ht=>h t (List.mem_of_mem_take ht)
 have h2:=List.length_take_le' j l
 exact Nat.le_trans h1 (Nat.mul_le_mul_right _ (by omega))
def fewGo : List RelD → Nat → Nat → Option Nat
 | [],_,e=>some e
 | r :: l,n,e=>if 1500 < n + r.tuples.length ∨ 1000 < r.name.size then none else fewGo l (n + r.tuples.length) (e + sumL r.tuples)
def fewS (s : StrD) : Bool:=decide (s.rels.length ≤ 12) && (match fewGo s.rels 0 0 with | some e=>decide (e ≤ 20000) | none=>false)
theorem fewGo_ok : ∀ (l : List RelD) (n e : Nat) {x : Nat},fewGo l n e = some x → e ≤ x ∧ ∀ r ∈ l,r.tuples.length ≤ 1500 ∧ r.name.size ≤ 1000 ∧ sumL r.tuples ≤ x
 | [],n,e,x,h=>by
  simp only [fewGo,Option.some.injEq] at h
  exact ⟨by omega,fun r hr=>by cases hr⟩
 | r :: l,n,e,x,h=>by
  simp only [fewGo] at h
  split at h
  ·cases h
  ·rename_i hn
   obtain ⟨h1,h2⟩:=fewGo_ok l _ _ h
   refine ⟨by omega,fun q hq=>?_⟩
   rcases List.mem_cons.1 hq with rfl | hq
   ·exact ⟨by omega,by omega,by omega⟩
   ·exact h2 q hq
theorem sumL_mem {l : List (List Int)} {t : List Int} (h : t ∈ l) : t.length ≤ sumL l:=by
 induction l with
 | nil=>cases h
 | cons x l ih =>
  have : sumL (x :: l) = x.length + sumL l:=by simp [sumL]
  rw [this]
  rcases List.mem_cons.1 h with rfl | h
  ·omega
  ·have:=ih h;omega
theorem fewS_ok {s : StrD} (h : fewS s = true) : s.Ok ∧ s.rels.length ≤ 12:=by
 unfold fewS at h
 rw [Bool.and_eq_true,decide_eq_true_iff] at h
 obtain ⟨h1,h2⟩:=h
 cases hg : fewGo s.rels 0 0 with
 | none=>rw [hg] at h2;cases h2
 | some e =>
  rw [hg] at h2
  have h2 : e ≤ 20000:=by simpa using h2
  obtain ⟨_,h3⟩:=fewGo_ok _ _ _ hg
  refine ⟨⟨by omega,fun r hr=>?_⟩,h1⟩
  obtain ⟨a,b,c⟩:=h3 r hr
  exact ⟨by omega,by omega,fun t ht=>by have:=sumL_mem ht;omega⟩
theorem lfew_spec (s : StrD) (hs : s.Wide) : ACallsD Tryz.prog 22 [.sl 2 [[.i .i64 s.size,.sl 3 (rels s.rels)]]] (.b (fewS s)):=by
 have tl:=tups_len'
 have hl:=hs.len
 have rl : (rels s.rels).length = s.rels.length:=by simp [rels]
 have hg0 : ([[.i .i64 s.size,.sl 3 (rels s.rels)]] : List (List AV)).getD 0 [] = [.i .i64 s.size,.sl 3 (rels s.rels)]:=rfl
 refine ACalls_of' (n:=89) (rs:=[.tmp 2]) (show Tryz.prog.funcs[22]? = some Tryz.f22 by kernel_rfl) rfl rfl rfl (by simp) (by decide +kernel) ?_
 repeat (first | refine nav ?_ | refine bo ?_)
 (refine wr fun K R hK hR=>?_;simp only [go_sem];(try go_ints);(repeat refine And.intro side ?_);(first|refine hK _ ?_|refine hR _ _ ?_);clear hK hR K R)
 repeat (first | refine nav ?_ | refine bo ?_)
 (refine wr fun K R hK hR=>?_;simp only [go_sem];(try go_ints);(repeat refine And.intro side ?_);(first|refine hK _ ?_|refine hR _ _ ?_);clear hK hR K R)
 repeat (first | refine nav ?_ | refine bo ?_)
 (refine wr fun K R hK hR=>?_;simp only [go_sem];(try go_ints);(repeat refine And.intro side ?_);(first|refine hK _ ?_|refine hR _ _ ?_);clear hK hR K R)
 repeat (first | refine nav ?_ | refine bo ?_)
 refine W_for 8 87 [3,4,5,6,7] (fun m t o=>∃ (i e : Nat),[] = o ∧ t 5 = .i .i64 i ∧ t 4 = .i .i64 e ∧ m = 1 - i ∧ i ≤ 1 ∧ (i = 0 ∧ e = 0 ∧ t 3 = .i .i64 0 ∨ i = 1 ∧ fewS s = decide (e ≤ 20000))) 1 ⟨0,0,rfl,by simp only [go_sem]<;>rfl,by simp only [go_sem]<;>rfl,by omega,by omega,.inl ⟨rfl,rfl,by simp only [go_sem]<;>rfl⟩⟩ ?_
 rintro m t o ⟨i,e,rfl,h5,h4,rfl,hi1,hi⟩
 repeat (first | refine nav ?_ | refine bo ?_)
 (refine wr fun K R hK hR=>?_;simp only [go_sem,h5];(try go_ints);(try simp only [go_sem,h5]);(repeat refine And.intro side ?_);(first|refine hK _ ?_|refine hR _ _ ?_);clear hK hR K R)
 repeat (first | refine nav ?_ | refine bo ?_)
 rcases hi with ⟨rfl,rfl,h3⟩ | ⟨rfl,hf⟩
 ·refine W_cond (b:=true) (by simp only [go_sem]<;>first | rfl | simp) (fun _=>?_) (fun hd=>by cases hd)
  repeat (first | refine nav ?_ | refine bo ?_)
  (refine wr fun K R hK hR=>?_;simp only [go_sem,h5,rl];(try go_ints);(try simp only [go_sem,h5,rl]);(repeat refine And.intro side ?_);(first|refine hK _ ?_|refine hR _ _ ?_);clear hK hR K R)
  repeat (first | refine nav ?_ | refine bo ?_)
  refine W_cond (b:=decide (12 < s.rels.length)) (by simp only [go_sem];rw [decide_eq_decide];omega) (fun hd=>?_) (fun hd=>?_)
  ·repeat (first | refine nav ?_ | refine bo ?_)
   (refine wr fun K R hK hR=>?_;simp only [go_sem];(try go_ints);(repeat refine And.intro side ?_);(first|refine hK _ ?_|refine hR _ _ ?_);clear hK hR K R)
   repeat (first | refine nav ?_ | refine bo ?_)
   refine endQ_data (by simp only [go_sem]<;>exact rfl) (Le.of_eq ?_) rfl
   unfold fewS
   rw [decide_eq_false (by simpa using hd)];rfl
  ·have hd : s.rels.length ≤ 12:=by simpa using hd
   have hfs : fewS s = (match fewGo s.rels 0 0 with | some e=>decide (e ≤ 20000) | none=>false):=by unfold fewS;rw [decide_eq_true hd];rfl
   repeat (first | refine nav ?_ | refine bo ?_)
   (refine wr fun K R hK hR=>?_;simp only [go_sem];(try go_ints);(repeat refine And.intro side ?_);(first|refine hK _ ?_|refine hR _ _ ?_);clear hK hR K R)
   repeat (first | refine nav ?_ | refine bo ?_)
   refine W_for 21 87 [3,4,6,7] (fun m t2 o=>∃ (k n e : Nat),[] = o ∧ t2 6 = .i .i64 k ∧ t2 3 = .i .i64 n ∧ t2 4 = .i .i64 e ∧ m = s.rels.length - k ∧ k ≤ s.rels.length ∧ n ≤ 1500 ∧ e ≤ n * 1125899906842624 ∧ fewGo (s.rels.drop k) n e = fewGo s.rels 0 0) s.rels.length ⟨0,0,0,rfl,by simp only [go_sem]<;>rfl,by simp only [go_sem,h3]<;>rfl,by simp only [go_sem,h4]<;>rfl,by omega,by omega,by omega,by omega,rfl⟩ ?_
   rintro m t2 o ⟨k,n,e,rfl,h6,h3',h4',rfl,hk,hn,he,hgo⟩
   repeat (first | refine nav ?_ | refine bo ?_)
   (refine wr fun K R hK hR=>?_;simp only [go_sem,h6,h5,rl];(try go_ints);(try simp only [go_sem,h6,h5,rl]);(repeat refine And.intro side ?_);(first|refine hK _ ?_|refine hR _ _ ?_);clear hK hR K R)
   repeat (first | refine nav ?_ | refine bo ?_)
   refine W_cond (by simp only [go_sem]<;>exact rfl) (fun hb=>?_) (fun hb=>?_)
   ·simp at hb
    obtain ⟨r,hr⟩ : ∃ r,s.rels[k]? = some r:=⟨_,List.getElem?_eq_getElem hb⟩
    have hro:=hs.rel r (List.mem_of_getElem? hr)
    have hr1:=hro.len
    have hr2:=hro.name
    rw [drop_cons hr,fewGo] at hgo
    repeat (first | refine nav ?_ | refine bo ?_)
    (refine wr fun K R hK hR=>?_;simp only [go_sem,h6,h5,h3',rl,rels_get hr,tl];(try go_ints);(try simp only [go_sem,h6,h5,h3',rl,rels_get hr,tl]);(repeat refine And.intro side ?_);(first|refine hK _ ?_|refine hR _ _ ?_);clear hK hR K R)
    repeat (first | refine nav ?_ | refine bo ?_)
    (refine wr fun K R hK hR=>?_;simp only [go_sem,h6,h5,h3',rl,rels_get hr,tl];(try go_ints);(try simp only [go_sem,h6,h5,h3',rl,rels_get hr,tl]);(repeat refine And.intro side ?_);(first|refine hK _ ?_|refine hR _ _ ?_);clear hK hR K R)
    repeat (first | refine nav ?_ | refine bo ?_)
    refine W_cond (b:=decide (1500 < n + r.tuples.length) || decide (1000 < r.name.size)) (by simp only [go_sem];rw [show (decide ((n : Int) + (r.tuples.length : Int) > 1500)) = decide (1500 < n + r.tuples.length) from by rw [decide_eq_decide];omega,show (decide ((r.name.size : Int) > 1000)) = decide (1000 < r.name.size) from by rw [decide_eq_decide];omega]) (fun hd=>?_) (fun hd=>?_)
    ·rw [if_pos (by simpa using hd)] at hgo
     repeat (first | refine nav ?_ | refine bo ?_)
     (refine wr fun K R hK hR=>?_;simp only [go_sem];(try go_ints);(repeat refine And.intro side ?_);(first|refine hK _ ?_|refine hR _ _ ?_);clear hK hR K R)
     repeat (first | refine nav ?_ | refine bo ?_)
     refine endQ_data (by simp only [go_sem]<;>exact rfl) (Le.of_eq ?_) rfl
     rw [hfs,← hgo]
    ·have hd' : ¬ (1500 < n + r.tuples.length ∨ 1000 < r.name.size):=by simpa using hd
     rw [if_neg hd'] at hgo
     have hsum:=sumL_le hro.tup
     have hmul : (n + r.tuples.length) * 1125899906842624 = n * 1125899906842624 + r.tuples.length * 1125899906842624:=Nat.add_mul _ _ _
     repeat (first | refine nav ?_ | refine bo ?_)
     (refine wr fun K R hK hR=>?_;simp only [go_sem];(try go_ints);(repeat refine And.intro side ?_);(first|refine hK _ ?_|refine hR _ _ ?_);clear hK hR K R)
     repeat (first | refine nav ?_ | refine bo ?_)
     refine W_for 58 87 [4,7] (fun m t3 o=>∃ (j : Nat),[] = o ∧ t3 7 = .i .i64 j ∧ t3 4 = .i .i64 ((e + sumL (r.tuples.take j) : Nat) : Int) ∧ m = r.tuples.length - j ∧ j ≤ r.tuples.length) r.tuples.length ⟨0,rfl,by simp only [go_sem]<;>rfl,by simp only [go_sem,h4']<;>simp [sumL],by omega,by omega⟩ ?_
     rintro m t3 o ⟨j,rfl,h7,h43,rfl,hj⟩
     repeat (first | refine nav ?_ | refine bo ?_)
     (refine wr fun K R hK hR=>?_;simp only [go_sem,h7,h6,h5,rl,rels_get hr,tl];(try go_ints);(try simp only [go_sem,h7,h6,h5,rl,rels_get hr,tl]);(repeat refine And.intro side ?_);(first|refine hK _ ?_|refine hR _ _ ?_);clear hK hR K R)
     repeat (first | refine nav ?_ | refine bo ?_)
     refine W_cond (by simp only [go_sem]<;>exact rfl) (fun hb=>?_) (fun hb=>?_)
     ·simp at hb
      have hb2 : j + 1 ≤ r.tuples.length:=hb
      obtain ⟨x,hx⟩ : ∃ x,r.tuples[j]? = some x:=⟨_,List.getElem?_eq_getElem hb⟩
      have hst:=sumL_take hx
      have hxl:=hro.tup x (List.mem_of_getElem? hx)
      have hsj:=sumL_few hro.tup (by omega) j
      have il : (ints x).length = x.length:=by simp [ints]
      repeat (first | refine nav ?_ | refine bo ?_)
      (refine wr fun K R hK hR=>?_;simp only [go_sem,h7,h6,h5,h43,rl,rels_get hr,tl,tups_get hx,il];(try go_ints);(try simp only [go_sem,h7,h6,h5,h43,rl,rels_get hr,tl,tups_get hx,il]);(repeat refine And.intro side ?_);(first|refine hK _ ?_|refine hR _ _ ?_);clear hK hR K R)
      repeat (first | refine nav ?_ | refine bo ?_)
      (refine wr fun K R hK hR=>?_;simp only [go_sem,h7];(try go_ints);(try simp only [go_sem,h7]);(repeat refine And.intro side ?_);(first|refine hK _ ?_|refine hR _ _ ?_);clear hK hR K R)
      refine forQ_normal (r.tuples.length - (j + 1)) (by omega) ⟨j + 1,rfl,by simp only [go_sem]<;>rfl,?_,rfl,hb2⟩
      simp only [go_sem,hst]
      rw [show (e + (sumL (r.tuples.take j) + x.length) : Nat) = e + sumL (r.tuples.take j) + x.length from (Nat.add_assoc _ _ _).symm,Int.natCast_add (e + sumL (r.tuples.take j)) x.length]
     ·simp at hb
      obtain rfl : j = r.tuples.length:=by omega
      rw [List.take_length] at h43
      repeat (first | refine nav ?_ | refine bo ?_)
      (refine wr fun K R hK hR=>?_;simp only [go_sem,h6,mix_mix (lo:=58)];(try go_ints);(try simp only [go_sem,h6,mix_mix (lo:=58)]);(repeat refine And.intro side ?_);(first|refine hK _ ?_|refine hR _ _ ?_);clear hK hR K R)
      refine forQ_normal (s.rels.length - (k + 1)) (by omega) ⟨k + 1,n + r.tuples.length,e + sumL r.tuples,rfl,by simp only [go_sem]<;>rfl,by simp only [go_sem]<;>rfl,by simp only [go_sem,h43],rfl,by omega,by omega,by omega,hgo⟩
   ·simp at hb
    obtain rfl : k = s.rels.length:=by omega
    rw [List.drop_length,fewGo] at hgo
    repeat (first | refine nav ?_ | refine bo ?_)
    (refine wr fun K R hK hR=>?_;simp only [go_sem,h5,mix_mix (lo:=21)];(try go_ints);(try simp only [go_sem,h5,mix_mix (lo:=21)]);(repeat refine And.intro side ?_);(first|refine hK _ ?_|refine hR _ _ ?_);clear hK hR K R)
    refine forQ_normal (1 - (0 + 1)) (by omega) ⟨1,e,rfl,by simp only [go_sem]<;>rfl,by simp only [go_sem,h4'],rfl,by omega,.inr ⟨rfl,?_⟩⟩
    rw [hfs,← hgo]
 ·refine W_cond (b:=false) (by simp only [go_sem]<;>first | rfl | simp) (fun hd=>by cases hd) (fun _=>?_)
  have e1 : decide ((e : Int) ≤ 20000) = decide (e ≤ 20000):=by rw [decide_eq_decide];omega
  repeat (first | refine nav ?_ | refine bo ?_)
  (refine wr fun K R hK hR=>?_;simp only [go_sem,h4,e1];(try go_ints);(try simp only [go_sem,h4,e1]);(repeat refine And.intro side ?_);(first|refine hK _ ?_|refine hR _ _ ?_);clear hK hR K R)
  repeat (first | refine nav ?_ | refine bo ?_)
  refine endQ_data (by simp only [go_sem]<;>exact rfl) (Le.of_eq ?_) rfl
  rw [hf]
end Go.AW
namespace Go.AW
open Go Go.Proofs TyTryz
set_option linter.unusedSimpArgs false
set_option linter.unusedVariables false
set_option maxRecDepth 10000
section
variable {H : Type} {w : World} {enc : TypeId × Value → H} {base : Nat} {spare : Nat → Bool} {held : Bool}
theorem read_rel {k : Nat} {cs : List Value} {d : DataW H} {ps : List MemPlace} (h : DataW.trod enc Tryz.prog w base spare held k 54 cs = some (d,ps)) (hw : Lite 54 d) : ∃ r : RelD,cellsAV Tryz.prog k 54 d = r.cells ∧ r.Wide:=by
 cases k with
 | zero=>simp [DataW.trod] at h
 | succ k =>
  obtain ⟨parts,h1,h2,h3⟩:=read_fields undRel h hw
  rw [fldsRel] at h1 h2 h3
  match parts,h2 with
  | [a,b,c],_ =>
   obtain ⟨⟨_,_,q0⟩,w0⟩:=h3 0 9 a rfl rfl
   obtain ⟨⟨_,_,q1⟩,w1⟩:=h3 1 3 b rfl rfl
   obtain ⟨⟨_,_,q2⟩,w2⟩:=h3 2 31 c rfl rfl
   obtain ⟨x,ex,bx⟩:=read_str q0 w0
   obtain ⟨n,en⟩:=read_int q1
   obtain ⟨l,el,bl,bt⟩:=read_tups q2 w2
   have hrb : reachBytes ≤ 1125899906842624:=by decide
   refine ⟨⟨x,n,l⟩,?_,⟨Nat.le_trans bx hrb,Nat.le_trans bl hrb,fun t ht=>Nat.le_trans (bt t ht) hrb⟩⟩
   rw [h1]
   simp only [List.zip_cons_cons,List.zip_nil_right,List.flatMap_cons,List.flatMap_nil,ex,en,el]
   rfl
theorem read_stru {k : Nat} {cs : List Value} {d : DataW H} {ps : List MemPlace} (h : DataW.trod enc Tryz.prog w base spare held k 28 cs = some (d,ps)) (hw : Lite 28 d) :
  ∃ s : StrD,cellsAV Tryz.prog k 28 d = [.i .i64 s.size,.sl 3 (rels s.rels)] ∧ s.Wide:=by
 cases k with
 | zero=>simp [DataW.trod] at h
 | succ k =>
  obtain ⟨parts,h1,h2,h3⟩:=read_fields undStru h hw
  rw [fldsStru] at h1 h2 h3
  match parts,h2 with
  | [a,b],_ =>
   obtain ⟨⟨_,_,q0⟩,w0⟩:=h3 0 3 a rfl rfl
   obtain ⟨⟨_,_,q1⟩,w1⟩:=h3 1 26 b rfl rfl
   obtain ⟨n,en⟩:=read_int q0
   cases k with
   | zero=>simp [DataW.trod] at q1
   | succ k =>
    obtain ⟨elems,g1,g2,g3⟩:=read_sl undRels (by decide +kernel) q1 w1
    obtain ⟨r,e1,e2,e3⟩:=read_map (F:=fun x=>cellsAV Tryz.prog k 54 x) (G:=RelD.cells) (Pr:=RelD.Wide) (l:=elems) fun x hx=>by
     obtain ⟨⟨cells,q,hq⟩,hl⟩:=g3 x hx
     exact read_rel hq hl
    have hrb : reachBytes ≤ 1125899906842624:=by decide
    refine ⟨⟨n,r⟩,?_,⟨by simp only;omega,fun q hq=>?_⟩⟩
    ·rw [h1]
     simp only [List.zip_cons_cons,List.zip_nil_right,List.flatMap_cons,List.flatMap_nil,en,g1,e1,sz54]
     rfl
    ·exact e3 q hq
end
end Go.AW
namespace Go.AW
open Go Go.Proofs TyTryz Go.IntWalk
set_option linter.unusedSimpArgs false
set_option linter.unusedVariables false
set_option maxRecDepth 10000
set_option maxHeartbeats 2000000
def bools (l : List Bool) : List (List AV):=l.map fun b=>[.b b]
theorem bools_len (l : List Bool) : (bools l).length = l.length:=by simp [bools]
theorem bools_get {l : List Bool} {i : Nat} {x : Bool} (h : l[i]? = some x) : (bools l).getD i [] = [.b x]:=by simp [bools,h]
theorem bools_set (l : List Bool) (p : Nat) (b : Bool) : (bools l).modify p (fun row=>row.set 0 (.b b)) = bools (l.set p b):=by
 apply List.ext_getElem?
 intro i
 simp only [bools,List.getElem?_modify,List.getElem?_map,List.getElem?_set]
 by_cases h : p = i
 ·subst h
  by_cases h2 : p < l.length
  ·simp [h2]
  ·simp [h2]
 ·simp [h]
theorem bools_ltk (l : List Bool) (k : Nat) : (Ob.cells 1 (bools l)).ltk k = true:=by
 simp [Ob.ltk,bools,AV.ltk]
def TabP (oc : List Ob) (nm : ByteArray) (n k : Nat) (f : List Int → Bool) (r : AV) (o' : List Ob) : Prop :=
 ∃ id,r = .agg [.s nm,.i .i64 k,.ref id 0 (n ^ k)] ∧ oc.length ≤ id ∧ id < o'.length ∧ (∀ j < oc.length,o'[j]? = oc[j]?) ∧ o'[id]? = some (.cells 1 (bools (hasF n k f))) ∧ okO o' = true
theorem TabP.shape {oc : List Ob} {nm : ByteArray} {n k : Nat} {f : List Int → Bool} {r : AV} {o' : List Ob} (h : TabP oc nm n k f r o') : oc.length ≤ o'.length ∧ r.ltk o'.length = true ∧ okO o' = true:=by
 obtain ⟨id,rfl,h1,h2,h3,h4,h5⟩:=h
 exact ⟨by omega,by simp [AV.ltk,AV.ltks,h2],h5⟩
theorem tableOf_spec (n k : Nat) (hn : 1 ≤ n) (hn2 : n ≤ 64) (hk : k ≤ 12) (hp : n ^ k ≤ 4096) (nm : ByteArray) (l : List (List Int)) (hl : ∀ t ∈ l,InT n k t) (hll : l.length ≤ 1000000) {oc : List Ob} (ho : okO oc = true) :
  ACalls Tryz.prog 65 [.i .i64 n,.s nm,.i .i64 k,.sl 1 (tups l)] oc (TabP oc nm n k fun t=>decide (t ∈ l)):=by
 have tl:=tups_len'
 have hps:=pow_spec n k (by omega) (by omega) (by omega) (by omega)
 rw [Int.toNat_natCast,pow2_eq n hn k hp] at hps
 have hlen:=hasF_len n k
 have hzero:=hasF_false n k
 have hrk : ∀ t ∈ l,rankN n t < n ^ k:=fun t ht=>(digs_rank n hn k t (hl t ht)).1
 unfold TabP
 have hrank:=fun t ht=>rrank_spec n k hn hn2 hk hp t (hl t ht)
 have hset:=fun t ht=>hasF_set hn (hl t ht)
 generalize hM : n ^ k = M at *
 refine ACalls_of' (n:=34) (rs:=[.cell 8 98]) (show Tryz.prog.funcs[65]? = some Tryz.f65 by kernel_rfl) rfl rfl rfl (by simp) (by decide +kernel) ?_
 repeat (first | refine nav ?_ | refine bo ?_)
 (refine wr fun K R hK hR=>?_;simp only [go_sem];(try go_ints);(repeat refine And.intro side ?_);(first|refine hK _ ?_|refine hR _ _ ?_);clear hK hR K R)
 repeat (first | refine nav ?_ | refine bo ?_)
 (refine wr fun K R hK hR=>?_;simp only [go_sem];(try go_ints);(repeat refine And.intro side ?_);(first|refine hK _ ?_|refine hR _ _ ?_);clear hK hR K R)
 refine RL_callF (hps) rfl rfl rfl (by first | (simp only [go_sem]<;>first | exact LeA.refl _ | exact Le.refl _) | exact LeA.refl _) rfl rfl ?_
 (refine rr fun K R hK hR=>?_;simp only [go_sem];(try go_ints);(repeat refine And.intro side ?_);(first|refine hK _ ?_|refine hR _ _ ?_);clear hK hR K R)
 repeat (first | refine nav ?_ | refine bo ?_)
 (refine wr fun K R hK hR=>?_;simp only [go_sem];(try go_ints);(repeat refine And.intro side ?_);(first|refine hK _ ?_|refine hR _ _ ?_);clear hK hR K R)
 repeat (first | refine nav ?_ | refine bo ?_)
 have e0 : List.replicate M [AV.b false] = bools (hasF n k fun t=>decide (t ∈ l.take 0)):=by
  have : (fun t : List Int=>decide (t ∈ l.take 0)) = fun _=>false:=by funext t;simp
  rw [this,hzero];simp [bools]
 rw [e0]
 refine W_for 18 33 [10] (fun m t o=>∃ j : Nat,o = oc ++ [Ob.cells 3 [[AV.s ByteArray.empty,AV.i IntKind.i64 0,AV.own 1 []]],Ob.cells 1 (bools (hasF n k fun t=>decide (t ∈ l.take j))),Ob.cells 3 [[AV.s nm,AV.i IntKind.i64 k,AV.ref (oc.length + 1) 0 M]]] ∧ t 10 = .i .i64 j ∧ m = l.length - j ∧ j ≤ l.length) l.length ⟨0,rfl,by simp only [go_sem]<;>rfl,by omega,by omega⟩ ?_
 rintro m t o ⟨j,rfl,h10,rfl,hj⟩
 repeat (first | refine nav ?_ | refine bo ?_)
 (refine wr fun K R hK hR=>?_;simp only [go_sem,h10,tl];(try go_ints);(try simp only [go_sem,h10,tl]);(repeat refine And.intro side ?_);(first|refine hK _ ?_|refine hR _ _ ?_);clear hK hR K R)
 repeat (first | refine nav ?_ | refine bo ?_)
 refine W_cond (by simp only [go_sem]<;>exact rfl) (fun hb=>?_) (fun hb=>?_)
 ·simp at hb
  have hb0 : j + 1 ≤ l.length:=hb
  obtain ⟨x,hx⟩ : ∃ x,l[j]? = some x:=⟨_,List.getElem?_eq_getElem hb⟩
  have hxm:=List.mem_of_getElem? hx
  have hrx:=hrk x hxm
  have hsx:=hset x hxm (fun t=>decide (t ∈ l.take j)) true
  have hcg : (hasF n k fun u=>if u = x then true else decide (u ∈ l.take j)) = hasF n k fun u=>decide (u ∈ l.take (j + 1)):=by
   congr 1
   funext u
   rw [List.take_add_one,hx]
   by_cases h : u = x
   ·simp [h]
   ·simp [h]
  have hsx2:=hsx.trans hcg
  have hlj:=hlen fun t=>decide (t ∈ l.take j)
  obtain ⟨B,hB⟩ : ∃ B,B = hasF n k fun t=>decide (t ∈ l.take j):=⟨_,rfl⟩
  rw [← hB] at hsx2 hlj ⊢
  have hrx2 : rankN n x < B.length:=by omega
  obtain ⟨z,hz⟩ : ∃ z,B[rankN n x]? = some z:=⟨_,List.getElem?_eq_getElem hrx2⟩
  repeat (first | refine nav ?_ | refine bo ?_)
  (refine W_dreg (by decide +kernel) [] [0,1,2,3,4,5,6,7,8,9] [[],[0],[],[],[],[4,3],[3,4,5],[5,4,3,6,2],[2,6,3,4,5,7,0,1],[1,0,7,5,4,3,6,2,8]] (by decide +kernel) rfl fun K R hK hR=>?_;simp only [List.filterMap_cons,List.filterMap_nil,List.getElem?_cons_zero,List.getElem?_cons_succ,List.cons_append,List.nil_append];simp only [go_sem,h10,tups_get hx,tl];(try go_ints);(try simp only [go_sem,h10,tups_get hx,tl]);(repeat refine And.intro side ?_);(first|refine hK _ ?_|refine hR _ _ ?_);clear hK hR K R)
  refine D_callD (hrank x hxm) rfl rfl rfl (by first | (simp only [go_sem]<;>first | exact LeA.refl _ | exact Le.refl _) | exact LeA.refl _) rfl rfl rfl rfl ?_
  (refine D_reg fun K R hK hR=>?_;simp only [go_sem,bools_get hz,bools_len,hlj,bools_set];(try go_ints);(try simp only [go_sem,bools_get hz,bools_len,hlj,bools_set]);(repeat refine And.intro side ?_);(first|refine hK _ ?_|refine hR _ _ ?_);clear hK hR K R)
  rw [hsx2]
  repeat (first | refine nav ?_ | refine bo ?_)
  (refine wr fun K R hK hR=>?_;simp only [go_sem,h10];(try go_ints);(try simp only [go_sem,h10]);(repeat refine And.intro side ?_);(first|refine hK _ ?_|refine hR _ _ ?_);clear hK hR K R)
  refine forQ_normal (l.length - (j + 1)) (by omega) ⟨j + 1,rfl,by simp only [go_sem]<;>rfl,rfl,hb0⟩
 ·simp at hb
  obtain rfl : j = l.length:=by omega
  rw [List.take_length]
  repeat (first | refine nav ?_ | refine bo ?_)
  (refine wr fun K R hK hR=>?_;simp only [go_sem];(try go_ints);(repeat refine And.intro side ?_);(first|refine hK _ ?_|refine hR _ _ ?_);clear hK hR K R)
  repeat (first | refine nav ?_ | refine bo ?_)
  refine endQ_all (by simp only [go_sem]<;>exact rfl) (Le.refl _) (by simp) (okO_app ho ?_) (by simp [AV.ltk,AV.ltks]) ⟨oc.length + 1,rfl,by omega,by simp,fun j hj=>List.getElem?_append_left hj,by simp [List.getElem?_append_right],okO_app ho ?_⟩
  all_goals simp [Ob.ltk,bools,AV.ltk,AV.ltks]
theorem filter_snoc {l : List (List Int)} {j : Nat} {x : List Int} (hx : l[j]? = some x) (p : List Int → Bool) : (l.take (j + 1)).filter p = (l.take j).filter p ++ if p x = true then [x] else []:=by
 rw [List.take_add_one,hx,List.filter_append]
 simp only [Option.toList_some,List.filter_cons,List.filter_nil]
theorem listed_spec (n k : Nat) (hn : 1 ≤ n) (hn2 : n ≤ 64) (hk : k ≤ 12) (hp : n ^ k ≤ 4096) (nm : ByteArray) (f : List Int → Bool) :
  ACallsD Tryz.prog 67 [.agg [.s nm,.i .i64 k,.sl 1 (bools (hasF n k f))],.i .i64 n] (.sl 1 (tups ((allT n k).filter f))):=by
 have tl:=tups_len'
 have hlen:=hasF_len n k f
 have hal:=allT_len n k
 refine ACalls_of' (n:=31) (rs:=[.tmp 4]) (show Tryz.prog.funcs[67]? = some Tryz.f67 by kernel_rfl) rfl rfl rfl (by simp) (by decide +kernel) ?_
 repeat (first | refine nav ?_ | refine bo ?_)
 (refine wr fun K R hK hR=>?_;simp only [go_sem];(try go_ints);(repeat refine And.intro side ?_);(first|refine hK _ ?_|refine hR _ _ ?_);clear hK hR K R)
 repeat (first | refine nav ?_ | refine bo ?_)
 (refine wr fun K R hK hR=>?_;simp only [go_sem];(try go_ints);(repeat refine And.intro side ?_);(first|refine hK _ ?_|refine hR _ _ ?_);clear hK hR K R)
 repeat (first | refine nav ?_ | refine bo ?_)
 (refine wr fun K R hK hR=>?_;simp only [go_sem];(try go_ints);(repeat refine And.intro side ?_);(first|refine hK _ ?_|refine hR _ _ ?_);clear hK hR K R)
 refine RL_callF (rtuples_spec n k hn hn2 hk hp) rfl rfl rfl (by first | (simp only [go_sem]<;>first | exact LeA.refl _ | exact Le.refl _) | exact LeA.refl _) rfl rfl ?_
 (refine rr fun K R hK hR=>?_;simp only [go_sem];(try go_ints);(repeat refine And.intro side ?_);(first|refine hK _ ?_|refine hR _ _ ?_);clear hK hR K R)
 repeat (first | refine nav ?_ | refine bo ?_)
 (refine wr fun K R hK hR=>?_;simp only [go_sem];(try go_ints);(repeat refine And.intro side ?_);(first|refine hK _ ?_|refine hR _ _ ?_);clear hK hR K R)
 repeat (first | refine nav ?_ | refine bo ?_)
 refine W_for 12 30 [5,7] (fun m t o=>∃ j : Nat,[Ob.cells 3 [[.s nm,.i .i64 k,.sl 1 (bools (hasF n k f))]]] = o ∧ t 7 = .i .i64 j ∧ t 5 = .own 1 (tups (((allT n k).take j).filter f)) ∧ m = (allT n k).length - j ∧ j ≤ (allT n k).length) (allT n k).length ⟨0,rfl,by simp only [go_sem]<;>rfl,by simp only [go_sem]<;>rfl,by omega,by omega⟩ ?_
 rintro m t o ⟨j,rfl,h7,h5,rfl,hj⟩
 repeat (first | refine nav ?_ | refine bo ?_)
 (refine wr fun K R hK hR=>?_;simp only [go_sem,h7,tl];(try go_ints);(try simp only [go_sem,h7,tl]);(repeat refine And.intro side ?_);(first|refine hK _ ?_|refine hR _ _ ?_);clear hK hR K R)
 repeat (first | refine nav ?_ | refine bo ?_)
 refine W_cond (by simp only [go_sem]<;>exact rfl) (fun hb=>?_) (fun hb=>?_)
 ·simp at hb
  have hb0 : j + 1 ≤ (allT n k).length:=hb
  obtain ⟨x,hx⟩ : ∃ x,(allT n k)[j]? = some x:=⟨_,List.getElem?_eq_getElem hb⟩
  have hfx:=hasF_get (f:=f) hx
  have hfs:=filter_snoc hx f
  obtain ⟨acc,hacc⟩ : ∃ acc,acc = ((allT n k).take j).filter f:=⟨_,rfl⟩
  have hal2 : acc.length ≤ 4096:=by
   rw [hacc]
   have h1:=List.length_filter_le f ((allT n k).take j)
   have h2:=List.length_take_le' j (allT n k)
   omega
  have hal3 : (tups acc).length ≤ 4096:=by rw [tl];exact hal2
  rw [← hacc] at h5 hfs
  repeat (first | refine nav ?_ | refine bo ?_)
  (refine wr fun K R hK hR=>?_;simp only [go_sem,h7,bools_get hfx,bools_len,hlen];(try go_ints);(try simp only [go_sem,h7,bools_get hfx,bools_len,hlen]);(repeat refine And.intro side ?_);(first|refine hK _ ?_|refine hR _ _ ?_);clear hK hR K R)
  repeat (first | refine nav ?_ | refine bo ?_)
  refine W_cond (b:=f x) (by simp only [go_sem]) (fun hc=>?_) (fun hc=>?_)
  ·rw [if_pos hc] at hfs
   repeat (first | refine nav ?_ | refine bo ?_)
   (refine W_reg [23] fun K R hK hR=>?_;simp only [go_sem,h7,h5,tups_get hx,tl];(try go_ints);(try simp only [go_sem,h7,h5,tups_get hx,tl]);(repeat refine And.intro side ?_);(first|refine hK _ ?_|refine hR _ _ ?_);clear hK hR K R)
   repeat (first | refine nav ?_ | refine bo ?_)
   (refine wr fun K R hK hR=>?_;simp only [go_sem,h7];(try go_ints);(try simp only [go_sem,h7]);(repeat refine And.intro side ?_);(first|refine hK _ ?_|refine hR _ _ ?_);clear hK hR K R)
   refine forQ_normal ((allT n k).length - (j + 1)) (by omega) ⟨j + 1,rfl,by simp only [go_sem]<;>rfl,?_,rfl,hb0⟩
   simp only [go_sem,hfs,tups_app]
  ·rw [if_neg (by rw [hc];decide),List.append_nil] at hfs
   repeat (first | refine nav ?_ | refine bo ?_)
   (refine wr fun K R hK hR=>?_;simp only [go_sem,h7];(try go_ints);(try simp only [go_sem,h7]);(repeat refine And.intro side ?_);(first|refine hK _ ?_|refine hR _ _ ?_);clear hK hR K R)
   refine forQ_normal ((allT n k).length - (j + 1)) (by omega) ⟨j + 1,rfl,by simp only [go_sem]<;>rfl,?_,rfl,hb0⟩
   simp only [go_sem,hfs,h5]
 ·simp at hb
  obtain rfl : j = (allT n k).length:=by omega
  rw [List.take_length] at h5
  repeat (first | refine nav ?_ | refine bo ?_)
  (refine wr fun K R hK hR=>?_;simp only [go_sem,h5];(try go_ints);(try simp only [go_sem,h5]);(repeat refine And.intro side ?_);(first|refine hK _ ?_|refine hR _ _ ?_);clear hK hR K R)
  repeat (first | refine nav ?_ | refine bo ?_)
  refine endQ_data (by simp only [go_sem]<;>exact rfl) (Le.of_eq ?_) rfl
  rfl
end Go.AW
namespace Go.AW
open Go
set_option linter.unusedSimpArgs false
set_option linter.unusedVariables false
instance : LawfulBEq ByteArray where
 eq_of_beq {a b} h:=by
  cases a;cases b
  rename_i x y
  have h : (x == y) = true:=h
  rw [beq_iff_eq] at h;rw [h]
 rfl {a}:=by
  cases a;rename_i x
  show (x == x) = true
  simp
def badN (x : ByteArray × Int) (ws : Names) : Bool:=match lookN x.1 ws with | some n=>n != x.2 | none=>false
def addN (ws : Names) : Names → Option Names
 | []=>some ws
 | x :: r=>if badN x ws = true then none else addN (setN x.1 x.2 ws) r
theorem addN_append (l r : Names) : ∀ ws,addN ws (l ++ r) = (addN ws l).bind fun ws'=>addN ws' r:=by
 induction l with
 | nil=>intro ws;rfl
 | cons x l ih =>
  intro ws
  simp only [List.cons_append,addN]
  split
  ·rfl
  ·exact ih _
theorem lookN_setN (a b : ByteArray) (w : Int) : ∀ ws : Names,lookN a (setN b w ws) = if a = b then some w else lookN a ws
 | []=>by
  simp only [setN,lookN]
  by_cases h : a = b
  ·simp [h]
  ·rw [if_neg h,if_neg (by simpa using h)]
 | x :: r=>by
  simp only [setN]
  by_cases hb : b = x.1
  ·rw [if_pos (by simpa using hb)]
   simp only [lookN]
   by_cases h : a = b
   ·simp [h]
   ·rw [if_neg h,if_neg (by simpa using h),if_neg (by simpa using fun e : a = x.1=>h (e.trans hb.symm))]
  ·rw [if_neg (by simpa using hb)]
   simp only [lookN]
   by_cases h : a = x.1
   ·rw [if_pos (by simpa using h),if_neg (fun e=>hb (e.symm.trans h)),if_pos (by simpa using h)]
   ·rw [if_neg (by simpa using h),lookN_setN a b w r]
    split
    ·rfl
    ·rw [if_neg (by simpa using h)]
theorem addN_some : ∀ (l ws : Names),(addN ws l).isSome = true ↔ (∀ x ∈ l,∀ v,lookN x.1 ws = some v → v = x.2) ∧ l.Pairwise fun x y=>x.1 = y.1 → x.2 = y.2
 | [],ws=>by simp [addN]
 | x :: r,ws=>by
  simp only [addN,List.pairwise_cons]
  constructor
  ·intro h
   split at h
   ·cases h
   ·rename_i hc
    have hx : ∀ v,lookN x.1 ws = some v → v = x.2:=by
     intro v hv
     unfold badN at hc
     rw [hv] at hc
     simpa using hc
    obtain ⟨h1,h2⟩:=(addN_some r _).1 h
    refine ⟨fun y hy v hv=>?_,fun y hy e=>?_,h2⟩
    ·rcases List.mem_cons.1 hy with rfl | hy
     ·exact hx v hv
     ·by_cases e : y.1 = x.1
      ·have:=h1 y hy x.2 (by rw [lookN_setN,if_pos e])
       rw [← this];exact hx v (e ▸ hv)
      ·exact h1 y hy v (by rw [lookN_setN,if_neg e];exact hv)
    ·exact h1 y hy x.2 (by rw [lookN_setN,if_pos e.symm])
  ·rintro ⟨h1,h2,h3⟩
   rw [if_neg]
   ·refine (addN_some r _).2 ⟨fun y hy v hv=>?_,h3⟩
    rw [lookN_setN] at hv
    split at hv
    ·rename_i e
     rw [← Option.some.inj hv];exact h2 y hy e.symm
    ·exact h1 y (by simp [hy]) v hv
   ·have:=h1 x (by simp)
    unfold badN
    cases hv : lookN x.1 ws with
    | none=>simp
    | some v=>simp [this v hv]
theorem clash_iff (l : Names) (i k : Nat) (hi : i < l.length) (hk : k < l.length) : clash l i k = true ↔ l[k].1 = l[i].1 ∧ l[k].2 ≠ l[i].2:=by
 unfold clash
 simp only [List.getD_eq_getElem?_getD,List.getElem?_eq_getElem hi,List.getElem?_eq_getElem hk,Option.getD_some,Bool.and_eq_true,beq_iff_eq,bne_iff_ne,ByteArray.toList_eq]
 constructor
 ·rintro ⟨h,h'⟩
  exact ⟨ByteArray.ext (Array.ext' h),h'⟩
 ·rintro ⟨h,h'⟩
  exact ⟨by rw [h],h'⟩
theorem oneW_iff (l : Names) : oneW l = true ↔ l.Pairwise fun x y=>x.1 = y.1 → x.2 = y.2:=by
 rw [List.pairwise_iff_getElem]
 unfold oneW
 simp only [List.all_eq_true,List.mem_range,Bool.not_eq_true']
 constructor
 ·intro h k i hk hi hki e
  have:=h i hi k hki
  rw [← Bool.not_eq_true,clash_iff l i k hi hk] at this
  exact Decidable.byContradiction fun hne=>this ⟨e,hne⟩
 ·intro h i hi k hki
  rw [← Bool.not_eq_true,clash_iff l i k hi (by omega)]
  rintro ⟨e,hne⟩
  exact hne (h k i (by omega) hi hki e)
theorem addN_oneW (l : Names) : (addN [] l).isSome = oneW l:=by
 rw [Bool.eq_iff_iff,addN_some,oneW_iff]
 simp [lookN]
theorem widthsR_cases (l : List PlanD) : widthsR l = if l.all (fun q=>decide (0 ≤ widthR q)) then some (l.map widthR) else none:=by
 by_cases h : ∀ q ∈ l,¬ widthR q < 0
 ·rw [widthsR_some h,if_pos]
  rw [List.all_eq_true]
  intro q hq
  have:=h q hq
  simp;omega
 ·have : ∃ q ∈ l,widthR q < 0:=by
   apply Decidable.byContradiction
   intro hn
   exact h fun q hq hlt=>hn ⟨q,hq,hlt⟩
  obtain ⟨q,hq,hlt⟩:=this
  rw [widthsR_none hq hlt,if_neg]
  rw [List.all_eq_true]
  intro hall
  have:=hall q hq
  simp at this;omega
end Go.AW
namespace Go.AW
open Go
set_option linter.unusedSimpArgs false
set_option linter.unusedVariables false
def lawF (p : PlanD) (lv n : Nat) (ws : Names) : Option (Int × Nat × Names) :=
 if n + cntF p ≤ 4000 ∧ lv + deepF p ≤ 1001 ∧ 0 ≤ widthR p then (addN ws (symsF p)).map fun ws'=>(widthR p,n + cntF p,ws') else none
def lawL (l : List PlanD) (lv n : Nat) (ws : Names) : Option (List Int × Nat × Names) :=
 if n + cntL l ≤ 4000 ∧ lv + deepL l ≤ 1001 ∧ l.all (fun q=>decide (0 ≤ widthR q)) = true then (addN ws (symsL l)).map fun ws'=>(l.map widthR,n + cntL l,ws') else none
theorem walkL_law {lv : Nat} : ∀ (l : List PlanD),(∀ q ∈ l,∀ n ws,n ≤ 4000 → walkF q lv n ws = lawF q lv n ws) → ∀ n ws,n ≤ 4000 → lv ≤ 1001 → walkL l lv n ws = lawL l lv n ws
 | [],_,n,ws,hn,hlv=>by
  unfold lawL
  rw [if_pos (by simp [cntL,deepL];omega)]
  simp [walkL,symsL,addN,cntL]
 | p :: r,h,n,ws,hn,hlv=>by
  simp only [walkL]
  rw [h p (by simp) n ws hn]
  unfold lawF lawL
  simp only [cntL,deepL,symsL,List.all_cons,List.map_cons,Bool.and_eq_true,decide_eq_true_eq,addN_append]
  by_cases hc : n + cntF p ≤ 4000 ∧ lv + deepF p ≤ 1001 ∧ 0 ≤ widthR p
  ·rw [if_pos hc]
   cases ha : addN ws (symsF p) with
   | none=>simp
   | some ws' =>
    simp only [Option.map_some,Option.bind_some]
    rw [walkL_law r (fun q hq=>h q (by simp [hq])) _ ws' (by omega) hlv]
    unfold lawL
    by_cases hd : n + cntF p + cntL r ≤ 4000 ∧ lv + deepL r ≤ 1001 ∧ (r.all fun q=>decide (0 ≤ widthR q)) = true
    ·rw [if_pos hd,if_pos ⟨by omega,by omega,hc.2.2,hd.2.2⟩]
     cases addN ws' (symsL r) with
     | none=>rfl
     | some ws2=>simp only [Option.map_some];rw [show n + cntF p + cntL r = n + (cntF p + cntL r) by omega]
    ·rw [if_neg hd,if_neg (fun hh=>hd ⟨by omega,by omega,hh.2.2.2⟩)]
  ·rw [if_neg hc,if_neg (fun hh=>hc ⟨by omega,by omega,hh.2.2.1⟩)]
theorem capW_eq (x : Int) : (0 ≤ capW x ↔ 0 ≤ x ∧ x ≤ 12) ∧ (0 ≤ x ∧ x ≤ 12 → capW x = x):=by
 unfold capW
 constructor
 ·split<;>omega
 ·intro h;rw [if_neg (by omega)]
theorem node_law (p : PlanD) (ws : List Int) (hw : ∀ x ∈ ws,0 ≤ x ∧ x ≤ 12) (hl : ws.length = p.kids.length) (m : Names) (h1 : ¬ (decide (p.kind < 0) || decide (p.kind ≥ 8) || !spareF p || ((p.kids.length : Int) != kidsF p.kind)) = true) :
  finF p ws m = if 0 ≤ capW (outF p ws) then (addN m (if p.kind = 0 then [(p.name,p.width)] else [])).map fun m'=>(capW (outF p ws),m') else none:=by
 simp only [Bool.or_eq_true,Bool.not_eq_true',not_or,decide_eq_true_eq,Bool.not_eq_false,bne_iff_ne,ne_eq,Decidable.not_not] at h1
 obtain ⟨⟨⟨k0,k8⟩,hs⟩,hk⟩:=h1
 have hcap:=capW_eq (outF p ws)
 have fin : ∀ (w : Int) (m' : Names),outF p ws = w → (if (false || decide (w < 0) || decide (w > 12)) = true then none else some (w,m')) = if 0 ≤ capW (outF p ws) then some (capW (outF p ws),m') else none:=by
  rintro w m' rfl
  by_cases hc : 0 ≤ outF p ws ∧ outF p ws ≤ 12
  ·rw [if_pos (hcap.1.2 hc),hcap.2 hc,if_neg (by simp;omega)]
  ·rw [if_neg (fun h=>hc (hcap.1.1 h)),if_pos (by simp;omega)]
 have finB : ∀ (w : Int) (m' : Names),outF p ws = -1 → (if (true || decide (w < 0) || decide (w > 12)) = true then none else some (w,m')) = if 0 ≤ capW (outF p ws) then some (capW (outF p ws),m') else none:=by
  intro w m' h
  have : ¬ 0 ≤ capW (outF p ws):=fun h2=>by have:=hcap.1.1 h2;omega
  rw [if_pos (by simp),if_neg this]
 have hkk : p.kind = 0 ∨ p.kind = 1 ∨ p.kind = 2 ∨ p.kind = 3 ∨ p.kind = 4 ∨ p.kind = 5 ∨ p.kind = 6 ∨ p.kind = 7:=by omega
 unfold spareF at hs
 simp only [Bool.and_eq_true,Bool.or_eq_true,beq_iff_eq,decide_eq_true_eq] at hs
 obtain ⟨⟨⟨s1,s2⟩,s3⟩,s4⟩:=hs
 have one : p.kids.length = 1 → ∃ a,ws = [a]:=fun h=>List.length_eq_one_iff.1 (by omega)
 have two : p.kids.length = 2 → ∃ a b,ws = [a,b]:=fun h=>by
  have h2 : ws.length = 2:=by omega
  match ws,h2 with
  | [a,b],_=>exact ⟨a,b,rfl⟩
 rcases hkk with e | e | e | e | e | e | e | e
 ·have hk0 : p.kids.length = 0:=by rw [e] at hk;have : kidsF 0 = 0:=rfl;omega
  obtain rfl : ws = []:=List.length_eq_zero_iff.1 (by omega)
  have hij : p.i = 0 ∧ p.j = 0:=by omega
  have hc : p.cols.length = 0:=by omega
  have ho : outF p [] = if nameF p.name = true then p.width else -1:=by
   unfold outF
   simp [e,hij,hc]
  have hf : finF p [] m = if ((!nameF p.name || badN (p.name,p.width) m) || decide (p.width < 0) || decide (p.width > 12)) = true then none else some (p.width,setN p.name p.width m):=by
   unfold finF
   simp only
   rw [if_pos e];rfl
  rw [hf,if_pos e]
  simp only [addN]
  cases hn : nameF p.name
  ·rw [hn] at ho
   simp only [Bool.not_false,Bool.true_or]
   have : ¬ 0 ≤ capW (outF p []):=fun h2=>by have:=hcap.1.1 h2;simp at ho;omega
   rw [if_neg this,if_pos trivial]
  ·rw [hn] at ho
   simp only [if_true] at ho
   simp only [Bool.not_true,Bool.false_or]
   cases hbb : badN (p.name,p.width) m
   ·rw [fin p.width (setN p.name p.width m) ho]
    simp
   ·simp
 ·have hk0 : p.kids.length = 0:=by rw [e] at hk;have : kidsF 1 = 0:=rfl;omega
  obtain rfl : ws = []:=List.length_eq_zero_iff.1 (by omega)
  have hij : p.i = 0 ∧ p.j = 0:=by omega
  have hc : p.cols.length = 0:=by omega
  have hn : p.name.size = 0:=by omega
  have ho : outF p [] = p.width:=by
   unfold outF
   simp [e,hij,hc,hn]
  unfold finF
  simp only [e]
  have:=fin p.width m ho
  simpa [addN] using this
 ·obtain ⟨a,rfl⟩:=one (by rw [e] at hk;have : kidsF 2 = 1:=rfl;omega)
  have hc : p.cols.length = 0:=by omega
  have hn : p.name.size = 0:=by omega
  have hw0 : p.width = 0:=by omega
  have ho : outF p [a] = if insideF a [p.i,p.j] = true then a else -1:=by
   unfold outF
   simp [e,hc,hn,hw0]
  unfold finF
  simp only [e]
  cases hin : insideF a [p.i,p.j]
  ·rw [hin] at ho
   have:=finB a m (by simpa using ho)
   simpa [addN,hin] using this
  ·rw [hin] at ho
   have:=fin a m (by simpa using ho)
   simpa [addN,hin] using this
 ·obtain ⟨a,rfl⟩:=one (by rw [e] at hk;have : kidsF 3 = 1:=rfl;omega)
  have hc : p.cols.length = 0:=by omega
  have hn : p.name.size = 0:=by omega
  have hw0 : p.width = 0:=by omega
  have ho : outF p [a] = if insideF a [p.i,p.j] = true then a else -1:=by
   unfold outF
   simp [e,hc,hn,hw0]
  unfold finF
  simp only [e]
  cases hin : insideF a [p.i,p.j]
  ·rw [hin] at ho
   have:=finB a m (by simpa using ho)
   simpa [addN,hin] using this
  ·rw [hin] at ho
   have:=fin a m (by simpa using ho)
   simpa [addN,hin] using this
 ·obtain ⟨a,b,rfl⟩:=two (by rw [e] at hk;have : kidsF 4 = 2:=rfl;omega)
  have hij : p.i = 0 ∧ p.j = 0:=by omega
  have hc : p.cols.length = 0:=by omega
  have hn : p.name.size = 0:=by omega
  have hw0 : p.width = 0:=by omega
  have ho : outF p [a,b] = a + b:=by
   unfold outF
   simp [e,hij,hc,hn,hw0]
  unfold finF
  simp only [e]
  have:=fin (a + b) m ho
  simpa [addN] using this
 ·obtain ⟨a,rfl⟩:=one (by rw [e] at hk;have : kidsF 5 = 1:=rfl;omega)
  have hij : p.i = 0 ∧ p.j = 0:=by omega
  have hn : p.name.size = 0:=by omega
  have hw0 : p.width = 0:=by omega
  have ho : outF p [a] = if insideF a p.cols = true then (p.cols.length : Int) else -1:=by
   unfold outF
   simp [e,hij,hn,hw0]
  unfold finF
  simp only [e]
  cases hin : insideF a p.cols
  ·rw [hin] at ho
   have:=finB p.cols.length m (by simpa using ho)
   simpa [addN,hin] using this
  ·rw [hin] at ho
   have:=fin p.cols.length m (by simpa using ho)
   simpa [addN,hin] using this
 ·obtain ⟨a,b,rfl⟩:=two (by rw [e] at hk;have : kidsF 6 = 2:=rfl;omega)
  have hij : p.i = 0 ∧ p.j = 0:=by omega
  have hc : p.cols.length = 0:=by omega
  have hn : p.name.size = 0:=by omega
  have hw0 : p.width = 0:=by omega
  have ho : outF p [a,b] = if a = b then a else -1:=by
   unfold outF
   simp [e,hij,hc,hn,hw0]
  unfold finF
  simp only [e]
  by_cases hab : a = b
  ·have:=fin a m (by rw [ho,if_pos hab])
   simpa [addN,hab] using this
  ·have:=finB a m (by rw [ho,if_neg hab])
   simpa [addN,hab] using this
 ·obtain ⟨a,b,rfl⟩:=two (by rw [e] at hk;have : kidsF 7 = 2:=rfl;omega)
  have hij : p.i = 0 ∧ p.j = 0:=by omega
  have hc : p.cols.length = 0:=by omega
  have hn : p.name.size = 0:=by omega
  have hw0 : p.width = 0:=by omega
  have ho : outF p [a,b] = if a = b then a else -1:=by
   unfold outF
   simp [e,hij,hc,hn,hw0]
  unfold finF
  simp only [e]
  by_cases hab : a = b
  ·have:=fin a m (by rw [ho,if_pos hab])
   simpa [addN,hab] using this
  ·have:=finB a m (by rw [ho,if_neg hab])
   simpa [addN,hab] using this
theorem node_bad (p : PlanD) (ws : List Int) (hl : ws.length = p.kids.length) (h1 : (decide (p.kind < 0) || decide (p.kind ≥ 8) || !spareF p || ((p.kids.length : Int) != kidsF p.kind)) = true) : outF p ws = -1:=by
 have key : ∀ {b : Bool} {x y : Int},b = false → (if b = true then x else y) = y:=by rintro b x y rfl;rfl
 unfold outF
 have hk0 : p.kind = 0 → kidsF p.kind = 0:=fun e=>by rw [e];rfl
 have hk1 : p.kind = 1 → kidsF p.kind = 0:=fun e=>by rw [e];rfl
 have hk2 : p.kind = 2 → kidsF p.kind = 1:=fun e=>by rw [e];rfl
 have hk3 : p.kind = 3 → kidsF p.kind = 1:=fun e=>by rw [e];rfl
 have hk4 : p.kind = 4 → kidsF p.kind = 2:=fun e=>by rw [e];rfl
 have hk5 : p.kind = 5 → kidsF p.kind = 1:=fun e=>by rw [e];rfl
 have hk6 : p.kind = 6 → kidsF p.kind = 2:=fun e=>by rw [e];rfl
 have hk7 : p.kind = 7 → kidsF p.kind = 2:=fun e=>by rw [e];rfl
 simp only [Bool.or_eq_true,Bool.not_eq_true',decide_eq_true_eq,bne_iff_ne,ne_eq] at h1
 unfold spareF at h1
 rw [key,key,key,key,key,key]
 all_goals
  rw [← Bool.not_eq_true]
  intro hc
  simp only [Bool.and_eq_true,Bool.or_eq_true,beq_iff_eq,Bool.not_eq_true',decide_eq_false_iff_not,bne_eq_false_iff_eq,Bool.or_eq_false_iff,Bool.not_not,decide_eq_true_eq] at hc
  simp only [Bool.and_eq_false_iff,Bool.or_eq_false_iff,beq_eq_false_iff_ne,decide_eq_false_iff_not] at h1
  omega
theorem walkF_law : ∀ (p : PlanD) (lv n : Nat) (ws : Names),n ≤ 4000 → walkF p lv n ws = lawF p lv n ws :=
 PlanD.ind fun p ih lv n ws hn=>by
  rw [walkF_eq]
  have hbad : badF p lv (n + 1) = ((decide (p.kind < 0) || decide (p.kind ≥ 8) || !spareF p || ((p.kids.length : Int) != kidsF p.kind)) || (decide (((n + 1 : Nat) : Int) > 4000) || decide ((lv : Int) > 1000))):=by
   unfold badF
   cases decide (p.kind < 0)<;>cases decide (p.kind ≥ 8)<;>cases decide (((n + 1 : Nat) : Int) > 4000)<;>cases decide ((lv : Int) > 1000)<;>cases spareF p<;>cases ((p.kids.length : Int) != kidsF p.kind)<;>rfl
  have hcp:=cntF_eq p
  have hdp:=deepF_eq p
  cases hnb : (decide (((n + 1 : Nat) : Int) > 4000) || decide ((lv : Int) > 1000))
  ·simp only [Bool.or_eq_false_iff,decide_eq_false_iff_not] at hnb
   rw [hbad]
   have hnb2 : (decide (((n + 1 : Nat) : Int) > 4000) || decide ((lv : Int) > 1000)) = false:=by simp only [Bool.or_eq_false_iff,decide_eq_false_iff_not];exact hnb
   rw [hnb2,Bool.or_false]
   have hw:=widthR_eq p
   rw [widthsR_cases] at hw
   cases hst : (decide (p.kind < 0) || decide (p.kind ≥ 8) || !spareF p || ((p.kids.length : Int) != kidsF p.kind))
   ·simp only [Bool.false_eq_true,if_false]
    rw [walkL_law p.kids (fun q hq n ws hn=>ih q hq (lv + 1) n ws hn) _ _ (by omega) (by omega)]
    unfold lawL lawF
    have hsym : symsF p = symsL p.kids ++ (if p.kind = 0 then [(p.name,p.width)] else []):=by
     rw [symsF_eq]
     split
     ·rename_i e
      have : p.kids = []:=by
       simp only [Bool.or_eq_false_iff,bne_eq_false_iff_eq] at hst
       have h0 : kidsF 0 = 0:=rfl
       rw [e] at hst
       exact List.length_eq_zero_iff.1 (by omega)
      rw [this];simp [symsL]
     ·simp
    by_cases hall : (p.kids.all fun q=>decide (0 ≤ widthR q)) = true
    ·rw [if_pos hall] at hw
     simp only at hw
     have hwb : ∀ x ∈ p.kids.map widthR,0 ≤ x ∧ x ≤ 12:=by
      intro x hx
      obtain ⟨q,hq,rfl⟩:=List.mem_map.1 hx
      have:=List.all_eq_true.1 hall q hq
      simp only [decide_eq_true_eq] at this
      exact ⟨this,(widthR_le q).2⟩
     have hnl:=fun m=>node_law p (p.kids.map widthR) hwb (by simp) m (by rw [hst];simp)
     rw [hsym,addN_append]
     by_cases hc : n + 1 + cntL p.kids ≤ 4000 ∧ lv + 1 + deepL p.kids ≤ 1001
     ·rw [if_pos ⟨hc.1,hc.2,hall⟩]
      cases ha : addN ws (symsL p.kids) with
      | none=>simp
      | some m =>
       simp only [Option.map_some,Option.bind_some]
       rw [hnl m,← hw]
       by_cases h0 : 0 ≤ widthR p
       ·rw [if_pos h0,if_pos (show n + cntF p ≤ 4000 ∧ lv + deepF p ≤ 1001 ∧ 0 ≤ widthR p from ⟨by omega,by omega,h0⟩)]
        cases addN m (if p.kind = 0 then [(p.name,p.width)] else []) with
        | none=>rfl
        | some m2=>simp only [Option.map_some];rw [show n + 1 + cntL p.kids = n + cntF p by omega]
       ·rw [if_neg h0,if_neg (show ¬ (n + cntF p ≤ 4000 ∧ lv + deepF p ≤ 1001 ∧ 0 ≤ widthR p) from fun hh=>h0 hh.2.2)]
     ·rw [if_neg (fun hh=>hc ⟨hh.1,hh.2.1⟩),if_neg (show ¬ (n + cntF p ≤ 4000 ∧ lv + deepF p ≤ 1001 ∧ 0 ≤ widthR p) from fun hh=>hc ⟨by omega,by omega⟩)]
    ·rw [if_neg (fun hh=>hall hh.2.2),if_neg]
     rw [if_neg hall] at hw
     simp only at hw
     omega
   ·simp only [if_true]
    unfold lawF
    rw [if_neg]
    rintro ⟨_,_,h0⟩
    rw [hw] at h0
    split at h0
    ·omega
    ·rename_i l hl
     split at hl
     ·obtain rfl:=Option.some.inj hl
      rw [node_bad p _ (by simp) hst] at h0
      simp [capW] at h0
     ·cases hl
  ·have hnb2 : ¬ ((n + 1 : Nat) : Int) ≤ 4000 ∨ ¬ (lv : Int) ≤ 1000:=by
    simp only [Bool.or_eq_true,decide_eq_true_eq] at hnb;omega
   rw [hbad,hnb,Bool.or_true,if_pos rfl]
   unfold lawF
   rw [if_neg]
   omega
theorem walk_valid (p : PlanD) : (walkF p 1 0 []).isSome = validR p:=by
 rw [walkF_law p 1 0 [] (by omega)]
 unfold lawF validR
 rw [← addN_oneW]
 by_cases h : 0 + cntF p ≤ 4000 ∧ 1 + deepF p ≤ 1001 ∧ 0 ≤ widthR p
 ·rw [if_pos h]
  have e1 : decide (cntF p ≤ 4000) = true:=by simp;omega
  have e2 : decide (deepF p ≤ 1000) = true:=by simp;omega
  have e3 : decide (0 ≤ widthR p) = true:=by simp;omega
  rw [e1,e2,e3]
  cases addN [] (symsF p)<;>rfl
 ·rw [if_neg h]
  symm
  simp only [Option.isSome_none,Bool.and_eq_false_iff,decide_eq_false_iff_not]
  omega
end Go.AW
namespace Go.AW
open Go Go.Proofs TyTryz Go.IntWalk
set_option linter.unusedSimpArgs false
set_option linter.unusedVariables false
set_option maxRecDepth 10000
set_option maxHeartbeats 1000000
inductive Node (p : PlanD) : Prop
 | rel : p.kind = 0 → p.kids = [] → nameF p.name = true → widthR p = p.width → Node p
 | all : p.kind = 1 → p.kids = [] → widthR p = p.width → Node p
 | pick (a : PlanD) : p.kind = 2 ∨ p.kind = 3 → p.kids = [a] → 0 ≤ widthR a → widthR p = widthR a → 0 ≤ p.i → p.i < widthR a → 0 ≤ p.j → p.j < widthR a → Node p
 | join (a b : PlanD) : p.kind = 4 → p.kids = [a,b] → 0 ≤ widthR a → 0 ≤ widthR b → widthR p = widthR a + widthR b → Node p
 | project (a : PlanD) : p.kind = 5 → p.kids = [a] → 0 ≤ widthR a → widthR p = p.cols.length → (∀ c ∈ p.cols,0 ≤ c ∧ c < widthR a) → Node p
 | two (a b : PlanD) : p.kind = 6 ∨ p.kind = 7 → p.kids = [a,b] → 0 ≤ widthR a → widthR a = widthR b → widthR p = widthR a → Node p
theorem insideF_iff (n : Int) (l : List Int) : insideF n l = true ↔ ∀ c ∈ l,0 ≤ c ∧ c < n:=by
 unfold insideF
 simp only [Bool.not_eq_true',List.any_eq_false,Bool.or_eq_true,decide_eq_true_eq]
 constructor
 ·intro h c hc;have:=h c hc;omega
 ·intro h c hc;have:=h c hc;omega
theorem node_of {p : PlanD} (h : 0 ≤ widthR p) : Node p:=by
 have hw:=widthR_eq p
 by_cases hk : ∀ q ∈ p.kids,¬ widthR q < 0
 ·rw [widthsR_some hk] at hw
  simp only at hw
  have hcap : 0 ≤ outF p (p.kids.map widthR) ∧ widthR p = outF p (p.kids.map widthR):=by
   unfold capW at hw
   split at hw
   ·omega
   ·omega
  obtain ⟨ho,hwo⟩:=hcap
  have ht : ¬ (decide (p.kind < 0) || decide (p.kind ≥ 8) || !spareF p || ((p.kids.length : Int) != kidsF p.kind)) = true:=fun hb=>by
   have:=node_bad p (p.kids.map widthR) (by simp) hb
   omega
  simp only [Bool.or_eq_true,Bool.not_eq_true',not_or,decide_eq_true_eq,Bool.not_eq_false,bne_iff_ne,ne_eq,Decidable.not_not] at ht
  obtain ⟨⟨⟨k0,k8⟩,hs⟩,hkl⟩:=ht
  unfold spareF at hs
  simp only [Bool.and_eq_true,Bool.or_eq_true,beq_iff_eq,decide_eq_true_eq] at hs
  obtain ⟨⟨⟨s1,s2⟩,s3⟩,s4⟩:=hs
  have hkk : p.kind = 0 ∨ p.kind = 1 ∨ p.kind = 2 ∨ p.kind = 3 ∨ p.kind = 4 ∨ p.kind = 5 ∨ p.kind = 6 ∨ p.kind = 7:=by omega
  have one : p.kids.length = 1 → ∃ a,p.kids = [a]:=fun h=>List.length_eq_one_iff.1 (by omega)
  have two : p.kids.length = 2 → ∃ a b,p.kids = [a,b]:=fun h=>by
   match p.kids,h with
   | [a,b],_=>exact ⟨a,b,rfl⟩
  rcases hkk with e | e | e | e | e | e | e | e
  ·have hk0 : p.kids = []:=List.length_eq_zero_iff.1 (by rw [e] at hkl;have : kidsF 0 = 0:=rfl;omega)
   rw [hk0] at ho hwo
   have hij : p.i = 0 ∧ p.j = 0:=by omega
   have hc : p.cols.length = 0:=by omega
   have hout : outF p [] = if nameF p.name = true then p.width else -1:=by
    unfold outF
    simp [e,hij,hc]
   simp only [List.map_nil] at ho hwo
   rw [hout] at ho hwo
   cases hn : nameF p.name
   ·rw [hn] at ho;simp at ho
   ·rw [hn,if_pos rfl] at hwo
    exact .rel e hk0 hn hwo
  ·have hk0 : p.kids = []:=List.length_eq_zero_iff.1 (by rw [e] at hkl;have : kidsF 1 = 0:=rfl;omega)
   rw [hk0] at ho hwo
   have hij : p.i = 0 ∧ p.j = 0:=by omega
   have hc : p.cols.length = 0:=by omega
   have hn : p.name.size = 0:=by omega
   have hout : outF p [] = p.width:=by
    unfold outF
    simp [e,hij,hc,hn]
   exact .all e hk0 (hwo.trans hout)
  ·obtain ⟨a,ha⟩:=one (by rw [e] at hkl;have : kidsF 2 = 1:=rfl;omega)
   have ha0:=hk a (by rw [ha];simp)
   rw [ha] at ho hwo
   have hc : p.cols.length = 0:=by omega
   have hn : p.name.size = 0:=by omega
   have hw0 : p.width = 0:=by omega
   have hout : outF p [widthR a] = if insideF (widthR a) [p.i,p.j] = true then widthR a else -1:=by
    unfold outF
    simp [e,hc,hn,hw0]
   simp only [List.map_cons,List.map_nil] at ho hwo
   rw [hout] at ho hwo
   by_cases hin : insideF (widthR a) [p.i,p.j] = true
   ·rw [if_pos hin] at hwo
    have hi:=(insideF_iff _ _).1 hin
    have h1:=hi p.i (by simp)
    have h2:=hi p.j (by simp)
    exact .pick a (.inl e) ha (by omega) hwo h1.1 h1.2 h2.1 h2.2
   ·rw [if_neg hin] at ho;omega
  ·obtain ⟨a,ha⟩:=one (by rw [e] at hkl;have : kidsF 3 = 1:=rfl;omega)
   have ha0:=hk a (by rw [ha];simp)
   rw [ha] at ho hwo
   have hc : p.cols.length = 0:=by omega
   have hn : p.name.size = 0:=by omega
   have hw0 : p.width = 0:=by omega
   have hout : outF p [widthR a] = if insideF (widthR a) [p.i,p.j] = true then widthR a else -1:=by
    unfold outF
    simp [e,hc,hn,hw0]
   simp only [List.map_cons,List.map_nil] at ho hwo
   rw [hout] at ho hwo
   by_cases hin : insideF (widthR a) [p.i,p.j] = true
   ·rw [if_pos hin] at hwo
    have hi:=(insideF_iff _ _).1 hin
    have h1:=hi p.i (by simp)
    have h2:=hi p.j (by simp)
    exact .pick a (.inr e) ha (by omega) hwo h1.1 h1.2 h2.1 h2.2
   ·rw [if_neg hin] at ho;omega
  ·obtain ⟨a,b,ha⟩:=two (by rw [e] at hkl;have : kidsF 4 = 2:=rfl;omega)
   have ha0:=hk a (by rw [ha];simp)
   have hb0:=hk b (by rw [ha];simp)
   rw [ha] at ho hwo
   have hij : p.i = 0 ∧ p.j = 0:=by omega
   have hc : p.cols.length = 0:=by omega
   have hn : p.name.size = 0:=by omega
   have hw0 : p.width = 0:=by omega
   have hout : outF p [widthR a,widthR b] = widthR a + widthR b:=by
    unfold outF
    simp [e,hij,hc,hn,hw0]
   exact .join a b e ha (by omega) (by omega) (hwo.trans hout)
  ·obtain ⟨a,ha⟩:=one (by rw [e] at hkl;have : kidsF 5 = 1:=rfl;omega)
   have ha0:=hk a (by rw [ha];simp)
   rw [ha] at ho hwo
   have hij : p.i = 0 ∧ p.j = 0:=by omega
   have hn : p.name.size = 0:=by omega
   have hw0 : p.width = 0:=by omega
   have hout : outF p [widthR a] = if insideF (widthR a) p.cols = true then (p.cols.length : Int) else -1:=by
    unfold outF
    simp [e,hij,hn,hw0]
   simp only [List.map_cons,List.map_nil] at ho hwo
   rw [hout] at ho hwo
   by_cases hin : insideF (widthR a) p.cols = true
   ·rw [if_pos hin] at hwo
    exact .project a e ha (by omega) hwo ((insideF_iff _ _).1 hin)
   ·rw [if_neg hin] at ho;omega
  all_goals
   obtain ⟨a,b,ha⟩:=two (by rw [e] at hkl;have : kidsF 6 = 2:=rfl;have : kidsF 7 = 2:=rfl;omega)
   have ha0:=hk a (by rw [ha];simp)
   have hb0:=hk b (by rw [ha];simp)
   rw [ha] at ho hwo
   have hij : p.i = 0 ∧ p.j = 0:=by omega
   have hc : p.cols.length = 0:=by omega
   have hn : p.name.size = 0:=by omega
   have hw0 : p.width = 0:=by omega
   have hout : outF p [widthR a,widthR b] = if widthR a = widthR b then widthR a else -1:=by
    unfold outF
    simp [e,hij,hc,hn,hw0]
   simp only [List.map_cons,List.map_nil] at ho hwo
   rw [hout] at ho hwo
   by_cases hab : widthR a = widthR b
   ·rw [if_pos hab] at hwo
    exact .two a b (by first | exact .inl e | exact .inr e) ha (by omega) hab hwo
   ·rw [if_neg hab] at ho;omega
 ·exfalso
  have : ∃ q ∈ p.kids,widthR q < 0:=by
   apply Decidable.byContradiction
   intro hn
   exact hk fun q hq hlt=>hn ⟨q,hq,hlt⟩
  obtain ⟨q,hq,hlt⟩:=this
  rw [widthsR_none hq hlt] at hw
  simp only at hw
  omega
theorem width_kid {p : PlanD} (h : 0 ≤ widthR p) : ∀ q ∈ p.kids,0 ≤ widthR q:=by
 intro q hq
 cases node_of h with
 | rel _ hk=>rw [hk] at hq;cases hq
 | all _ hk=>rw [hk] at hq;cases hq
 | pick a _ hk h1=>rw [hk] at hq;simp only [List.mem_singleton] at hq;rw [hq];exact h1
 | join a b _ hk h1 h2=>rw [hk] at hq;simp only [List.mem_cons,List.not_mem_nil,or_false] at hq;rcases hq with rfl | rfl<;>assumption
 | project a _ hk h1=>rw [hk] at hq;simp only [List.mem_singleton] at hq;rw [hq];exact h1
 | two a b _ hk h1 h2=>rw [hk] at hq;simp only [List.mem_cons,List.not_mem_nil,or_false] at hq;rcases hq with rfl | rfl<;>omega
theorem width_spec : ∀ (p : PlanD),p.Sm → 0 ≤ widthR p → ACallsD Tryz.prog 53 [.agg p.cells] (.i .i64 (widthR p)) :=
 PlanD.ind fun p ih hp h=>by
  have hle:=(widthR_le p).2
  have ihk : ∀ q ∈ p.kids,ACallsD Tryz.prog 53 [.agg [.i .i64 q.kind,.i .i64 q.width,.i .i64 q.i,.i .i64 q.j,.s q.name,.sl 1 (ints q.cols),.sl 7 (plans q.kids)]] (.i .i64 (widthR q)):=fun q hq=>by
   have:=ih q hq (hp.kid q hq) (width_kid h q hq)
   rwa [q.cells_eq] at this
  rw [p.cells_eq]
  have f1 : ∀ {a : PlanD},p.kids = [a] → (plans p.kids).length = 1 ∧ (plans p.kids).getD 0 [] = [.i .i64 a.kind,.i .i64 a.width,.i .i64 a.i,.i .i64 a.j,.s a.name,.sl 1 (ints a.cols),.sl 7 (plans a.kids)]:=fun {a} e=>by
   rw [e];exact ⟨rfl,by simp [plans,PlanD.cells_eq]⟩
  have f2 : ∀ {a b : PlanD},p.kids = [a,b] → (plans p.kids).length = 2 ∧ (plans p.kids).getD 0 [] = [.i .i64 a.kind,.i .i64 a.width,.i .i64 a.i,.i .i64 a.j,.s a.name,.sl 1 (ints a.cols),.sl 7 (plans a.kids)] ∧ (plans p.kids).getD 1 [] = [.i .i64 b.kind,.i .i64 b.width,.i .i64 b.i,.i .i64 b.j,.s b.name,.sl 1 (ints b.cols),.sl 7 (plans b.kids)]:=fun {a b} e=>by
   rw [e];exact ⟨rfl,by simp [plans,PlanD.cells_eq],by simp [plans,PlanD.cells_eq]⟩
  refine ACalls_of' (n:=33) (rs:=[.tmp 2]) (show Tryz.prog.funcs[53]? = some Tryz.f53 by kernel_rfl) rfl rfl rfl (by simp) (by decide +kernel) ?_
  repeat (first | refine nav ?_ | refine bo ?_)
  (refine wr fun K R hK hR=>?_;simp only [go_sem];(try go_ints);(repeat refine And.intro side ?_);(first|refine hK _ ?_|refine hR _ _ ?_);clear hK hR K R)
  repeat (first | refine nav ?_ | refine bo ?_)
  cases node_of h with
  | rel e hk hn hw =>
   rw [e,hw]
   repeat' (first | refine nav ?_ | refine bo ?_ | (refine wr fun K R hK hR=>?_;simp only [go_sem];(try go_ints);(repeat refine And.intro side ?_);(first|refine hK _ ?_|refine hR _ _ ?_);clear hK hR K R) | ((refine W_cond (by simp only [go_sem, *]<;>exact rfl) (fun hb=>?_) (fun hb=>?_))<;>(try exact Bool.noConfusion hb)))
   refine endQ_data (by simp only [go_sem]<;>exact rfl) (Le.of_eq ?_) rfl
   rfl
  | all e hk hw =>
   rw [e,hw]
   repeat' (first | refine nav ?_ | refine bo ?_ | (refine wr fun K R hK hR=>?_;simp only [go_sem];(try go_ints);(repeat refine And.intro side ?_);(first|refine hK _ ?_|refine hR _ _ ?_);clear hK hR K R) | ((refine W_cond (by simp only [go_sem, *]<;>exact rfl) (fun hb=>?_) (fun hb=>?_))<;>(try exact Bool.noConfusion hb)))
   refine endQ_data (by simp only [go_sem]<;>exact rfl) (Le.of_eq ?_) rfl
   rfl
  | pick a e hk h1 hw =>
   obtain ⟨g1,g2⟩:=f1 hk
   have hka:=ihk a (by rw [hk];simp)
   rcases e with e | e
   all_goals
    rw [e,hw]
    repeat' (first | refine nav ?_ | refine bo ?_ | (refine wr fun K R hK hR=>?_;simp only [go_sem,g1,g2];(try go_ints);(try simp only [go_sem,g1,g2]);(repeat refine And.intro side ?_);(first|refine hK _ ?_|refine hR _ _ ?_);clear hK hR K R) | ((refine W_cond (by simp only [go_sem, *,g1,g2]<;>exact rfl) (fun hb=>?_) (fun hb=>?_))<;>(try exact Bool.noConfusion hb)))
    refine RL_callF (hka) rfl rfl rfl (by first | (simp only [go_sem]<;>first | exact LeA.refl _ | exact Le.refl _) | exact LeA.refl _) rfl rfl ?_
    (refine rr fun K R hK hR=>?_;simp only [go_sem];(try go_ints);(repeat refine And.intro side ?_);(first|refine hK _ ?_|refine hR _ _ ?_);clear hK hR K R)
    repeat (first | refine nav ?_ | refine bo ?_)
    refine endQ_data (by simp only [go_sem]<;>exact rfl) (Le.of_eq ?_) rfl
    rfl
  | join a b e hk h1 h2 hw =>
   obtain ⟨g1,g2,g3⟩:=f2 hk
   have hka:=ihk a (by rw [hk];simp)
   have hkb:=ihk b (by rw [hk];simp)
   have hla:=(widthR_le a).2
   have hlb:=(widthR_le b).2
   rw [e,hw]
   repeat' (first | refine nav ?_ | refine bo ?_ | (refine wr fun K R hK hR=>?_;simp only [go_sem,g1,g2];(try go_ints);(try simp only [go_sem,g1,g2]);(repeat refine And.intro side ?_);(first|refine hK _ ?_|refine hR _ _ ?_);clear hK hR K R) | ((refine W_cond (by simp only [go_sem, *,g1,g2]<;>exact rfl) (fun hb=>?_) (fun hb=>?_))<;>(try exact Bool.noConfusion hb)))
   (refine W_dreg (by decide +kernel) [] [0,1,2,3,4,5,6,7,8,9,10,11] [[],[0],[0,1],[1,0,2],[2,0,1,3],[],[5],[5,6],[6,5,7],[3,1,0,2,4,7,5,6,8],[8,6,5,7,9,3,1,0,2,4],[4,2,0,1,3,9,7,5,6,8,10]] (by decide +kernel) rfl fun K R hK hR=>?_;simp only [List.filterMap_cons,List.filterMap_nil,List.getElem?_cons_zero,List.getElem?_cons_succ,List.cons_append,List.nil_append];simp only [go_sem,g1,g2,g3];(try go_ints);(try simp only [go_sem,g1,g2,g3]);(repeat refine And.intro side ?_);(first|refine hK _ ?_|refine hR _ _ ?_);clear hK hR K R)
   refine D_callD (hka) rfl rfl rfl (by first | (simp only [go_sem]<;>first | exact LeA.refl _ | exact Le.refl _) | exact LeA.refl _) rfl rfl rfl rfl ?_
   (refine D_reg fun K R hK hR=>?_;simp only [go_sem,g1,g2,g3];(try go_ints);(try simp only [go_sem,g1,g2,g3]);(repeat refine And.intro side ?_);(first|refine hK _ ?_|refine hR _ _ ?_);clear hK hR K R)
   refine D_callD (hkb) rfl rfl rfl (by first | (simp only [go_sem]<;>first | exact LeA.refl _ | exact Le.refl _) | exact LeA.refl _) rfl rfl rfl rfl ?_
   (refine D_reg fun K R hK hR=>?_;simp only [go_sem];(try go_ints);(repeat refine And.intro side ?_);(first|refine hK _ ?_|refine hR _ _ ?_);clear hK hR K R)
   repeat (first | refine nav ?_ | refine bo ?_)
   refine endQ_data (by simp only [go_sem]<;>exact rfl) (Le.of_eq ?_) rfl
   rfl
  | project a e hk h1 hw =>
   have il : (ints p.cols).length = p.cols.length:=by simp [ints]
   rw [e,hw]
   repeat' (first | refine nav ?_ | refine bo ?_ | (refine wr fun K R hK hR=>?_;simp only [go_sem,il];(try go_ints);(try simp only [go_sem,il]);(repeat refine And.intro side ?_);(first|refine hK _ ?_|refine hR _ _ ?_);clear hK hR K R) | ((refine W_cond (by simp only [go_sem, *,il]<;>exact rfl) (fun hb=>?_) (fun hb=>?_))<;>(try exact Bool.noConfusion hb)))
   refine endQ_data (by simp only [go_sem]<;>exact rfl) (Le.of_eq ?_) rfl
   rfl
  | two a b e hk h1 h2 hw =>
   obtain ⟨g1,g2,g3⟩:=f2 hk
   have hka:=ihk a (by rw [hk];simp)
   rcases e with e | e
   all_goals
    rw [e,hw]
    repeat' (first | refine nav ?_ | refine bo ?_ | (refine wr fun K R hK hR=>?_;simp only [go_sem,g1,g2];(try go_ints);(try simp only [go_sem,g1,g2]);(repeat refine And.intro side ?_);(first|refine hK _ ?_|refine hR _ _ ?_);clear hK hR K R) | ((refine W_cond (by simp only [go_sem, *,g1,g2]<;>exact rfl) (fun hb=>?_) (fun hb=>?_))<;>(try exact Bool.noConfusion hb)))
    refine RL_callF (hka) rfl rfl rfl (by first | (simp only [go_sem]<;>first | exact LeA.refl _ | exact Le.refl _) | exact LeA.refl _) rfl rfl ?_
    (refine rr fun K R hK hR=>?_;simp only [go_sem];(try go_ints);(repeat refine And.intro side ?_);(first|refine hK _ ?_|refine hR _ _ ?_);clear hK hR K R)
    repeat (first | refine nav ?_ | refine bo ?_)
    refine endQ_data (by simp only [go_sem]<;>exact rfl) (Le.of_eq ?_) rfl
    rfl
def widestF : PlanD → Int
 | .mk k w i j nm cs ks=>go (widthR (.mk k w i j nm cs ks)) ks
where go : Int → List PlanD → Int
 | w,[]=>w
 | w,p :: r=>go (max w (widestF p)) r
def widestL : Int → List PlanD → Int
 | w,[]=>w
 | w,p :: r=>widestL (max w (widestF p)) r
theorem widest_go : ∀ (l : List PlanD) (w : Int),widestF.go w l = widestL w l
 | [],w=>by simp [widestF.go,widestL]
 | p :: r,w=>by simp only [widestF.go,widestL,widest_go r]
theorem widestF_eq (p : PlanD) : widestF p = widestL (widthR p) p.kids:=by
 cases p;simp only [widestF,widest_go,PlanD.kids]
def largeB (n : Nat) (p : PlanD) : Bool:=decide (4096 < n ^ (widestF p).toNat)
theorem pow_max (n : Nat) (hn : 1 ≤ n) (a b : Int) : decide (4096 < n ^ (max a b).toNat) = (decide (4096 < n ^ a.toNat) || decide (4096 < n ^ b.toNat)):=by
 rcases Int.le_total a b with h | h
 ·rw [Int.max_eq_right h]
  have:=Nat.pow_le_pow_right hn (show a.toNat ≤ b.toNat by omega)
  by_cases h1 : 4096 < n ^ b.toNat
  ·simp [h1]
  ·rw [decide_eq_false h1,decide_eq_false (by omega)];rfl
 ·rw [Int.max_eq_left h]
  have:=Nat.pow_le_pow_right hn (show b.toNat ≤ a.toNat by omega)
  by_cases h1 : 4096 < n ^ a.toNat
  ·simp [h1]
  ·rw [decide_eq_false h1,decide_eq_false (by omega)];rfl
theorem large_go (n : Nat) (hn : 1 ≤ n) : ∀ (l : List PlanD) (w : Int),decide (4096 < n ^ (widestL w l).toNat) = (decide (4096 < n ^ w.toNat) || l.any (largeB n))
 | [],w=>by
  simp only [widestL,List.any_nil,Bool.or_false]
  rfl
 | p :: r,w=>by
  rw [widestL,large_go n hn r,pow_max n hn,List.any_cons,largeB,Bool.or_assoc]
theorem largeB_eq (n : Nat) (hn : 1 ≤ n) (p : PlanD) : largeB n p = (decide (4096 < n ^ (widthR p).toNat) || p.kids.any (largeB n)):=by
 rw [largeB,widestF_eq,large_go n hn]
end Go.AW
namespace Go.AW
open Go Go.Proofs TyTryz Go.IntWalk
set_option linter.unusedSimpArgs false
set_option linter.unusedVariables false
set_option maxRecDepth 10000
set_option maxHeartbeats 1000000
theorem OpW_eqNil {P : Program} {n : Nat} {s : St} {o : Oper} {T T2 e : TypeId} {x d sz : Nat} {rows : List (List AV)} {K : St → Prop} (hop : o.op = .binOp .eql T (.tmp x) (.const (.slice none 0 0)) T2)
  (hu : ukOf P T = .slice e) (hd : o.dst = some d) (hdn : d < n) (hx : s.t x = .sl sz rows) (hK : ∀ b,K ⟨upd s.t d (.b b),s.o⟩) : OpW P n o s K:=by
 intro g ac w hn hat0
 subst hn
 obtain ⟨⟨m,reg,h1,h2,h3⟩,h4,h5,h6⟩:=hat0
 have vx:=h1.tv x
 rw [hx] at vx
 simp only [V] at vx
 obtain ⟨a1,c1,hux,_⟩:=vx
 have e:=eqS (P:=P) (w:=w) 9999 (uk_slice hu)
 have heq : (Op.equal T (.slice a1 rows.length c1) (.slice none 0 0)).run P w = .ok a1.isNone w:=by
  unfold Op.equal
  rw [show Op.maxDepth = 9999 + 1 from rfl]
  generalize 9999 = dd at *
  cases a1 with
  | none=>unfold Op.equalIn;rw [srun_bind_ok (run_und (uk_slice hu))];rfl
  | some q=>exact e.2.2 _ _ _
 have hexec : (execOp ac.eval o).run P w = .ok (.value (.bool a1.isNone)) w:=by
  unfold execOp
  rw [hop]
  simp only
  have e1 : ac.eval (.tmp x) = .slice a1 rows.length c1:=hux
  have e2 : ac.eval (.const (.slice none 0 0)) = .slice none 0 0:=rfl
  have e3 : eqGuard .eql T (.tmp x) (.const (.slice none 0 0)) (.slice a1 rows.length c1) (.slice none 0 0) = pure ():=by unfold eqGuard;split<;>rfl
  rw [e1,e2,e3]
  show Sem.run P (do let v ← binOp .eql T (.slice a1 rows.length c1) (.slice none 0 0);pure (Next.value v)) w = _
  rw [srun_bind_ok (binOp_eql_nilish rfl rfl heq).1];rfl
 refine Oper.wp_mono (fun a' w' h=>h) ((Does.wp (s':=⟨upd s.t d (.b a1.isNone),s.o⟩) (.inl ⟨_,_,hexec,?_⟩)) (fun a' w' h'=>⟨_,hK _,h'⟩))
 rw [hd]
 exact At.put (d:=some d) (av:=.b a1.isNone) (s:=⟨s.t,_⟩) h1 h2 h3 h4 h5 h6 (by simpa [dstOk] using hdn) (by simp only [V]) (.inl rfl)
theorem clone0_spec : ACallsD Tryz.prog 35 [.sl 1 []] (.sl 1 []):=by
 refine ACalls_of' (n:=8) (rs:=[.tmp 2]) (show Tryz.prog.funcs[35]? = some Tryz.f35 by kernel_rfl) rfl rfl rfl (by simp) (by decide +kernel) ?_
 repeat (first | refine nav ?_ | refine bo ?_)
 (refine wr fun K R hK hR=>?_;simp only [go_sem];(try go_ints);(repeat refine And.intro side ?_);(first|refine hK _ ?_|refine hR _ _ ?_);clear hK hR K R)
 repeat (first | refine nav ?_ | refine bo ?_)
 (refine W_part [] 1 fun R hR=>?_;simp only [go_sem];(try go_ints);(repeat refine And.intro side ?_);refine hR _ _ ?_;clear hR R)
 refine RL_cons rfl (OpW_eqNil rfl rfl rfl (by decide) (by simp only [go_sem]<;>rfl) fun b=>?_)
 (refine rr fun K R hK hR=>?_;simp only [go_sem];(try go_ints);(repeat refine And.intro side ?_);(first|refine hK _ ?_|refine hR _ _ ?_);clear hK hR K R)
 repeat (first | refine nav ?_ | refine bo ?_)
 refine W_cond (b:=b) (by simp only [go_sem]) (fun hb=>?_) (fun hb=>?_)
 ·repeat (first | refine nav ?_ | refine bo ?_)
  (refine wr fun K R hK hR=>?_;simp only [go_sem];(try go_ints);(repeat refine And.intro side ?_);(first|refine hK _ ?_|refine hR _ _ ?_);clear hK hR K R)
  repeat (first | refine nav ?_ | refine bo ?_)
  refine endQ_data (by simp only [go_sem]<;>exact rfl) (Le.dat _ _) rfl
 ·repeat (first | refine nav ?_ | refine bo ?_)
  (refine W_reg [5] fun K R hK hR=>?_;simp only [go_sem,and_self,↓reduceIte];(try go_ints);(try simp only [go_sem,and_self,↓reduceIte]);(repeat refine And.intro side ?_);(first|refine hK _ ?_|refine hR _ _ ?_);clear hK hR K R)
  repeat (first | refine nav ?_ | refine bo ?_)
  refine endQ_data (by simp only [go_sem]<;>exact rfl) (Le.dat _ _) rfl
theorem clone_spec (l : List Int) (hl : l.length ≤ 1048576) : ACallsD Tryz.prog 35 [.sl 1 (ints l)] (.sl 1 (ints l)):=by
 rcases Nat.eq_zero_or_pos l.length with h | h
 ·have : l = []:=List.length_eq_zero_iff.1 h
  subst this
  exact clone0_spec
 have il : (ints l).length = l.length:=by simp [ints]
 refine ACalls_of' (n:=8) (rs:=[.tmp 2]) (show Tryz.prog.funcs[35]? = some Tryz.f35 by kernel_rfl) rfl rfl rfl (by simp) (by decide +kernel) ?_
 repeat (first | refine nav ?_ | refine bo ?_)
 (refine wr fun K R hK hR=>?_;simp only [go_sem];(try go_ints);(repeat refine And.intro side ?_);(first|refine hK _ ?_|refine hR _ _ ?_);clear hK hR K R)
 repeat (first | refine nav ?_ | refine bo ?_)
 (refine wr fun K R hK hR=>?_;simp only [go_sem,h,il];(try go_ints);(try simp only [go_sem,h,il]);(repeat refine And.intro side ?_);(first|refine hK _ ?_|refine hR _ _ ?_);clear hK hR K R)
 repeat (first | refine nav ?_ | refine bo ?_)
 refine W_cond (b:=false) (by simp only [go_sem]) (fun hb=>by cases hb) (fun _=>?_)
 repeat (first | refine nav ?_ | refine bo ?_)
 (refine W_reg [5] fun K R hK hR=>?_;simp only [go_sem,il,and_self,↓reduceIte];(try go_ints);(try simp only [go_sem,il,and_self,↓reduceIte]);(repeat refine And.intro side ?_);(first|refine hK _ ?_|refine hR _ _ ?_);clear hK hR K R)
 repeat (first | refine nav ?_ | refine bo ?_)
 refine endQ_data (by simp only [go_sem]<;>exact rfl) (Le.dat _ _) rfl
end Go.AW
namespace Go.AW
open Go Go.Proofs TyTryz Go.IntWalk
set_option linter.unusedSimpArgs false
set_option linter.unusedVariables false
set_option maxRecDepth 10000
set_option maxHeartbeats 1000000
def relF (s : StrD) (nm : ByteArray) (w : Int) : List (List Int):=match s.rels[(findF s nm w).toNat]? with
 | some r=>r.tuples
 | none=>[]
def stepV (s : StrD) (p : PlanD) (vs : List (List (List Int))) : List (List Int) :=
 if p.kind = 0 then relF s p.name p.width
 else if p.kind = 1 then allT s.size.toNat p.width.toNat
 else if p.kind = 2 ∨ p.kind = 3 then (vs.getD 0 []).filter (pickF p)
 else if p.kind = 4 then joinF (vs.getD 0 []) (vs.getD 1 [])
 else if p.kind = 5 then sortT ((vs.getD 0 []).map (placesF p.cols))
 else if p.kind = 6 then unionF (vs.getD 0 []) (vs.getD 1 [])
 else minusF (vs.getD 0 []) (vs.getD 1 [])
mutual
def valF (s : StrD) : PlanD → List (List Int)
 | .mk k w i j nm cs ks=>stepV s (.mk k w i j nm cs ks) (valL s ks)
def valL (s : StrD) : List PlanD → List (List (List Int))
 | []=>[]
 | p :: r=>valF s p :: valL s r
end
theorem valL_map (s : StrD) : ∀ l : List PlanD,valL s l = l.map (valF s)
 | []=>rfl
 | p :: r=>by simp only [valL,List.map_cons,valL_map s r]
theorem valF_eq (s : StrD) (p : PlanD) : valF s p = stepV s p (p.kids.map (valF s)):=by
 cases p;simp only [valF,valL_map,PlanD.kids]
theorem symsL_mem {x : ByteArray × Int} : ∀ {l : List PlanD} {q : PlanD},q ∈ l → x ∈ symsF q → x ∈ symsL l
 | p :: r,q,hq,hx=>by
  simp only [symsL,List.mem_append]
  rcases List.mem_cons.1 hq with rfl | hq
  ·exact .inl hx
  ·exact .inr (symsL_mem hq hx)
theorem relOk_tab {n : Nat} {r : RelD} (h : relOk n r = true) : 0 ≤ r.arity ∧ r.arity ≤ 12 ∧ Tab n r.arity.toNat r.tuples:=by
 simp only [relOk,Bool.and_eq_true,decide_eq_true_eq] at h
 obtain ⟨⟨⟨⟨_,h0⟩,h12⟩,_⟩,ht⟩:=h
 refine ⟨h0,h12,?_⟩
 rw [tuplesF,List.all_eq_true] at ht
 have key : ∀ i t,r.tuples[i]? = some t → ((t.length : Int) = r.arity ∧ (∀ x : Int,x ∈ t → 0 ≤ x ∧ x < n) ∧ (i = 0 ∨ cmpL (r.tuples.getD (i - 1) []) t < 0)):=by
  intro i t hi
  have h1:=ht i (by simpa using (List.getElem?_eq_some_iff.1 hi).1)
  simp only [tupOk,List.getD_eq_getElem?_getD,hi,Option.getD_some,Bool.and_eq_true,beq_iff_eq,Bool.not_eq_true',List.any_eq_false,Bool.or_eq_true,decide_eq_true_eq] at h1
  refine ⟨h1.1.1,fun x hx=>?_,by rw [List.getD_eq_getElem?_getD];exact h1.2⟩
  have:=h1.1.2 x hx
  omega
 constructor
 ·unfold Up
  rw [List.pairwise_iff_getElem]
  intro i j hi hj hij
  have step : ∀ d i,(hh : i + (d + 1) < r.tuples.length) → cmpL (r.tuples.getD i []) (r.tuples.getD (i + (d + 1)) []) < 0:=by
   intro d
   induction d with
   | zero =>
    intro i hh
    have:=key (i + 1) _ (List.getElem?_eq_getElem hh)
    have h2:=this.2.2.resolve_left (by omega)
    rw [show r.tuples.getD (i + (0 + 1)) [] = r.tuples[i + 1] by simp [hh]]
    exact h2
   | succ d ih =>
    intro i hh
    have h1:=ih i (by omega)
    have:=key (i + (d + 1) + 1) _ (List.getElem?_eq_getElem (by omega))
    have h2:=this.2.2.resolve_left (by omega)
    rw [show r.tuples.getD (i + (d + 1 + 1)) [] = r.tuples[i + (d + 1) + 1]'(by omega) by rw [List.getD_eq_getElem?_getD,show i + (d + 1 + 1) = i + (d + 1) + 1 by omega,List.getElem?_eq_getElem (by omega)];rfl]
    exact cmpL_trans h1 h2
  have:=step (j - i - 1) i (by omega)
  rw [show i + (j - i - 1 + 1) = j by omega] at this
  simpa [hi,hj] using this
 ·intro t ht'
  obtain ⟨i,hi⟩:=List.getElem?_of_mem ht'
  have:=key i t hi
  exact ⟨by omega,this.2.1⟩
theorem valid_size {s : StrD} (h : validF s = true) : ∃ n : Nat,s.size = n ∧ 1 ≤ n ∧ n ≤ 64 ∧ s.rels.length ≤ 8 ∧ ∀ r ∈ s.rels,relOk n r = true:=by
 simp only [validF,Bool.and_eq_true,decide_eq_true_eq,List.all_eq_true,List.mem_range] at h
 obtain ⟨⟨⟨h1,h2⟩,h3⟩,h4⟩:=h
 refine ⟨s.size.toNat,by omega,by omega,by omega,by omega,fun r hr=>?_⟩
 obtain ⟨i,hi⟩:=List.getElem?_of_mem hr
 have:=h4 i (List.getElem?_eq_some_iff.1 hi).1
 rw [hi] at this
 simp only [Bool.and_eq_true] at this
 rw [show ((s.size.toNat : Nat) : Int) = s.size by omega]
 exact this.1
theorem find_get {s : StrD} {nm : ByteArray} {w : Int} (h : 0 ≤ findF s nm w) : ∃ r,s.rels[(findF s nm w).toNat]? = some r ∧ r.name.toList = nm.toList ∧ r.arity = w:=by
 obtain ⟨j,hj⟩ : ∃ j : Nat,findF s nm w = j:=⟨_,(Int.toNat_of_nonneg h).symm⟩
 rw [hj]
 unfold findF at hj
 obtain ⟨_,x,hx,hp⟩:=idxI_get _ s.rels 0 j (by simpa using hj)
 simp only [Bool.and_eq_true,beq_iff_eq] at hp
 exact ⟨x,by simpa using hx,hp.1,hp.2⟩
def Named (s : StrD) (p : PlanD) : Prop:=∀ x ∈ symsF p,0 ≤ findF s x.1 x.2
theorem Named.kid {s : StrD} {p q : PlanD} (h : Named s p) (hk : p.kind ≠ 0) (hq : q ∈ p.kids) : Named s q:=fun x hx=>h x (by
 rw [symsF_eq,if_neg hk];exact symsL_mem hq hx)
theorem val_tab {s : StrD} {n : Nat} (hn : s.size = n) (hn1 : 1 ≤ n) (hrel : ∀ r ∈ s.rels,relOk n r = true) : ∀ (p : PlanD),0 ≤ widthR p → Named s p → Tab n (widthR p).toNat (valF s p) :=
 PlanD.ind fun p ih h hnm=>by
  rw [valF_eq]
  cases node_of h with
  | rel e hk hnn hw =>
   rw [stepV,if_pos e,hw]
   have hx:=hnm (p.name,p.width) (by rw [symsF_eq,if_pos e];simp)
   obtain ⟨r,hr,_,ha⟩:=find_get hx
   unfold relF
   rw [hr]
   have:=relOk_tab (hrel r (List.mem_of_getElem? hr))
   rw [ha] at this
   exact this.2.2
  | all e hk hw =>
   rw [stepV,if_neg (by omega),if_pos e,hw,hn,Int.toNat_natCast]
   exact allT_tab n _ hn1
  | pick a e hk h1 hw =>
   have iha:=ih a (by rw [hk];simp) h1 (hnm.kid (by omega) (by rw [hk];simp))
   rw [stepV,if_neg (by omega),if_neg (by omega),if_pos e,hk,hw]
   exact iha.filter _
  | join a b e hk h1 h2 hw =>
   have iha:=ih a (by rw [hk];simp) h1 (hnm.kid (by omega) (by rw [hk];simp))
   have ihb:=ih b (by rw [hk];simp) h2 (hnm.kid (by omega) (by rw [hk];simp))
   rw [stepV,if_neg (by omega),if_neg (by omega),if_neg (by omega),if_pos e,hk,hw,Int.toNat_add h1 h2]
   exact joinF_tab iha ihb
  | project a e hk h1 hw hin =>
   have iha:=ih a (by rw [hk];simp) h1 (hnm.kid (by omega) (by rw [hk];simp))
   rw [stepV,if_neg (by omega),if_neg (by omega),if_neg (by omega),if_neg (by omega),if_pos e,hk,hw,Int.toNat_natCast]
   refine sortT_tab fun t ht=>?_
   obtain ⟨u,hu,rfl⟩:=List.mem_map.1 ht
   exact places_in (iha.el u hu) fun c hc=>by have:=hin c hc;omega
  | two a b e hk h1 h2 hw =>
   have iha:=ih a (by rw [hk];simp) h1 (hnm.kid (by omega) (by rw [hk];simp))
   have ihb:=ih b (by rw [hk];simp) (by omega) (hnm.kid (by omega) (by rw [hk];simp))
   rw [stepV,if_neg (by omega),if_neg (by omega),if_neg (by omega),if_neg (by omega),if_neg (by omega),hk,hw]
   rcases e with e | e
   ·rw [if_pos e]
    refine sortT_tab fun t ht=>?_
    rcases List.mem_append.1 ht with ht | ht
    ·exact iha.el t ht
    ·rw [h2];exact ihb.el t ht
   ·rw [if_neg (by omega)]
    exact iha.filter _
theorem big_kid {n : Nat} (hn : 1 ≤ n) {p : PlanD} (h : largeB n p = false) : n ^ (widthR p).toNat ≤ 4096 ∧ ∀ q ∈ p.kids,largeB n q = false:=by
 rw [largeB_eq n hn,Bool.or_eq_false_iff,decide_eq_false_iff_not] at h
 refine ⟨by omega,fun q hq=>?_⟩
 have:=List.any_eq_false.1 h.2 q hq
 simpa using this
end Go.AW
namespace Go.AW
open Go Go.Proofs TyTryz Go.IntWalk
set_option linter.unusedSimpArgs false
set_option linter.unusedVariables false
set_option maxRecDepth 10000
set_option maxHeartbeats 2000000
theorem widest_spec : ∀ (p : PlanD),p.Ok → cntF p ≤ 100000 → ACallsD Tryz.prog 20 [.agg p.cells] (.i .i64 (widestF p)) :=
 PlanD.ind fun p ih hp hc=>by
  have hws:=rwidth_spec p hp hc
  have h3:=hp.len
  have hce:=cntF_eq p
  rw [PlanD.cells_eq] at hws ⊢
  refine ACalls_of' (n:=23) (rs:=[.tmp 2]) (show Tryz.prog.funcs[20]? = some Tryz.f20 by kernel_rfl) rfl rfl rfl (by simp) (by decide +kernel) ?_
  repeat (first | refine nav ?_ | refine bo ?_)
  (refine wr fun K R hK hR=>?_;simp only [go_sem];(try go_ints);(repeat refine And.intro side ?_);(first|refine hK _ ?_|refine hR _ _ ?_);clear hK hR K R)
  repeat (first | refine nav ?_ | refine bo ?_)
  (refine wr fun K R hK hR=>?_;simp only [go_sem];(try go_ints);(repeat refine And.intro side ?_);(first|refine hK _ ?_|refine hR _ _ ?_);clear hK hR K R)
  refine RL_callF (hws) rfl rfl rfl (by first | (simp only [go_sem]<;>first | exact LeA.refl _ | exact Le.refl _) | exact LeA.refl _) rfl rfl ?_
  (refine rr fun K R hK hR=>?_;simp only [go_sem];(try go_ints);(repeat refine And.intro side ?_);(first|refine hK _ ?_|refine hR _ _ ?_);clear hK hR K R)
  repeat (first | refine nav ?_ | refine bo ?_)
  (refine wr fun K R hK hR=>?_;simp only [go_sem];(try go_ints);(repeat refine And.intro side ?_);(first|refine hK _ ?_|refine hR _ _ ?_);clear hK hR K R)
  repeat (first | refine nav ?_ | refine bo ?_)
  refine W_for 7 22 [3,4] (fun m t o=>∃ (k : Nat) (w : Int),[boxP p] = o ∧ t 4 = .i .i64 k ∧ t 3 = .i .i64 w ∧ m = p.kids.length - k ∧ k ≤ p.kids.length ∧ widestL w (p.kids.drop k) = widestF p) p.kids.length ⟨0,widthR p,rfl,by simp only [go_sem]<;>rfl,by simp only [go_sem]<;>rfl,by omega,by omega,by rw [widestF_eq];rfl⟩ ?_
  rintro m t o ⟨k,w,rfl,h4,h3',rfl,hk,hi⟩
  repeat (first | refine nav ?_ | refine bo ?_)
  (refine wr fun K R hK hR=>?_;simp only [go_sem,h4];(try go_ints);(try simp only [go_sem,h4]);(repeat refine And.intro side ?_);(first|refine hK _ ?_|refine hR _ _ ?_);clear hK hR K R)
  repeat (first | refine nav ?_ | refine bo ?_)
  refine W_cond (by simp only [go_sem]<;>exact rfl) (fun hb=>?_) (fun hb=>?_)
  ·have hb1 : k < p.kids.length:=by simpa using hb
   obtain ⟨x,hx⟩ : ∃ x,p.kids[k]? = some x:=⟨_,List.getElem?_eq_getElem hb1⟩
   have hxm:=List.mem_of_getElem? hx
   rw [drop_kids hx,widestL] at hi
   have hcm:=cnt_mem hxm
   have ihx:=ih x hxm (hp.kid x hxm) (by omega)
   rw [x.cells_eq] at ihx
   repeat (first | refine nav ?_ | refine bo ?_)
   (refine wr fun K R hK hR=>?_;simp only [go_sem,h4,h3',plans_get hx];(try go_ints);(try simp only [go_sem,h4,h3',plans_get hx]);(repeat refine And.intro side ?_);(first|refine hK _ ?_|refine hR _ _ ?_);clear hK hR K R)
   refine RL_callF (ihx) rfl rfl rfl (by first | (simp only [go_sem]<;>first | exact LeA.refl _ | exact Le.refl _) | exact LeA.refl _) rfl rfl ?_
   (refine rr fun K R hK hR=>?_;simp only [go_sem];(try go_ints);(repeat refine And.intro side ?_);(first|refine hK _ ?_|refine hR _ _ ?_);clear hK hR K R)
   repeat (first | refine nav ?_ | refine bo ?_)
   (refine wr fun K R hK hR=>?_;simp only [go_sem,h4];(try go_ints);(try simp only [go_sem,h4]);(repeat refine And.intro side ?_);(first|refine hK _ ?_|refine hR _ _ ?_);clear hK hR K R)
   refine forQ_normal (p.kids.length - (k + 1)) (by omega) ⟨k + 1,max w (widestF x),rfl,by simp only [go_sem]<;>rfl,by simp only [go_sem]<;>(congr 1;split<;>omega),rfl,hb1,hi⟩
  ·have hb' : k = p.kids.length:=by have : ¬ k < p.kids.length:=(by simpa using hb);omega
   subst hb'
   rw [List.drop_length,widestL] at hi
   repeat (first | refine nav ?_ | refine bo ?_)
   (refine wr fun K R hK hR=>?_;simp only [go_sem,h3'];(try go_ints);(try simp only [go_sem,h3']);(repeat refine And.intro side ?_);(first|refine hK _ ?_|refine hR _ _ ?_);clear hK hR K R)
   repeat (first | refine nav ?_ | refine bo ?_)
   refine endQ_data (by simp only [go_sem]<;>exact rfl) (Le.of_eq ?_) rfl
   rw [hi]
theorem widestL_bd : ∀ (l : List PlanD) (w : Int),(∀ q ∈ l,widestF q ≤ 12) → w ≤ 12 → w ≤ widestL w l ∧ widestL w l ≤ 12
 | [],w,_,h=>⟨Int.le_refl _,h⟩
 | p :: r,w,h1,h=>by
  have:=widestL_bd r (max w (widestF p)) (fun q hq=>h1 q (by simp [hq])) (by have:=h1 p (by simp);omega)
  simp only [widestL];omega
theorem widest_bd : ∀ (p : PlanD),widthR p ≤ widestF p ∧ widestF p ≤ 12 :=
 PlanD.ind fun p ih=>by
  rw [widestF_eq]
  exact widestL_bd p.kids _ (fun q hq=>(ih q hq).2) (widthR_le p).2
theorem pow2_gt (n : Nat) (hn : 1 ≤ n) (k : Nat) : decide (pow2 n k 1 > 4096) = decide (4096 < n ^ k):=by
 rw [pow2_spec n (by omega) k 1 (by omega) (by omega),powL_one n hn]
 by_cases h : n ^ k ≤ 4096
 ·rw [if_pos h,decide_eq_true (by omega),decide_eq_false (by omega)];rfl
 ·rw [if_neg h,decide_eq_false (by omega),decide_eq_true (by omega)];rfl
def checkF (p : PlanD) (s : StrD) : Int :=
 if (!validR p || !validF s) = true then 1 else if fitsF (symsF p) s = false then 4 else if 4096 < s.size.toNat ^ (widestF p).toNat then 5 else 0
theorem check_spec (p : PlanD) (hp : p.Ok) (hc : cntF p ≤ 50000) (s : StrD) (hs : s.Ok) : ACallsD Tryz.prog 8 [.agg p.cells,.agg s.cells] (.i .i64 (checkF p s)):=by
 have hrv:=rvalid_spec p hp hc
 have hsv:=rsvalid_spec s hs
 have hws:=widest_spec p hp (by omega)
 have hss:=rsyms_spec p hp [] .nsl (.inl ⟨rfl,rfl⟩) (by simp;omega)
 have hsl:=symsF_len p
 rw [List.nil_append] at hss
 have hft:=rfits_spec (symsF p) (by omega) s hs
 have hwb:=widest_bd p
 rw [p.cells_eq] at hrv hws hss ⊢
 unfold StrD.cells
 refine ACalls_of' (n:=27) (rs:=[.tmp 4]) (show Tryz.prog.funcs[8]? = some Tryz.f8 by kernel_rfl) rfl rfl rfl (by simp) (by decide +kernel) ?_
 repeat (first | refine nav ?_ | refine bo ?_)
 (refine wr fun K R hK hR=>?_;simp only [go_sem];(try go_ints);(repeat refine And.intro side ?_);(first|refine hK _ ?_|refine hR _ _ ?_);clear hK hR K R)
 repeat (first | refine nav ?_ | refine bo ?_)
 (refine wr fun K R hK hR=>?_;simp only [go_sem];(try go_ints);(repeat refine And.intro side ?_);(first|refine hK _ ?_|refine hR _ _ ?_);clear hK hR K R)
 refine RL_callF (hrv) rfl rfl rfl (by first | (simp only [go_sem]<;>first | exact LeA.refl _ | exact Le.refl _) | exact LeA.refl _) rfl rfl ?_
 (refine rr fun K R hK hR=>?_;simp only [go_sem];(try go_ints);(repeat refine And.intro side ?_);(first|refine hK _ ?_|refine hR _ _ ?_);clear hK hR K R)
 refine RL_callDg rfl (by simp only [go_sem]<;>exact rfl) (fun e=>hsv) rfl rfl rfl (fun e=>by (try simp only [go_sem] at e);simp only [go_sem,e]<;>(try simp only [go_sem])<;>first | exact LeA.refl _ | exact Le.refl _) rfl rfl ?_
 (refine rr fun K R hK hR=>?_;simp only [go_sem];(try go_ints);(repeat refine And.intro side ?_);(first|refine hK _ ?_|refine hR _ _ ?_);clear hK hR K R)
 repeat (first | refine nav ?_ | refine bo ?_)
 refine W_cond (b:=!validR p || !validF s) (by simp only [go_sem]) (fun hb=>?_) (fun hb=>?_)
 ·have : checkF p s = 1:=by unfold checkF;rw [if_pos hb]
  rw [this]
  repeat (first | refine nav ?_ | refine bo ?_)
  (refine wr fun K R hK hR=>?_;simp only [go_sem];(try go_ints);(repeat refine And.intro side ?_);(first|refine hK _ ?_|refine hR _ _ ?_);clear hK hR K R)
  repeat (first | refine nav ?_ | refine bo ?_)
  refine endQ_data (by simp only [go_sem]<;>exact rfl) (Le.of_eq ?_) rfl
  rfl
 ·have hck : checkF p s = if fitsF (symsF p) s = false then 4 else if 4096 < s.size.toNat ^ (widestF p).toNat then 5 else 0:=by unfold checkF;rw [if_neg (by simp [hb])]
  have hv1 : validR p = true:=by cases h : validR p<;>simp_all
  have hv2 : validF s = true:=by cases h : validF s<;>simp_all
  rw [hck]
  rw [fitsR_eq hv2] at hft
  obtain ⟨n,hn,hn1,hn2,_,_⟩:=valid_size hv2
  have hw0 : 0 ≤ widthR p:=by unfold validR at hv1;simp at hv1;omega
  obtain ⟨w,hw⟩ : ∃ w : Nat,widestF p = w:=⟨(widestF p).toNat,by omega⟩
  have hps:=pow_spec n w (by omega) (by omega) (by omega) (by omega)
  have hpg:=pow2_gt n hn1 w
  rw [Int.toNat_natCast] at hps
  rw [hw] at hws
  rw [hn,hw,Int.toNat_natCast,Int.toNat_natCast]
  rw [hn] at hft
  repeat (first | refine nav ?_ | refine bo ?_)
  (refine W_dreg (by decide +kernel) [] [0,1,2,3,4,5] [[],[],[1],[1,2,0],[0,2,1,3],[3,1,2,0,4]] (by decide +kernel) rfl fun K R hK hR=>?_;simp only [List.filterMap_cons,List.filterMap_nil,List.getElem?_cons_zero,List.getElem?_cons_succ,List.cons_append,List.nil_append];simp only [go_sem];(try go_ints);(repeat refine And.intro side ?_);(first|refine hK _ ?_|refine hR _ _ ?_);clear hK hR K R)
  refine D_callD (hss) rfl rfl rfl (by first | (simp only [go_sem]<;>first | exact LeA.refl _ | exact Le.refl _) | exact LeA.refl _) rfl rfl rfl rfl ?_
  (refine D_reg fun K R hK hR=>?_;simp only [go_sem];(try go_ints);(repeat refine And.intro side ?_);(first|refine hK _ ?_|refine hR _ _ ?_);clear hK hR K R)
  refine D_callD (hft) rfl rfl rfl (by first | (simp only [go_sem]<;>first | exact LeA.refl _ | exact Le.refl _) | exact LeA.refl _) rfl rfl rfl rfl ?_
  (refine D_reg fun K R hK hR=>?_;simp only [go_sem];(try go_ints);(repeat refine And.intro side ?_);(first|refine hK _ ?_|refine hR _ _ ?_);clear hK hR K R)
  repeat (first | refine nav ?_ | refine bo ?_)
  refine W_cond (b:=!fitsF (symsF p) s) (by simp only [go_sem]) (fun hb=>?_) (fun hb=>?_)
  ·rw [if_pos (by simpa using hb)]
   repeat (first | refine nav ?_ | refine bo ?_)
   (refine wr fun K R hK hR=>?_;simp only [go_sem];(try go_ints);(repeat refine And.intro side ?_);(first|refine hK _ ?_|refine hR _ _ ?_);clear hK hR K R)
   repeat (first | refine nav ?_ | refine bo ?_)
   refine endQ_data (by simp only [go_sem]<;>exact rfl) (Le.of_eq ?_) rfl
   rfl
  ·rw [if_neg (by simpa using hb)]
   repeat (first | refine nav ?_ | refine bo ?_)
   (refine W_dreg (by decide +kernel) [] [0,1,2,3,4,5,6] [[],[0],[],[2],[2,3,0,1],[1,0,3,2,4],[4,2,3,0,1,5]] (by decide +kernel) rfl fun K R hK hR=>?_;simp only [List.filterMap_cons,List.filterMap_nil,List.getElem?_cons_zero,List.getElem?_cons_succ,List.cons_append,List.nil_append];simp only [go_sem];(try go_ints);(repeat refine And.intro side ?_);(first|refine hK _ ?_|refine hR _ _ ?_);clear hK hR K R)
   refine D_callD (hws) rfl rfl rfl (by first | (simp only [go_sem]<;>first | exact LeA.refl _ | exact Le.refl _) | exact LeA.refl _) rfl rfl rfl rfl ?_
   (refine D_reg fun K R hK hR=>?_;simp only [go_sem];(try go_ints);(repeat refine And.intro side ?_);(first|refine hK _ ?_|refine hR _ _ ?_);clear hK hR K R)
   refine D_callD (hps) rfl rfl rfl (by first | (simp only [go_sem]<;>first | exact LeA.refl _ | exact Le.refl _) | exact LeA.refl _) rfl rfl rfl rfl ?_
   (refine D_reg fun K R hK hR=>?_;simp only [go_sem,hpg];(try go_ints);(try simp only [go_sem,hpg]);(repeat refine And.intro side ?_);(first|refine hK _ ?_|refine hR _ _ ?_);clear hK hR K R)
   repeat (first | refine nav ?_ | refine bo ?_)
   refine W_cond (b:=decide (4096 < n ^ w)) (by simp only [go_sem,hpg]) (fun hb=>?_) (fun hb=>?_)
   ·rw [if_pos (by simpa using hb)]
    repeat (first | refine nav ?_ | refine bo ?_)
    (refine wr fun K R hK hR=>?_;simp only [go_sem];(try go_ints);(repeat refine And.intro side ?_);(first|refine hK _ ?_|refine hR _ _ ?_);clear hK hR K R)
    repeat (first | refine nav ?_ | refine bo ?_)
    refine endQ_data (by simp only [go_sem]<;>exact rfl) (Le.of_eq ?_) rfl
    rfl
   ·rw [if_neg (by simpa using hb)]
    repeat (first | refine nav ?_ | refine bo ?_)
    (refine wr fun K R hK hR=>?_;simp only [go_sem];(try go_ints);(repeat refine And.intro side ?_);(first|refine hK _ ?_|refine hR _ _ ?_);clear hK hR K R)
    repeat (first | refine nav ?_ | refine bo ?_)
    refine endQ_data (by simp only [go_sem]<;>exact rfl) (Le.of_eq ?_) rfl
    rfl
end Go.AW
