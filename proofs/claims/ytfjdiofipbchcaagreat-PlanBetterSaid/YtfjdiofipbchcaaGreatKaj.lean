/-
A region in which a table is made beside other operations: what is known at each moment.
-/
import Derived.Test.YtfjdiofipbchcaaGreatKai
import Derived.Test.YtfjdiofipbchcaaGreatKah
namespace Go.AW
open Go Go.Proofs TyTryz Go.IntWalk
set_option linter.unusedSimpArgs false
set_option linter.unusedVariables false
set_option maxRecDepth 10000
theorem bools_dat (l : List Bool) : (bools l).map (fun r=>r.map AV.dat) = bools l:=by simp [bools,Function.comp_def,AV.dat]
theorem bools_plain (l : List Bool) : ((bools l).all fun r=>r.all fun c=>c.dat.ltk 0 && c.dat.plain) = true:=by simp [bools,AV.dat,AV.ltk,AV.plain]
theorem tabO_unref {id M : Nat} {nm : ByteArray} {k : Int} {L : List Bool} (hL : L.length = M) : (Ob.cells 3 [[.s nm,.i .i64 k,.ref id 0 M]]).unref id 1 (bools L) = .cells 3 [[.s nm,.i .i64 k,.sl 1 (bools L)]]:=by
 have h1 : (bools L).length = M:=by rw [bools_len,hL]
 have h2 : (bools L).take M = bools L:=List.take_of_length_le (by omega)
 simp [Ob.unref,AV.unref,h1,h2]
abbrev zTab : Ob:=.cells 3 [[AV.s ByteArray.empty,AV.i IntKind.i64 0,AV.own 1 []]]
structure ITab (ext : List (Nat × AV)) (PRE : List Ob) (M : Nat) (nm : ByteArray) (k : Nat) (L : List Bool) (v : List AV) (b tt : Nat) (d : Nat → Bool) (x : St) : Prop where
 ext : ∀ y ∈ ext,x.t y.1 = y.2
 ok : okO x.o = true
 len : PRE.length ≤ x.o.length
 pre : ∀ (i : Nat) (y : Ob),PRE[i]? = some y → x.o[i]? = some y
 v : ∀ i < 7,d i = true → x.t (b + i) = v.getD i .any
 k7 : d 7 = true → ∃ id,x.t (b + 7) = .agg [.s nm,.i .i64 k,.ref id 0 M] ∧ PRE.length ≤ id ∧ x.o[id]? = some (.cells 1 (bools L))
 k8 : d 8 = true → d 9 = false → ∃ j,x.t tt = .ptr j 0 0 ∧ PRE.length ≤ j ∧ x.o[j]? = some zTab
 k9 : d 9 = true → ∃ j id,x.t tt = .ptr j 0 0 ∧ PRE.length ≤ j ∧ PRE.length ≤ id ∧ id ≠ j ∧ x.o[j]? = some (.cells 3 [[.s nm,.i .i64 k,.ref id 0 M]]) ∧ x.o[id]? = some (.cells 1 (bools L))
 c9 : d 9 = true → d 7 = true ∧ d 8 = true
section
variable {ext : List (Nat × AV)} {PRE : List Ob} {M : Nat} {nm : ByteArray} {k : Nat} {L : List Bool} {v : List AV} {b tt : Nat} {d : Nat → Bool} {t : Nat → AV} {o : List Ob}
theorem ITab.init (h1 : ∀ y ∈ ext,t y.1 = y.2) (h2 : okO o = true) : ITab ext o M nm k L v b tt (fun j=>decide (10 ≤ j)) ⟨t,o⟩ :=
 ⟨h1,h2,Nat.le_refl _,fun _ _ h=>h,fun i hi h=>by simp at h;omega,fun h=>by simp at h,fun h=>by simp at h,fun h=>by simp at h,fun h=>by simp at h⟩
theorem ITab.quiet (h : ITab ext PRE M nm k L v b tt d ⟨t,o⟩) (i : Nat) (hi : i < 7) (hb : (ext.all fun y=>y.1 != b + i) = true) (ht : tt ≠ b + i) :
  ITab ext PRE M nm k L v b tt (fun j=>d j || j == i) ⟨upd t (b + i) (v.getD i .any),o⟩:=by
 obtain ⟨h1,h2,h3,h4,h5,h6,h7,h8,hc9⟩:=h
 rw [List.all_eq_true] at hb
 have e7 : (7 == i) = false:=by simp;omega
 have e8 : (8 == i) = false:=by simp;omega
 have e9 : (9 == i) = false:=by simp;omega
 refine ⟨fun y hy=>?_,h2,h3,h4,fun j hj hd=>?_,fun hd=>?_,fun hd hd9=>?_,fun hd=>?_,fun hd=>by
  simp only [e9,Bool.or_false] at hd
  have:=hc9 hd
  exact ⟨by rw [this.1];rfl,by rw [this.2];rfl⟩⟩
 ·have:=hb y hy
  show upd t (b + i) _ y.1 = _
  rw [upd_ne _ _ _ (by simpa using this)];exact h1 y hy
 ·show upd t (b + i) _ (b + j) = _
  by_cases e : j = i
  ·subst e;rw [upd_same]
  ·rw [upd_ne _ _ _ (by omega)]
   have : (j == i) = false:=by simpa using e
   simp only [this,Bool.or_false] at hd
   exact h5 j hj hd
 ·simp only [e7,Bool.or_false] at hd
  obtain ⟨id,a,b',c⟩:=h6 hd
  exact ⟨id,by show upd t (b + i) _ (b + 7) = _;rw [upd_ne _ _ _ (by omega)];exact a,b',c⟩
 ·simp only [e8,e9,Bool.or_false] at hd hd9
  obtain ⟨j,a,b',c⟩:=h7 hd hd9
  exact ⟨j,by show upd t (b + i) _ tt = _;rw [upd_ne _ _ _ ht];exact a,b',c⟩
 ·simp only [e9,Bool.or_false] at hd
  obtain ⟨j,id,a,b'⟩:=h8 hd
  exact ⟨j,id,by show upd t (b + i) _ tt = _;rw [upd_ne _ _ _ ht];exact a,b'⟩
theorem ITab.call {n : Nat} {f : List Int → Bool} {r : AV} {o' : List Ob} (h : ITab ext PRE (n ^ k) nm k (hasF n k f) v b tt d ⟨t,o⟩) (hd7 : d 7 = false) (hr : TabP o nm n k f r o') (hb : (ext.all fun y=>y.1 != b + 7) = true) (ht : tt ≠ b + 7) :
  ITab ext PRE (n ^ k) nm k (hasF n k f) v b tt (fun j=>d j || j == 7) ⟨upd t (b + 7) r,o'⟩:=by
 obtain ⟨h1,h2,h3,h4,h5,h6,h7,h8,hc9⟩:=h
 obtain ⟨id,rfl,r1,r2,r3,r4,r5⟩:=hr
 have h9d : d 9 = false:=by
  cases h : d 9 with
  | false=>rfl
  | true=>have:=(hc9 h).1;rw [hd7] at this;cases this
 rw [List.all_eq_true] at hb
 have keep : ∀ (i : Nat) (y : Ob),o[i]? = some y → o'[i]? = some y:=fun i y hy=>by
  rw [r3 i (List.getElem?_eq_some_iff.1 hy).1];exact hy
 refine ⟨fun y hy=>?_,r5,by have : PRE.length ≤ o.length:=h3;show PRE.length ≤ o'.length;omega,fun i y hy=>keep i y (h4 i y hy),fun j hj hd=>?_,fun hd=>?_,fun hd hd9=>?_,fun hd=>?_,fun hd=>by simp [h9d] at hd⟩
 ·have:=hb y hy
  show upd t (b + 7) _ y.1 = _
  rw [upd_ne _ _ _ (by simpa using this)];exact h1 y hy
 ·show upd t (b + 7) _ (b + j) = _
  rw [upd_ne _ _ _ (by omega)]
  have : (j == 7) = false:=by simp;omega
  simp only [this,Bool.or_false] at hd
  exact h5 j hj hd
 ·exact ⟨id,by show upd t (b + 7) _ (b + 7) = _;rw [upd_same],by have : PRE.length ≤ o.length:=h3;omega,r4⟩
 ·simp only [show ((8 : Nat) == 7) = false from rfl,show ((9 : Nat) == 7) = false from rfl,Bool.or_false] at hd hd9
  obtain ⟨j,a,b',c⟩:=h7 hd hd9
  exact ⟨j,by show upd t (b + 7) _ tt = _;rw [upd_ne _ _ _ ht];exact a,b',keep _ _ c⟩
 ·simp only [show ((9 : Nat) == 7) = false from rfl,Bool.or_false] at hd
  rw [h9d] at hd;cases hd
theorem ITab.alloc (h : ITab ext PRE M nm k L v b tt d ⟨t,o⟩) (hd8 : d 8 = false) (hb : (ext.all fun y=>y.1 != tt) = true) (ht : (decide (tt < b) || decide (b + 8 ≤ tt)) = true) :
  ITab ext PRE M nm k L v b tt (fun j=>d j || j == 8) ⟨upd t tt (.ptr o.length 0 0),o ++ [zTab]⟩:=by
 obtain ⟨h1,h2,h3,h4,h5,h6,h7,h8,hc9⟩:=h
 rw [List.all_eq_true] at hb
 simp only [Bool.or_eq_true,decide_eq_true_eq] at ht
 have h9d : d 9 = false:=by
  cases h : d 9 with
  | false=>rfl
  | true=>have:=(hc9 h).2;rw [hd8] at this;cases this
 refine ⟨fun y hy=>?_,okO_app h2 rfl,by have : PRE.length ≤ o.length:=h3;show PRE.length ≤ (o ++ [zTab]).length;simp;omega,fun i y hy=>app_get _ (h4 i y hy),fun j hj hd=>?_,fun hd=>?_,fun hd hd9=>?_,fun hd=>?_,fun hd=>by simp [h9d] at hd⟩
 ·have:=hb y hy
  show upd t tt _ y.1 = _
  rw [upd_ne _ _ _ (by simpa using this)];exact h1 y hy
 ·show upd t tt _ (b + j) = _
  rw [upd_ne _ _ _ (by omega)]
  have : (j == 8) = false:=by simp;omega
  simp only [this,Bool.or_false] at hd
  exact h5 j hj hd
 ·simp only [show ((7 : Nat) == 8) = false from rfl,Bool.or_false] at hd
  obtain ⟨id,a,b',c⟩:=h6 hd
  exact ⟨id,by show upd t tt _ (b + 7) = _;rw [upd_ne _ _ _ (by omega)];exact a,b',app_get _ c⟩
 ·exact ⟨o.length,by show upd t tt _ tt = _;rw [upd_same],h3,by simp⟩
 ·simp only [show ((9 : Nat) == 8) = false from rfl,Bool.or_false] at hd
  rw [h9d] at hd;cases hd
theorem ITab.pair (h : ITab ext PRE M nm k L v b tt d ⟨t,o⟩) (h7d : d 7 = true) (h8d : d 8 = true) (h9d : d 9 = false) :
  ∃ j id,t tt = .ptr j 0 0 ∧ t (b + 7) = .agg [.s nm,.i .i64 k,.ref id 0 M] ∧ o[j]? = some zTab ∧
   ITab ext PRE M nm k L v b tt (fun j=>d j || j == 9) ⟨t,o.set j (.cells 3 [[.s nm,.i .i64 k,.ref id 0 M]])⟩:=by
 obtain ⟨h1,h2,h3,h4,h5,h6,h7,h8,hc9⟩:=h
 obtain ⟨id,a1,a2,a3⟩:=h6 h7d
 obtain ⟨j,b1,b2,b3⟩:=h7 h8d h9d
 have hne : id ≠ j:=by
  rintro rfl
  have e:=Option.some.inj (a3.symm.trans b3)
  unfold zTab at e
  simp at e
 have hlt:=(List.getElem?_eq_some_iff.1 b3).1
 have hil:=(List.getElem?_eq_some_iff.1 a3).1
 simp only at hlt hil a1 a2 a3 b1 b2 b3
 have hid : (o.set j (.cells 3 [[.s nm,.i .i64 k,.ref id 0 M]]))[id]? = some (.cells 1 (bools L)):=by rw [List.getElem?_set_ne (by omega)];exact a3
 refine ⟨j,id,b1,a1,b3,h1,okO_set' h2 (by simp [Ob.ltk,AV.ltk,hil]),by simpa using h3,fun i y hy=>?_,fun i hi hd=>?_,fun hd=>⟨id,a1,a2,hid⟩,fun hd hd9=>?_,fun hd=>⟨j,id,b1,b2,a2,hne,?_,hid⟩,fun _=>⟨by rw [h7d];rfl,by rw [h8d];rfl⟩⟩
 ·have hi:=(List.getElem?_eq_some_iff.1 hy).1
  show (o.set j _)[i]? = _
  rw [List.getElem?_set_ne (by omega)];exact h4 i y hy
 ·have : (i == 9) = false:=by simp;omega
  simp only [this,Bool.or_false] at hd
  exact h5 i hi hd
 ·simp at hd9
 ·show (o.set j _)[j]? = _
  rw [List.getElem?_set_self hlt]
end
end Go.AW
namespace Go.AW
open Go Go.Proofs TyTryz Go.IntWalk
set_option linter.unusedSimpArgs false
set_option linter.unusedVariables false
set_option maxRecDepth 10000
set_option maxHeartbeats 8000000
theorem findF_cases (s : StrD) (nm : ByteArray) (w : Int) (h : 0 ≤ findF s nm w) : ∃ (j : Nat) (q : RelD),findF s nm w = j ∧ s.rels[j]? = some q ∧ (q.name.toList == nm.toList) = true ∧ q.arity = w:=by
 obtain ⟨r,h1,h2,h3⟩:=find_get h
 exact ⟨(findF s nm w).toNat,r,(Int.toNat_of_nonneg h).symm,h1,by simpa using h2,h3⟩
theorem names_uniq {s : StrD} (hv : validF s = true) : ∀ (i j : Nat) (p q : RelD),i < j → s.rels[i]? = some p → s.rels[j]? = some q → (p.name.toList == q.name.toList) = false:=by
 intro i j p q hij hp hq
 simp only [validF,Bool.and_eq_true,List.all_eq_true,List.mem_range] at hv
 have h1:=hv.2 j (List.getElem?_eq_some_iff.1 hq).1
 rw [hq] at h1
 simp only [Bool.and_eq_true,Bool.not_eq_true',List.any_eq_false] at h1
 have:=h1.2 p (List.mem_of_getElem? (i:=i) (by rw [List.getElem?_take,if_pos hij];exact hp))
 simpa using this
theorem rfind_find {s : StrD} (hv : validF s = true) (nm : ByteArray) (w : Int) (h : 0 ≤ findF s nm w) : rfindF s nm = findF s nm w:=by
 obtain ⟨j,q,e1,e2,e3,e4⟩:=findF_cases s nm w h
 rcases rfindF_cases s nm with ⟨a,b⟩ | ⟨i,r,a,b,c⟩
 ·rw [b q (List.mem_of_getElem? e2)] at e3;cases e3
 ·rw [a,e1]
  have n1 : q.name.toList = nm.toList:=by simpa using e3
  have n2 : r.name.toList = nm.toList:=by simpa using c
  rcases Nat.lt_trichotomy i j with hl | rfl | hl
  ·have:=names_uniq hv i j r q hl b e2
   rw [n1,n2] at this;simp at this
  ·rfl
  ·have:=names_uniq hv j i q r hl e2 b
   rw [n1,n2] at this;simp at this
theorem hasF_zip (n k : Nat) (f g : List Int → Bool) (c : Bool → Bool → Bool) : List.zipWith c (hasF n k f) (hasF n k g) = hasF n k fun t=>c (f t) (g t):=by
 unfold hasF
 rw [List.zipWith_map,List.zipWith_self]
def combL (u : Bool) (L R : List Bool) (i : Nat) : List Bool:=List.zipWith (fun x r=>if r = true then u else x) (L.take i) (R.take i) ++ L.drop i
theorem comb_zero (L R : List Bool) (u : Bool) : combL u L R 0 = L:=by simp [combL]
theorem combL_len (u : Bool) {L R : List Bool} (h : L.length = R.length) (i : Nat) : (combL u L R i).length = L.length:=by
 unfold combL
 rw [List.length_append,List.length_zipWith,List.length_take,List.length_take,List.length_drop]
 omega
theorem combL_full (u : Bool) {L R : List Bool} (h : L.length = R.length) {i : Nat} (hi : L.length ≤ i) : combL u L R i = List.zipWith (fun x r=>if r = true then u else x) L R:=by
 unfold combL
 rw [List.take_of_length_le hi,List.take_of_length_le (by omega),List.drop_eq_nil_of_le hi,List.append_nil]
theorem combL_step (u : Bool) {L R : List Bool} (h : L.length = R.length) {i : Nat} {r : Bool} (hr : R[i]? = some r) : (if r = true then (combL u L R i).set i u else combL u L R i) = combL u L R (i + 1):=by
 have hi:=(List.getElem?_eq_some_iff.1 hr).1
 obtain ⟨x,hx⟩ : ∃ x,L[i]? = some x:=⟨_,List.getElem?_eq_getElem (by omega)⟩
 have hl : (List.zipWith (fun x r=>if r = true then u else x) (L.take i) (R.take i)).length = i:=by
  rw [List.length_zipWith,List.length_take,List.length_take];omega
 have hd : L.drop i = x :: L.drop (i + 1):=drop_cons hx
 unfold combL
 rw [List.take_add_one,List.take_add_one,hx,hr,hd]
 rw [show (Option.some x).toList = [x] from rfl,show (Option.some r).toList = [r] from rfl,List.zipWith_append (by rw [List.length_take,List.length_take];omega),List.append_assoc]
 cases r with
 | true =>
  rw [if_pos rfl,List.set_append_right _ _ (by omega),hl,Nat.sub_self];rfl
 | false=>rfl
theorem filter_snocT {l : List (List Int)} {j : Nat} {x : List Int} (hx : l[j]? = some x) (p : List Int → Bool) : (l.take (j + 1)).filter p = (l.take j).filter p ++ if p x = true then [x] else []:=filter_snoc hx p
theorem rrun_spec {s : StrD} {n : Nat} (hs : s.Ok) (hv : validF s = true) (hn : s.size = n) (hn1 : 1 ≤ n) (hn2 : n ≤ 64) (hrel : ∀ r ∈ s.rels,relOk n r = true) : ∀ (p : PlanD),p.Ok → cntF p ≤ 100000 → 0 ≤ widthR p → Named s p → largeB n p = false →
  ACallsD Tryz.prog 37 [.agg p.cells,.agg s.cells] (.sl 1 (tups (valF s p))) :=
 PlanD.ind fun p ih hp hcnt h hnm hlg=>by
  have hbig:=big_kid hn1 hlg
  have hwl:=(widthR_le p).2
  have hce:=cntF_eq p
  have hkc:=kids_cnt p.kids
  have hplen:=hp.len
  have tl:=tups_len'
  have il : ∀ l : List Int,(ints l).length = l.length:=fun l=>by simp [ints]
  have kidT : ∀ q ∈ p.kids,p.kind ≠ 0 → Tab n (widthR q).toNat (valF s q) ∧ (valF s q).length ≤ 4096 ∧ (∀ t ∈ valF s q,t.length ≤ 12):=fun q hq h0=>by
   have ht:=val_tab hn hn1 hrel q (width_kid h q hq) (hnm.kid h0 hq)
   have:=ht.len hn1
   have hk:=(big_kid hn1 (hbig.2 q hq)).1
   have hwq:=(widthR_le q).2
   exact ⟨ht,by omega,fun t htm=>by rw [(ht.el t htm).1];omega⟩
  have hval:=valF_eq s p
  have hwsp:=rwidth_spec p hp hcnt
  rw [p.cells_eq] at hwsp ⊢
  unfold StrD.cells
  rw [hn]
  refine ACalls_of' (n:=248) (rs:=[.tmp 4]) (show Tryz.prog.funcs[37]? = some Tryz.f37 by kernel_rfl) rfl rfl rfl (by simp) (by decide +kernel) ?_
  repeat (first | refine nav ?_ | refine bo ?_)
  (refine wr fun K R hK hR=>?_;simp only [go_sem];(try go_ints);(repeat refine And.intro side ?_);(first|refine hK _ ?_|refine hR _ _ ?_);clear hK hR K R)
  repeat (first | refine nav ?_ | refine bo ?_)
  (refine wr fun K R hK hR=>?_;simp only [go_sem];(try go_ints);(repeat refine And.intro side ?_);(first|refine hK _ ?_|refine hR _ _ ?_);clear hK hR K R)
  repeat (first | refine nav ?_ | refine bo ?_)
  (refine wr fun K R hK hR=>?_;simp only [go_sem];(try go_ints);(repeat refine And.intro side ?_);(first|refine hK _ ?_|refine hR _ _ ?_);clear hK hR K R)
  repeat (first | refine nav ?_ | refine bo ?_)
  obtain ⟨ks,hks⟩ : ∃ ks,ks = p.kids.map (valF s):=⟨_,rfl⟩
  have hkl : ks.length = p.kids.length:=by rw [hks];simp
  refine W_for 22 39 [5,6] (fun m t o=>∃ k : Nat,[Ob.cells 7 [[AV.i .i64 (p.kind),AV.i .i64 p.width,AV.i .i64 p.i,AV.i .i64 p.j,AV.s p.name,AV.sl 1 (ints p.cols),AV.sl 7 (plans p.kids)]],Ob.cells 2 [[AV.i .i64 (n : Int),AV.sl 3 (rels s.rels)]]] = o ∧ t 6 = .i .i64 k ∧ t 5 = .own 1 (kid3 (ks.take k)) ∧ m = p.kids.length - k ∧ k ≤ p.kids.length) p.kids.length ⟨0,rfl,by simp only [go_sem]<;>rfl,by simp only [go_sem]<;>rfl,by omega,by omega⟩ ?_
  rintro m t o ⟨k,rfl,h6,h5,rfl,hk⟩
  repeat (first | refine nav ?_ | refine bo ?_)
  (refine wr fun K R hK hR=>?_;simp only [go_sem,h6];(try go_ints);(try simp only [go_sem,h6]);(repeat refine And.intro side ?_);(first|refine hK _ ?_|refine hR _ _ ?_);clear hK hR K R)
  repeat (first | refine nav ?_ | refine bo ?_)
  refine W_cond (by simp only [go_sem]<;>exact rfl) (fun hb=>?_) (fun hb=>?_)
  ·have hb1 : k < p.kids.length:=by simpa using hb
   obtain ⟨x,hx⟩ : ∃ x,p.kids[k]? = some x:=⟨_,List.getElem?_eq_getElem hb1⟩
   have hxm:=List.mem_of_getElem? hx
   have hcm:=cnt_mem hxm
   have h0 : p.kind ≠ 0:=by
    intro e
    cases node_of h with
    | rel e hk=>rw [hk] at hx;cases hx
    | all e'=>omega
    | pick a e'=>omega
    | join a b e'=>omega
    | project a e'=>omega
    | two a b e'=>omega
   have ihx:=ih x hxm (hp.kid x hxm) (by omega) (width_kid h x hxm) (hnm.kid h0 hxm) (hbig.2 x hxm)
   rw [x.cells_eq] at ihx
   unfold StrD.cells at ihx
   rw [hn] at ihx
   have hkx : ks[k]? = some (valF s x):=by rw [hks,List.getElem?_map,hx];rfl
   have hka : kid3 (ks.take (k + 1)) = kid3 (ks.take k) ++ [[.sl 1 (tups (valF s x))]]:=by rw [List.take_add_one,hkx];simp [kid3]
   have hkt : (kid3 (ks.take k)).length = k:=by rw [kid3_len];simp;omega
   repeat (first | refine nav ?_ | refine bo ?_)
   (refine W_dreg (by decide +kernel) [29,5] [1,2,3,4,5,6,7,8,0,9,10] [[],[],[1],[],[3,1,2],[2,1,3,4],[],[6,4,3,1,2,5],[5,2,1,3,4,6,7],[7,6,4,3,1,2,5,8,0],[0,8,5,2,1,3,4,6,7,9]] (by decide +kernel) rfl fun K R hK hR=>?_;simp only [List.filterMap_cons,List.filterMap_nil,List.getElem?_cons_zero,List.getElem?_cons_succ,List.cons_append,List.nil_append];simp only [go_sem,h6,h5,plans_get hx];(try go_ints);(try simp only [go_sem,h6,h5,plans_get hx]);(repeat refine And.intro side ?_);(first|refine hK _ ?_|refine hR _ _ ?_);clear hK hR K R)
   refine D_callD (ihx) rfl rfl rfl (by first | (simp only [go_sem]<;>first | exact LeA.refl _ | exact Le.refl _) | exact LeA.refl _) rfl rfl rfl rfl ?_
   (refine D_reg fun K R hK hR=>?_;simp only [go_sem,h5,hkt];(try go_ints);(try simp only [go_sem,h5,hkt]);(repeat refine And.intro side ?_);(first|refine hK _ ?_|refine hR _ _ ?_);clear hK hR K R)
   repeat (first | refine nav ?_ | refine bo ?_)
   (refine wr fun K R hK hR=>?_;simp only [go_sem,h6];(try go_ints);(try simp only [go_sem,h6]);(repeat refine And.intro side ?_);(first|refine hK _ ?_|refine hR _ _ ?_);clear hK hR K R)
   refine forQ_normal (p.kids.length - (k + 1)) (by omega) ⟨k + 1,rfl,by simp only [go_sem]<;>rfl,by simp only [go_sem,hka],rfl,hb1⟩
  ·have hb' : k = p.kids.length:=by have : ¬ k < p.kids.length:=(by simpa using hb);omega
   subst hb'
   rw [List.take_of_length_le (by omega)] at h5
   repeat (first | refine nav ?_ | refine bo ?_)
   refine W_tab [(2,.ptr 0 0 0),(3,.ptr 1 0 0),(5,.sl 1 (kid3 ks))] (fun x hx=>?_) ?_
   ·simp only [List.mem_cons,List.not_mem_nil,or_false] at hx
    rcases hx with rfl | rfl | rfl
    ·simp only [go_sem]<;>exact Le.refl _
    ·simp only [go_sem]<;>exact Le.refl _
    ·simp only [go_sem,h5];exact Le.dat _ _
   rw [hval,← hks]
   cases node_of h with
   | rel e hk hnn hw =>
    rw [stepV,if_pos e,e]
    have hx:=hnm (p.name,p.width) (by rw [symsF_eq,if_pos e];simp)
    obtain ⟨r,hr,_,ha⟩:=find_get hx
    have hf:=rfind_spec s hs p.name
    rw [hn,rfind_find hv p.name p.width hx,show findF s p.name p.width = ((findF s p.name p.width).toNat : Int) from (Int.toNat_of_nonneg hx).symm] at hf
    unfold relF
    rw [hr]
    generalize (findF s p.name p.width).toNat = jj at *
    have hjl:=(List.getElem?_eq_some_iff.1 hr).1
    have hrl : (rels s.rels).length = s.rels.length:=by simp [rels]
    (refine wr fun K R hK hR=>?_;simp only [go_sem];(try go_ints);(repeat refine And.intro side ?_);(first|refine hK _ ?_|refine hR _ _ ?_);clear hK hR K R)
    repeat (first | refine nav ?_ | refine bo ?_)
    (refine wr fun K R hK hR=>?_;simp only [go_sem];(try go_ints);(repeat refine And.intro side ?_);(first|refine hK _ ?_|refine hR _ _ ?_);clear hK hR K R)
    repeat (first | refine nav ?_ | refine bo ?_)
    (refine wr fun K R hK hR=>?_;simp only [go_sem];(try go_ints);(repeat refine And.intro side ?_);(first|refine hK _ ?_|refine hR _ _ ?_);clear hK hR K R)
    repeat (first | refine nav ?_ | refine bo ?_)
    refine W_cond (b:=true) (by simp only [go_sem]<;>rfl) (fun _=>?_) (fun hb=>by cases hb)
    repeat (first | refine nav ?_ | refine bo ?_)
    (refine W_dreg (by decide +kernel) [] [0,1,2,3,4,5,6,7,8,9] [[],[0],[],[],[3],[3,4,2],[2,4,3,5,0,1],[1,0,5,3,4,2,6],[6,2,4,3,5,0,1,7],[7,1,0,5,3,4,2,6,8]] (by decide +kernel) rfl fun K R hK hR=>?_;simp only [List.filterMap_cons,List.filterMap_nil,List.getElem?_cons_zero,List.getElem?_cons_succ,List.cons_append,List.nil_append];simp only [go_sem];(try go_ints);(repeat refine And.intro side ?_);(first|refine hK _ ?_|refine hR _ _ ?_);clear hK hR K R)
    refine D_callD (hf) rfl rfl rfl (by first | (simp only [go_sem]<;>first | exact LeA.refl _ | exact Le.refl _) | exact LeA.refl _) rfl rfl rfl rfl ?_
    (refine D_reg fun K R hK hR=>?_;simp only [go_sem,hrl,rels_get hr];(try go_ints);(try simp only [go_sem,hrl,rels_get hr]);(repeat refine And.intro side ?_);(first|refine hK _ ?_|refine hR _ _ ?_);clear hK hR K R)
    repeat (first | refine nav ?_ | refine bo ?_)
    refine endQ_data (by simp only [go_sem]<;>exact rfl) (Le.of_eq ?_) rfl
    rfl
   | all e hk hw =>
    rw [stepV,if_neg (by omega),if_pos e,e,hn,Int.toNat_natCast]
    obtain ⟨w,hw'⟩ : ∃ w : Nat,p.width = w:=⟨p.width.toNat,by omega⟩
    have hb1:=hbig.1
    rw [hw,hw',Int.toNat_natCast] at hb1
    have htp:=rtuples_spec n w hn1 hn2 (by omega) hb1
    rw [hw',Int.toNat_natCast]
    (refine wr fun K R hK hR=>?_;simp only [go_sem];(try go_ints);(repeat refine And.intro side ?_);(first|refine hK _ ?_|refine hR _ _ ?_);clear hK hR K R)
    repeat (first | refine nav ?_ | refine bo ?_)
    (refine wr fun K R hK hR=>?_;simp only [go_sem];(try go_ints);(repeat refine And.intro side ?_);(first|refine hK _ ?_|refine hR _ _ ?_);clear hK hR K R)
    repeat (first | refine nav ?_ | refine bo ?_)
    (refine wr fun K R hK hR=>?_;simp only [go_sem];(try go_ints);(repeat refine And.intro side ?_);(first|refine hK _ ?_|refine hR _ _ ?_);clear hK hR K R)
    repeat (first | refine nav ?_ | refine bo ?_)
    refine W_cond (b:=false) (by simp only [go_sem]<;>rfl) (fun hb=>by cases hb) (fun _=>?_)
    repeat (first | refine nav ?_ | refine bo ?_)
    (refine wr fun K R hK hR=>?_;simp only [go_sem];(try go_ints);(repeat refine And.intro side ?_);(first|refine hK _ ?_|refine hR _ _ ?_);clear hK hR K R)
    repeat (first | refine nav ?_ | refine bo ?_)
    refine W_cond (b:=true) (by simp only [go_sem]<;>rfl) (fun _=>?_) (fun hb=>by cases hb)
    repeat (first | refine nav ?_ | refine bo ?_)
    (refine wr fun K R hK hR=>?_;simp only [go_sem];(try go_ints);(repeat refine And.intro side ?_);(first|refine hK _ ?_|refine hR _ _ ?_);clear hK hR K R)
    refine RL_callF (htp) rfl rfl rfl (by first | (simp only [go_sem]<;>first | exact LeA.refl _ | exact Le.refl _) | exact LeA.refl _) rfl rfl ?_
    (refine rr fun K R hK hR=>?_;simp only [go_sem];(try go_ints);(repeat refine And.intro side ?_);(first|refine hK _ ?_|refine hR _ _ ?_);clear hK hR K R)
    repeat (first | refine nav ?_ | refine bo ?_)
    refine endQ_data (by simp only [go_sem]<;>exact rfl) (Le.of_eq ?_) rfl
    rfl
   | pick a e hk h1 hw i0 i1 j0 j1 =>
    obtain ⟨ta,la,wa⟩:=kidT a (by rw [hk];simp) (by omega)
    rw [stepV,if_neg (by omega),if_neg (by omega),if_pos e]
    obtain ⟨A,hA⟩ : ∃ A,A = valF s a:=⟨_,rfl⟩
    have hks1 : ks = [A]:=by rw [hks,hk,hA];rfl
    rw [← hA] at ta la wa
    subst hks1
    rw [show ([A] : List (List (List Int))).getD 0 [] = A from rfl]
    have k0 : (kid3 [A]).getD 0 [] = [.sl 1 (tups A)]:=rfl
    have kl : (kid3 [A]).length = 1:=rfl
    rcases e with e | e
    ·rw [e]
     (refine wr fun K R hK hR=>?_;simp only [go_sem];(try go_ints);(repeat refine And.intro side ?_);(first|refine hK _ ?_|refine hR _ _ ?_);clear hK hR K R)
     repeat (first | refine nav ?_ | refine bo ?_)
     (refine wr fun K R hK hR=>?_;simp only [go_sem];(try go_ints);(repeat refine And.intro side ?_);(first|refine hK _ ?_|refine hR _ _ ?_);clear hK hR K R)
     repeat (first | refine nav ?_ | refine bo ?_)
     (refine wr fun K R hK hR=>?_;simp only [go_sem];(try go_ints);(repeat refine And.intro side ?_);(first|refine hK _ ?_|refine hR _ _ ?_);clear hK hR K R)
     repeat (first | refine nav ?_ | refine bo ?_)
     refine W_cond (b:=false) (by simp only [go_sem]<;>rfl) (fun hb=>by cases hb) (fun _=>?_)
     repeat (first | refine nav ?_ | refine bo ?_)
     (refine wr fun K R hK hR=>?_;simp only [go_sem];(try go_ints);(repeat refine And.intro side ?_);(first|refine hK _ ?_|refine hR _ _ ?_);clear hK hR K R)
     repeat (first | refine nav ?_ | refine bo ?_)
     refine W_cond (b:=false) (by simp only [go_sem]<;>rfl) (fun hb=>by cases hb) (fun _=>?_)
     repeat (first | refine nav ?_ | refine bo ?_)
     (refine wr fun K R hK hR=>?_;simp only [go_sem];(try go_ints);(repeat refine And.intro side ?_);(first|refine hK _ ?_|refine hR _ _ ?_);clear hK hR K R)
     repeat (first | refine nav ?_ | refine bo ?_)
     refine W_cond (b:=true) (by simp only [go_sem]<;>rfl) (fun _=>?_) (fun hb=>by cases hb)
     repeat (first | refine nav ?_ | refine bo ?_)
     refine W_cond (b:=true) (by simp only [go_sem]<;>rfl) (fun _=>?_) (fun hb=>by cases hb)
     repeat (first | refine nav ?_ | refine bo ?_)
     (refine wr fun K R hK hR=>?_;simp only [go_sem];(try go_ints);(repeat refine And.intro side ?_);(first|refine hK _ ?_|refine hR _ _ ?_);clear hK hR K R)
     repeat (first | refine nav ?_ | refine bo ?_)
     refine W_for 62 117 [7,8,9,10] (fun m t o=>∃ k : Nat,[Ob.cells 7 [[AV.i .i64 (2),AV.i .i64 p.width,AV.i .i64 p.i,AV.i .i64 p.j,AV.s p.name,AV.sl 1 (ints p.cols),AV.sl 7 (plans p.kids)]],Ob.cells 2 [[AV.i .i64 (n : Int),AV.sl 3 (rels s.rels)]]] = o ∧ t 8 = .i .i64 k ∧ t 7 = .own 1 (tups ((A.take k).filter (pickF p))) ∧ m = A.length - k ∧ k ≤ A.length) A.length ⟨0,rfl,by simp only [go_sem]<;>rfl,by simp only [go_sem]<;>rfl,by omega,by omega⟩ ?_
     rintro m t o ⟨k,rfl,h8,h7,rfl,hk⟩
     repeat (first | refine nav ?_ | refine bo ?_)
     (refine wr fun K R hK hR=>?_;simp only [go_sem,h8,k0,kl,tl];(try go_ints);(try simp only [go_sem,h8,k0,kl,tl]);(repeat refine And.intro side ?_);(first|refine hK _ ?_|refine hR _ _ ?_);clear hK hR K R)
     repeat (first | refine nav ?_ | refine bo ?_)
     refine W_cond (by simp only [go_sem]<;>exact rfl) (fun hb=>?_) (fun hb=>?_)
     ·have hb1 : k < A.length:=by simpa using hb
      obtain ⟨x,hx⟩ : ∃ x,A[k]? = some x:=⟨_,List.getElem?_eq_getElem hb1⟩
      have hxl:=(ta.el x (List.mem_of_getElem? hx)).1
      obtain ⟨u,hu⟩ : ∃ u,x[p.i.toNat]? = some u:=⟨_,List.getElem?_eq_getElem (by omega)⟩
      obtain ⟨v,hvv⟩ : ∃ v,x[p.j.toNat]? = some v:=⟨_,List.getElem?_eq_getElem (by omega)⟩
      have hi1 : p.i < x.length:=by omega
      have hj1 : p.j < x.length:=by omega
      have hfs:=filter_snocT hx (pickF p)
      have hpk : pickF p x = (u == v):=by
       unfold pickF
       rw [List.getD_eq_getElem?_getD,List.getD_eq_getElem?_getD,hu,hvv,e];rfl
      obtain ⟨acc,hacc⟩ : ∃ acc,acc = (A.take k).filter (pickF p):=⟨_,rfl⟩
      have hal2 : acc.length ≤ 4096:=by
       rw [hacc]
       have h1:=List.length_filter_le (pickF p) (A.take k)
       have h2:=List.length_take_le' k A
       omega
      have hal3 : (tups acc).length ≤ 4096:=by rw [tl];exact hal2
      rw [← hacc] at h7 hfs
      repeat (first | refine nav ?_ | refine bo ?_)
      (refine W_dreg (by decide +kernel) [] [0,1,2,3,4,5,6,7,8,9,10,11,12,13,14,15,16,17,18,19,20,21] [[],[0],[0,1],[],[3,1,0,2],[2,0,1,3,4],[],[6],[6,7,4,3,1,0,2,5],[5,2,0,1,3,4,7,6,8],[],[10],[10,11],[],[13,11,10,12],[12,10,11,13,14],[],[16],[16,17,14,13,11,10,12,15],[15,12,10,11,13,14,17,16,18],[8,6,7,4,3,1,0,2,5,9],[9,5,2,0,1,3,4,7,6,8,20,18,16,17,14,13,11,10,12,15,19]] (by decide +kernel) rfl fun K R hK hR=>?_;simp only [List.filterMap_cons,List.filterMap_nil,List.getElem?_cons_zero,List.getElem?_cons_succ,List.cons_append,List.nil_append];simp only [go_sem,h8,k0,kl,tups_get hx,tl,ints_get hu,ints_get hvv,il];(try go_ints);(try simp only [go_sem,h8,k0,kl,tups_get hx,tl,ints_get hu,ints_get hvv,il]);(repeat refine And.intro side ?_);(first|refine hK _ ?_|refine hR _ _ ?_);clear hK hR K R)
      repeat (first | refine nav ?_ | refine bo ?_)
      (refine wr fun K R hK hR=>?_;simp only [go_sem];(try go_ints);(repeat refine And.intro side ?_);(first|refine hK _ ?_|refine hR _ _ ?_);clear hK hR K R)
      repeat (first | refine nav ?_ | refine bo ?_)
      refine W_cond (b:=pickF p x) (by rw [hpk];simp only [go_sem]<;>first | rfl | simp) (fun hc=>?_) (fun hc=>?_)
      ·rw [if_pos hc] at hfs
       repeat (first | refine nav ?_ | refine bo ?_)
       (refine W_reg [108] fun K R hK hR=>?_;simp only [go_sem,h8,h7,k0,kl,tups_get hx,tl];(try go_ints);(try simp only [go_sem,h8,h7,k0,kl,tups_get hx,tl]);(repeat refine And.intro side ?_);(first|refine hK _ ?_|refine hR _ _ ?_);clear hK hR K R)
       repeat (first | refine nav ?_ | refine bo ?_)
       (refine wr fun K R hK hR=>?_;simp only [go_sem,h8];(try go_ints);(try simp only [go_sem,h8]);(repeat refine And.intro side ?_);(first|refine hK _ ?_|refine hR _ _ ?_);clear hK hR K R)
       refine forQ_normal (A.length - (k + 1)) (by omega) ⟨k + 1,rfl,by simp only [go_sem]<;>rfl,?_,rfl,hb1⟩
       simp only [go_sem,hfs,tups_app]
      ·rw [if_neg (by rw [hc];decide),List.append_nil] at hfs
       repeat (first | refine nav ?_ | refine bo ?_)
       (refine wr fun K R hK hR=>?_;simp only [go_sem,h8];(try go_ints);(try simp only [go_sem,h8]);(repeat refine And.intro side ?_);(first|refine hK _ ?_|refine hR _ _ ?_);clear hK hR K R)
       refine forQ_normal (A.length - (k + 1)) (by omega) ⟨k + 1,rfl,by simp only [go_sem]<;>rfl,?_,rfl,hb1⟩
       simp only [go_sem,hfs,h7]
     ·simp at hb
      obtain rfl : k = A.length:=by omega
      rw [List.take_length] at h7
      repeat (first | refine nav ?_ | refine bo ?_)
      (refine wr fun K R hK hR=>?_;simp only [go_sem,h7];(try go_ints);(try simp only [go_sem,h7]);(repeat refine And.intro side ?_);(first|refine hK _ ?_|refine hR _ _ ?_);clear hK hR K R)
      repeat (first | refine nav ?_ | refine bo ?_)
      refine endQ_data (by simp only [go_sem]<;>exact rfl) (Le.of_eq ?_) rfl
      rfl
    ·rw [e]
     (refine wr fun K R hK hR=>?_;simp only [go_sem];(try go_ints);(repeat refine And.intro side ?_);(first|refine hK _ ?_|refine hR _ _ ?_);clear hK hR K R)
     repeat (first | refine nav ?_ | refine bo ?_)
     (refine wr fun K R hK hR=>?_;simp only [go_sem];(try go_ints);(repeat refine And.intro side ?_);(first|refine hK _ ?_|refine hR _ _ ?_);clear hK hR K R)
     repeat (first | refine nav ?_ | refine bo ?_)
     (refine wr fun K R hK hR=>?_;simp only [go_sem];(try go_ints);(repeat refine And.intro side ?_);(first|refine hK _ ?_|refine hR _ _ ?_);clear hK hR K R)
     repeat (first | refine nav ?_ | refine bo ?_)
     refine W_cond (b:=false) (by simp only [go_sem]<;>rfl) (fun hb=>by cases hb) (fun _=>?_)
     repeat (first | refine nav ?_ | refine bo ?_)
     (refine wr fun K R hK hR=>?_;simp only [go_sem];(try go_ints);(repeat refine And.intro side ?_);(first|refine hK _ ?_|refine hR _ _ ?_);clear hK hR K R)
     repeat (first | refine nav ?_ | refine bo ?_)
     refine W_cond (b:=false) (by simp only [go_sem]<;>rfl) (fun hb=>by cases hb) (fun _=>?_)
     repeat (first | refine nav ?_ | refine bo ?_)
     (refine wr fun K R hK hR=>?_;simp only [go_sem];(try go_ints);(repeat refine And.intro side ?_);(first|refine hK _ ?_|refine hR _ _ ?_);clear hK hR K R)
     repeat (first | refine nav ?_ | refine bo ?_)
     refine W_cond (b:=false) (by simp only [go_sem]<;>rfl) (fun hb=>by cases hb) (fun _=>?_)
     repeat (first | refine nav ?_ | refine bo ?_)
     (refine wr fun K R hK hR=>?_;simp only [go_sem];(try go_ints);(repeat refine And.intro side ?_);(first|refine hK _ ?_|refine hR _ _ ?_);clear hK hR K R)
     repeat (first | refine nav ?_ | refine bo ?_)
     refine W_cond (b:=true) (by simp only [go_sem]<;>rfl) (fun _=>?_) (fun hb=>by cases hb)
     repeat (first | refine nav ?_ | refine bo ?_)
     (refine wr fun K R hK hR=>?_;simp only [go_sem];(try go_ints);(repeat refine And.intro side ?_);(first|refine hK _ ?_|refine hR _ _ ?_);clear hK hR K R)
     repeat (first | refine nav ?_ | refine bo ?_)
     refine W_for 62 117 [7,8,9,10] (fun m t o=>∃ k : Nat,[Ob.cells 7 [[AV.i .i64 (3),AV.i .i64 p.width,AV.i .i64 p.i,AV.i .i64 p.j,AV.s p.name,AV.sl 1 (ints p.cols),AV.sl 7 (plans p.kids)]],Ob.cells 2 [[AV.i .i64 (n : Int),AV.sl 3 (rels s.rels)]]] = o ∧ t 8 = .i .i64 k ∧ t 7 = .own 1 (tups ((A.take k).filter (pickF p))) ∧ m = A.length - k ∧ k ≤ A.length) A.length ⟨0,rfl,by simp only [go_sem]<;>rfl,by simp only [go_sem]<;>rfl,by omega,by omega⟩ ?_
     rintro m t o ⟨k,rfl,h8,h7,rfl,hk⟩
     repeat (first | refine nav ?_ | refine bo ?_)
     (refine wr fun K R hK hR=>?_;simp only [go_sem,h8,k0,kl,tl];(try go_ints);(try simp only [go_sem,h8,k0,kl,tl]);(repeat refine And.intro side ?_);(first|refine hK _ ?_|refine hR _ _ ?_);clear hK hR K R)
     repeat (first | refine nav ?_ | refine bo ?_)
     refine W_cond (by simp only [go_sem]<;>exact rfl) (fun hb=>?_) (fun hb=>?_)
     ·have hb1 : k < A.length:=by simpa using hb
      obtain ⟨x,hx⟩ : ∃ x,A[k]? = some x:=⟨_,List.getElem?_eq_getElem hb1⟩
      have hxl:=(ta.el x (List.mem_of_getElem? hx)).1
      obtain ⟨u,hu⟩ : ∃ u,x[p.i.toNat]? = some u:=⟨_,List.getElem?_eq_getElem (by omega)⟩
      obtain ⟨v,hvv⟩ : ∃ v,x[p.j.toNat]? = some v:=⟨_,List.getElem?_eq_getElem (by omega)⟩
      have hi1 : p.i < x.length:=by omega
      have hj1 : p.j < x.length:=by omega
      have hfs:=filter_snocT hx (pickF p)
      have hpk : pickF p x = decide (u < v):=by
       unfold pickF
       rw [List.getD_eq_getElem?_getD,List.getD_eq_getElem?_getD,hu,hvv,e];rfl
      obtain ⟨acc,hacc⟩ : ∃ acc,acc = (A.take k).filter (pickF p):=⟨_,rfl⟩
      have hal2 : acc.length ≤ 4096:=by
       rw [hacc]
       have h1:=List.length_filter_le (pickF p) (A.take k)
       have h2:=List.length_take_le' k A
       omega
      have hal3 : (tups acc).length ≤ 4096:=by rw [tl];exact hal2
      rw [← hacc] at h7 hfs
      repeat (first | refine nav ?_ | refine bo ?_)
      (refine W_dreg (by decide +kernel) [] [0,1,2,3,4,5,6,7,8,9,10,11,12,13,14,15,16,17,18,19,20,21] [[],[0],[0,1],[],[3,1,0,2],[2,0,1,3,4],[],[6],[6,7,4,3,1,0,2,5],[5,2,0,1,3,4,7,6,8],[],[10],[10,11],[],[13,11,10,12],[12,10,11,13,14],[],[16],[16,17,14,13,11,10,12,15],[15,12,10,11,13,14,17,16,18],[8,6,7,4,3,1,0,2,5,9],[9,5,2,0,1,3,4,7,6,8,20,18,16,17,14,13,11,10,12,15,19]] (by decide +kernel) rfl fun K R hK hR=>?_;simp only [List.filterMap_cons,List.filterMap_nil,List.getElem?_cons_zero,List.getElem?_cons_succ,List.cons_append,List.nil_append];simp only [go_sem,h8,k0,kl,tups_get hx,tl,ints_get hu,ints_get hvv,il];(try go_ints);(try simp only [go_sem,h8,k0,kl,tups_get hx,tl,ints_get hu,ints_get hvv,il]);(repeat refine And.intro side ?_);(first|refine hK _ ?_|refine hR _ _ ?_);clear hK hR K R)
      repeat (first | refine nav ?_ | refine bo ?_)
      (refine wr fun K R hK hR=>?_;simp only [go_sem];(try go_ints);(repeat refine And.intro side ?_);(first|refine hK _ ?_|refine hR _ _ ?_);clear hK hR K R)
      repeat (first | refine nav ?_ | refine bo ?_)
      refine W_cond (b:=pickF p x) (by rw [hpk];simp only [go_sem]<;>first | rfl | simp) (fun hc=>?_) (fun hc=>?_)
      ·rw [if_pos hc] at hfs
       repeat (first | refine nav ?_ | refine bo ?_)
       (refine W_reg [108] fun K R hK hR=>?_;simp only [go_sem,h8,h7,k0,kl,tups_get hx,tl];(try go_ints);(try simp only [go_sem,h8,h7,k0,kl,tups_get hx,tl]);(repeat refine And.intro side ?_);(first|refine hK _ ?_|refine hR _ _ ?_);clear hK hR K R)
       repeat (first | refine nav ?_ | refine bo ?_)
       (refine wr fun K R hK hR=>?_;simp only [go_sem,h8];(try go_ints);(try simp only [go_sem,h8]);(repeat refine And.intro side ?_);(first|refine hK _ ?_|refine hR _ _ ?_);clear hK hR K R)
       refine forQ_normal (A.length - (k + 1)) (by omega) ⟨k + 1,rfl,by simp only [go_sem]<;>rfl,?_,rfl,hb1⟩
       simp only [go_sem,hfs,tups_app]
      ·rw [if_neg (by rw [hc];decide),List.append_nil] at hfs
       repeat (first | refine nav ?_ | refine bo ?_)
       (refine wr fun K R hK hR=>?_;simp only [go_sem,h8];(try go_ints);(try simp only [go_sem,h8]);(repeat refine And.intro side ?_);(first|refine hK _ ?_|refine hR _ _ ?_);clear hK hR K R)
       refine forQ_normal (A.length - (k + 1)) (by omega) ⟨k + 1,rfl,by simp only [go_sem]<;>rfl,?_,rfl,hb1⟩
       simp only [go_sem,hfs,h7]
     ·simp at hb
      obtain rfl : k = A.length:=by omega
      rw [List.take_length] at h7
      repeat (first | refine nav ?_ | refine bo ?_)
      (refine wr fun K R hK hR=>?_;simp only [go_sem,h7];(try go_ints);(try simp only [go_sem,h7]);(repeat refine And.intro side ?_);(first|refine hK _ ?_|refine hR _ _ ?_);clear hK hR K R)
      repeat (first | refine nav ?_ | refine bo ?_)
      refine endQ_data (by simp only [go_sem]<;>exact rfl) (Le.of_eq ?_) rfl
      rfl
   | join a b e hk h1 h2 hw =>
    obtain ⟨ta,la,wa⟩:=kidT a (by rw [hk];simp) (by omega)
    obtain ⟨tb,lb,wb⟩:=kidT b (by rw [hk];simp) (by omega)
    rw [stepV,if_neg (by omega),if_neg (by omega),if_neg (by omega),if_pos e,e]
    have hab : (valF s a).length * (valF s b).length ≤ 4096:=by
     have:=Nat.mul_le_mul (ta.len hn1) (tb.len hn1)
     rw [← Nat.pow_add,← Int.toNat_add h1 h2,← hw] at this
     have:=hbig.1
     omega
    obtain ⟨A,hA⟩ : ∃ A,A = valF s a:=⟨_,rfl⟩
    obtain ⟨B,hB⟩ : ∃ B,B = valF s b:=⟨_,rfl⟩
    have hks1 : ks = [A,B]:=by rw [hks,hk,hA,hB];rfl
    rw [← hA] at ta la wa hab
    rw [← hB] at tb lb wb hab
    subst hks1
    rw [show ([A,B] : List (List (List Int))).getD 0 [] = A from rfl,show ([A,B] : List (List (List Int))).getD 1 [] = B from rfl]
    have k0 : (kid3 [A,B]).getD 0 [] = [.sl 1 (tups A)]:=rfl
    have k1 : (kid3 [A,B]).getD 1 [] = [.sl 1 (tups B)]:=rfl
    have kl : (kid3 [A,B]).length = 2:=rfl
    have jl : ∀ k,(joinF (A.take k) B).length = (A.take k).length * B.length:=fun k=>by
     unfold joinF
     rw [List.length_flatMap]
     simp [List.map_const']
    (refine wr fun K R hK hR=>?_;simp only [go_sem];(try go_ints);(repeat refine And.intro side ?_);(first|refine hK _ ?_|refine hR _ _ ?_);clear hK hR K R)
    repeat (first | refine nav ?_ | refine bo ?_)
    (refine wr fun K R hK hR=>?_;simp only [go_sem];(try go_ints);(repeat refine And.intro side ?_);(first|refine hK _ ?_|refine hR _ _ ?_);clear hK hR K R)
    repeat (first | refine nav ?_ | refine bo ?_)
    (refine wr fun K R hK hR=>?_;simp only [go_sem];(try go_ints);(repeat refine And.intro side ?_);(first|refine hK _ ?_|refine hR _ _ ?_);clear hK hR K R)
    repeat (first | refine nav ?_ | refine bo ?_)
    refine W_cond (b:=false) (by simp only [go_sem]<;>rfl) (fun hb=>by cases hb) (fun _=>?_)
    repeat (first | refine nav ?_ | refine bo ?_)
    (refine wr fun K R hK hR=>?_;simp only [go_sem];(try go_ints);(repeat refine And.intro side ?_);(first|refine hK _ ?_|refine hR _ _ ?_);clear hK hR K R)
    repeat (first | refine nav ?_ | refine bo ?_)
    refine W_cond (b:=false) (by simp only [go_sem]<;>rfl) (fun hb=>by cases hb) (fun _=>?_)
    repeat (first | refine nav ?_ | refine bo ?_)
    (refine wr fun K R hK hR=>?_;simp only [go_sem];(try go_ints);(repeat refine And.intro side ?_);(first|refine hK _ ?_|refine hR _ _ ?_);clear hK hR K R)
    repeat (first | refine nav ?_ | refine bo ?_)
    refine W_cond (b:=false) (by simp only [go_sem]<;>rfl) (fun hb=>by cases hb) (fun _=>?_)
    repeat (first | refine nav ?_ | refine bo ?_)
    (refine wr fun K R hK hR=>?_;simp only [go_sem];(try go_ints);(repeat refine And.intro side ?_);(first|refine hK _ ?_|refine hR _ _ ?_);clear hK hR K R)
    repeat (first | refine nav ?_ | refine bo ?_)
    refine W_cond (b:=false) (by simp only [go_sem]<;>rfl) (fun hb=>by cases hb) (fun _=>?_)
    repeat (first | refine nav ?_ | refine bo ?_)
    (refine wr fun K R hK hR=>?_;simp only [go_sem];(try go_ints);(repeat refine And.intro side ?_);(first|refine hK _ ?_|refine hR _ _ ?_);clear hK hR K R)
    repeat (first | refine nav ?_ | refine bo ?_)
    refine W_cond (b:=true) (by simp only [go_sem]<;>rfl) (fun _=>?_) (fun hb=>by cases hb)
    repeat (first | refine nav ?_ | refine bo ?_)
    (refine wr fun K R hK hR=>?_;simp only [go_sem];(try go_ints);(repeat refine And.intro side ?_);(first|refine hK _ ?_|refine hR _ _ ?_);clear hK hR K R)
    repeat (first | refine nav ?_ | refine bo ?_)
    refine W_for 120 154 [7,11,12] (fun m t o=>∃ k : Nat,[Ob.cells 7 [[AV.i .i64 (4),AV.i .i64 p.width,AV.i .i64 p.i,AV.i .i64 p.j,AV.s p.name,AV.sl 1 (ints p.cols),AV.sl 7 (plans p.kids)]],Ob.cells 2 [[AV.i .i64 (n : Int),AV.sl 3 (rels s.rels)]]] = o ∧ t 11 = .i .i64 k ∧ t 7 = .own 1 (tups (joinF (A.take k) B)) ∧ m = A.length - k ∧ k ≤ A.length) A.length ⟨0,rfl,by simp only [go_sem]<;>rfl,by simp only [go_sem]<;>rfl,by omega,by omega⟩ ?_
    rintro m t o ⟨k,rfl,h11,h7,rfl,hk⟩
    repeat (first | refine nav ?_ | refine bo ?_)
    (refine wr fun K R hK hR=>?_;simp only [go_sem,h11,k0,k1,kl,tl];(try go_ints);(try simp only [go_sem,h11,k0,k1,kl,tl]);(repeat refine And.intro side ?_);(first|refine hK _ ?_|refine hR _ _ ?_);clear hK hR K R)
    repeat (first | refine nav ?_ | refine bo ?_)
    refine W_cond (by simp only [go_sem]<;>exact rfl) (fun hb=>?_) (fun hb=>?_)
    ·have hb1 : k < A.length:=by simpa using hb
     obtain ⟨x,hx⟩ : ∃ x,A[k]? = some x:=⟨_,List.getElem?_eq_getElem hb1⟩
     have hxl:=wa x (List.mem_of_getElem? hx)
     have hmul : (A.take k).length * B.length + B.length ≤ 4096:=by
      have h1 : (k + 1) * B.length ≤ A.length * B.length:=Nat.mul_le_mul_right _ hb1
      rw [List.length_take,Nat.min_eq_left hk,← Nat.succ_mul]
      exact Nat.le_trans h1 hab
     repeat (first | refine nav ?_ | refine bo ?_)
     (refine wr fun K R hK hR=>?_;simp only [go_sem];(try go_ints);(repeat refine And.intro side ?_);(first|refine hK _ ?_|refine hR _ _ ?_);clear hK hR K R)
     repeat (first | refine nav ?_ | refine bo ?_)
     refine W_for 128 154 [7,12] (fun m t2 o=>∃ j : Nat,[Ob.cells 7 [[AV.i .i64 (4),AV.i .i64 p.width,AV.i .i64 p.i,AV.i .i64 p.j,AV.s p.name,AV.sl 1 (ints p.cols),AV.sl 7 (plans p.kids)]],Ob.cells 2 [[AV.i .i64 (n : Int),AV.sl 3 (rels s.rels)]]] = o ∧ t2 12 = .i .i64 j ∧ t2 7 = .own 1 (tups (joinF (A.take k) B ++ (B.take j).map fun u=>x ++ u)) ∧ m = B.length - j ∧ j ≤ B.length) B.length ⟨0,rfl,by simp only [go_sem]<;>rfl,by simp only [go_sem,h7,List.take_zero,List.map_nil,List.append_nil],by omega,by omega⟩ ?_
     rintro m t2 o ⟨j,rfl,h12,h72,rfl,hj⟩
     repeat (first | refine nav ?_ | refine bo ?_)
     (refine wr fun K R hK hR=>?_;simp only [go_sem,h12,k0,k1,kl,tl];(try go_ints);(try simp only [go_sem,h12,k0,k1,kl,tl]);(repeat refine And.intro side ?_);(first|refine hK _ ?_|refine hR _ _ ?_);clear hK hR K R)
     repeat (first | refine nav ?_ | refine bo ?_)
     refine W_cond (by simp only [go_sem]<;>exact rfl) (fun hb=>?_) (fun hb=>?_)
     ·have hb2 : j < B.length:=by simpa using hb
      obtain ⟨y,hy⟩ : ∃ y,B[j]? = some y:=⟨_,List.getElem?_eq_getElem hb2⟩
      have hyl:=wb y (List.mem_of_getElem? hy)
      have hmj:=List.length_take_le j B
      obtain ⟨acc,hacc⟩ : ∃ acc,acc = joinF (A.take k) B ++ (B.take j).map fun u=>x ++ u:=⟨_,rfl⟩
      have hln : acc.length ≤ 4096:=by
       rw [hacc,List.length_append,jl,List.length_map]
       omega
      have hal3 : (tups acc).length ≤ 4096:=by rw [tl];exact hln
      rw [← hacc] at h72
      repeat (first | refine nav ?_ | refine bo ?_)
      (refine W_dreg (by decide +kernel) [137,144,136,7] [1,2,3,4,5,6,7,9,10,11,12,13,14,0,8,15,16,17,18] [[],[],[],[2],[2,3],[],[5,3,2,4],[4,2,3,5,6],[6,5,3,2,4,7,1],[],[9],[9,10],[],[12,10,9,11],[11,9,10,12,13],[13,12,10,9,11,14,1,7,4,2,3,5,6,8],[8,6,5,3,2,4,7,1,14,11,9,10,12,13,15],[15,13,12,10,9,11,14,1,7,4,2,3,5,6,8,16,0],[0,16,8,6,5,3,2,4,7,1,14,11,9,10,12,13,15,17]] (by decide +kernel) rfl fun K R hK hR=>?_;simp only [List.filterMap_cons,List.filterMap_nil,List.getElem?_cons_zero,List.getElem?_cons_succ,List.cons_append,List.nil_append];simp only [go_sem,h12,h11,h72,k0,k1,kl,tups_get hx,tups_get hy,tl,il,and_self,↓reduceIte,ints_app];(try go_ints);(try simp only [go_sem,h12,h11,h72,k0,k1,kl,tups_get hx,tups_get hy,tl,il,and_self,↓reduceIte,ints_app]);(repeat refine And.intro side ?_);(first|refine hK _ ?_|refine hR _ _ ?_);clear hK hR K R)
      repeat (first | refine nav ?_ | refine bo ?_)
      (refine wr fun K R hK hR=>?_;simp only [go_sem,h12];(try go_ints);(try simp only [go_sem,h12]);(repeat refine And.intro side ?_);(first|refine hK _ ?_|refine hR _ _ ?_);clear hK hR K R)
      refine forQ_normal (B.length - (j + 1)) (by omega) ⟨j + 1,rfl,by simp only [go_sem]<;>rfl,?_,rfl,hb2⟩
      rw [List.take_add_one,hy,List.map_append,← List.append_assoc,← hacc]
      simp only [go_sem,tups_app]
      simp
     ·simp at hb
      obtain rfl : j = B.length:=by omega
      rw [List.take_length,← joinF_take hx] at h72
      repeat (first | refine nav ?_ | refine bo ?_)
      (refine wr fun K R hK hR=>?_;simp only [go_sem,h11,mix_mix (lo:=128)];(try go_ints);(try simp only [go_sem,h11,mix_mix (lo:=128)]);(repeat refine And.intro side ?_);(first|refine hK _ ?_|refine hR _ _ ?_);clear hK hR K R)
      refine forQ_normal (A.length - (k + 1)) (by omega) ⟨k + 1,rfl,by simp only [go_sem]<;>rfl,by simp only [go_sem,h72],rfl,hb1⟩
    ·simp at hb
     obtain rfl : k = A.length:=by omega
     rw [List.take_length] at h7
     repeat (first | refine nav ?_ | refine bo ?_)
     (refine wr fun K R hK hR=>?_;simp only [go_sem,h7];(try go_ints);(try simp only [go_sem,h7]);(repeat refine And.intro side ?_);(first|refine hK _ ?_|refine hR _ _ ?_);clear hK hR K R)
     repeat (first | refine nav ?_ | refine bo ?_)
     refine endQ_data (by simp only [go_sem]<;>exact rfl) (Le.of_eq ?_) rfl
     rfl
   | project a e hk h1 hw hin =>
    obtain ⟨ta,la,wa⟩:=kidT a (by rw [hk];simp) (by omega)
    rw [stepV,if_neg (by omega),if_neg (by omega),if_neg (by omega),if_neg (by omega),if_pos e,e]
    obtain ⟨A,hA⟩ : ∃ A,A = valF s a:=⟨_,rfl⟩
    have hks1 : ks = [A]:=by rw [hks,hk,hA];rfl
    rw [← hA] at ta la wa
    subst hks1
    rw [show ([A] : List (List (List Int))).getD 0 [] = A from rfl]
    have k0 : (kid3 [A]).getD 0 [] = [.sl 1 (tups A)]:=rfl
    have kl : (kid3 [A]).length = 1:=rfl
    have hkc12 : p.cols.length ≤ 12:=by omega
    have hpw : n ^ p.cols.length ≤ 4096:=by have:=hbig.1;rw [hw,Int.toNat_natCast] at this;exact this
    have hpin : ∀ x ∈ A,InT n p.cols.length (placesF p.cols x):=fun x hx=>places_in (ta.el x hx) fun c hc=>by have:=hin c hc;omega
    have hres:=projectF_eq hn1 (k:=p.cols.length) (l:=A.map (placesF p.cols)) fun t ht=>by
     obtain ⟨u,hu,rfl⟩:=List.mem_map.1 ht
     exact hpin u hu
    rw [hres]
    have hrank:=fun t ht=>rRank_spec n p.cols.length hn1 hn2 hkc12 hpw t ht
    have hlist:=listed_spec n p.cols.length hn1 hn2 hkc12 hpw ByteArray.empty
    have htab:=tableOf_spec n p.cols.length hn1 hn2 hkc12 hpw ByteArray.empty [] (by simp) (by simp) (oc:=[Ob.cells 7 [[AV.i .i64 (5),AV.i .i64 p.width,AV.i .i64 p.i,AV.i .i64 p.j,AV.s p.name,AV.sl 1 (ints p.cols),AV.sl 7 (plans p.kids)]],Ob.cells 2 [[AV.i .i64 (n : Int),AV.sl 3 (rels s.rels)]]]) rfl
    have hrkl : ∀ t,InT n p.cols.length t → rankN n t < n ^ p.cols.length:=fun t ht=>(digs_rank n hn1 _ t ht).1
    have hlen:=hasF_len n p.cols.length
    have hset:=fun t ht=>hasF_set hn1 (n:=n) (k:=p.cols.length) (t:=t) ht
    unfold TabP at htab
    generalize hM : n ^ p.cols.length = M at *
    (refine wr fun K R hK hR=>?_;simp only [go_sem];(try go_ints);(repeat refine And.intro side ?_);(first|refine hK _ ?_|refine hR _ _ ?_);clear hK hR K R)
    repeat (first | refine nav ?_ | refine bo ?_)
    (refine wr fun K R hK hR=>?_;simp only [go_sem];(try go_ints);(repeat refine And.intro side ?_);(first|refine hK _ ?_|refine hR _ _ ?_);clear hK hR K R)
    repeat (first | refine nav ?_ | refine bo ?_)
    (refine wr fun K R hK hR=>?_;simp only [go_sem];(try go_ints);(repeat refine And.intro side ?_);(first|refine hK _ ?_|refine hR _ _ ?_);clear hK hR K R)
    repeat (first | refine nav ?_ | refine bo ?_)
    refine W_cond (b:=false) (by simp only [go_sem]<;>rfl) (fun hb=>by cases hb) (fun _=>?_)
    repeat (first | refine nav ?_ | refine bo ?_)
    (refine wr fun K R hK hR=>?_;simp only [go_sem];(try go_ints);(repeat refine And.intro side ?_);(first|refine hK _ ?_|refine hR _ _ ?_);clear hK hR K R)
    repeat (first | refine nav ?_ | refine bo ?_)
    refine W_cond (b:=false) (by simp only [go_sem]<;>rfl) (fun hb=>by cases hb) (fun _=>?_)
    repeat (first | refine nav ?_ | refine bo ?_)
    (refine wr fun K R hK hR=>?_;simp only [go_sem];(try go_ints);(repeat refine And.intro side ?_);(first|refine hK _ ?_|refine hR _ _ ?_);clear hK hR K R)
    repeat (first | refine nav ?_ | refine bo ?_)
    refine W_cond (b:=false) (by simp only [go_sem]<;>rfl) (fun hb=>by cases hb) (fun _=>?_)
    repeat (first | refine nav ?_ | refine bo ?_)
    (refine wr fun K R hK hR=>?_;simp only [go_sem];(try go_ints);(repeat refine And.intro side ?_);(first|refine hK _ ?_|refine hR _ _ ?_);clear hK hR K R)
    repeat (first | refine nav ?_ | refine bo ?_)
    refine W_cond (b:=false) (by simp only [go_sem]<;>rfl) (fun hb=>by cases hb) (fun _=>?_)
    repeat (first | refine nav ?_ | refine bo ?_)
    (refine wr fun K R hK hR=>?_;simp only [go_sem];(try go_ints);(repeat refine And.intro side ?_);(first|refine hK _ ?_|refine hR _ _ ?_);clear hK hR K R)
    repeat (first | refine nav ?_ | refine bo ?_)
    refine W_cond (b:=false) (by simp only [go_sem]<;>rfl) (fun hb=>by cases hb) (fun _=>?_)
    repeat (first | refine nav ?_ | refine bo ?_)
    (refine wr fun K R hK hR=>?_;simp only [go_sem];(try go_ints);(repeat refine And.intro side ?_);(first|refine hK _ ?_|refine hR _ _ ?_);clear hK hR K R)
    repeat (first | refine nav ?_ | refine bo ?_)
    refine W_cond (b:=true) (by simp only [go_sem]<;>rfl) (fun _=>?_) (fun hb=>by cases hb)
    repeat (first | refine nav ?_ | refine bo ?_)
    (refine wr fun K R hK hR=>?_;simp only [go_sem,il];(try go_ints);(try simp only [go_sem,il]);(repeat refine And.intro side ?_);(first|refine hK _ ?_|refine hR _ _ ?_);clear hK hR K R)
    refine RL_callE htab (fun r o' hh=>?_) (by simp only [go_sem]<;>exact rfl) rfl rfl (by simp) ?_ rfl (by rfl) ?_
    ·obtain ⟨id,rfl,q1,q2,q3,q4,q5⟩:=hh
     exact ⟨show 2 ≤ o'.length by have : 2 ≤ id:=q1;omega,by simp [AV.ltk,AV.ltks,q2],q5⟩
    ·simp only [go_sem,LeA_cons,LeA_nil,and_true]
     exact ⟨Le.refl _,Le.nsl 1⟩
    rintro r o' ⟨id,rfl,q1,q2,q3,q4,q5⟩
    have hl2 : 2 ≤ id:=q1
    (refine rr fun K R hK hR=>?_;simp only [go_sem];(try go_ints);(repeat refine And.intro side ?_);(first|refine hK _ ?_|refine hR _ _ ?_);clear hK hR K R)
    repeat (first | refine nav ?_ | refine bo ?_)
    obtain ⟨oo,hoo⟩ : ∃ oo,oo = o' ++ [Ob.cells 3 [[AV.s ByteArray.empty,AV.i IntKind.i64 p.cols.length,AV.ref id 0 M]]]:=⟨_,rfl⟩
    have u0 : oo[0]? = some (Ob.cells 7 [[AV.i .i64 (5),AV.i .i64 p.width,AV.i .i64 p.i,AV.i .i64 p.j,AV.s p.name,AV.sl 1 (ints p.cols),AV.sl 7 (plans p.kids)]]):=by rw [hoo];exact app_get _ ((q3 0 (by simp)).trans rfl)
    have u1 : oo[1]? = some (Ob.cells 2 [[AV.i .i64 (n : Int),AV.sl 3 (rels s.rels)]]):=by rw [hoo];exact app_get _ ((q3 1 (by simp)).trans rfl)
    have uJ : oo[o'.length]? = some (Ob.cells 3 [[AV.s ByteArray.empty,AV.i IntKind.i64 p.cols.length,AV.ref id 0 M]]):=by rw [hoo];simp
    have uid : oo[id]? = some (.cells 1 (bools (hasF n p.cols.length fun u=>decide (u ∈ (A.take 0).map (placesF p.cols))))):=by rw [hoo];refine (app_get _ q4).trans ?_;simp
    have uok : okO oo = true:=by rw [hoo];exact okO_app q5 (by simp [Ob.ltk,AV.ltk];omega)
    obtain ⟨J,hJ⟩ : ∃ J,J = o'.length:=⟨_,rfl⟩
    rw [← hJ] at uJ q2
    refine W_weak (s':=⟨tab [(2,.ptr 0 0 0),(3,.ptr 1 0 0),(5,.sl 1 (kid3 [A])),(13,.ptr J 0 0)],oo⟩) (tab_le fun y hy=>?_) (by rw [hoo]) ?_
    ·simp only [List.mem_cons,List.not_mem_nil,or_false] at hy
     rcases hy with rfl | rfl | rfl | rfl<;>simp only [go_sem,hJ]
    clear hoo q3 q4 q5 hJ
    (refine wr fun K R hK hR=>?_;simp only [go_sem];(try go_ints);(repeat refine And.intro side ?_);(first|refine hK _ ?_|refine hR _ _ ?_);clear hK hR K R)
    repeat (first | refine nav ?_ | refine bo ?_)
    refine W_for 163 205 [14,15,16,17,18] (fun m t o=>∃ i : Nat,okO o = true ∧ o[0]? = some (Ob.cells 7 [[AV.i .i64 (5),AV.i .i64 p.width,AV.i .i64 p.i,AV.i .i64 p.j,AV.s p.name,AV.sl 1 (ints p.cols),AV.sl 7 (plans p.kids)]]) ∧ o[1]? = some (Ob.cells 2 [[AV.i .i64 (n : Int),AV.sl 3 (rels s.rels)]]) ∧ o[J]? = some (Ob.cells 3 [[AV.s ByteArray.empty,AV.i IntKind.i64 p.cols.length,AV.ref id 0 M]]) ∧ o[id]? = some (.cells 1 (bools (hasF n p.cols.length fun u=>decide (u ∈ (A.take i).map (placesF p.cols))))) ∧ t 14 = .i .i64 i ∧ m = A.length - i ∧ i ≤ A.length) A.length ⟨0,uok,u0,u1,uJ,uid,by simp only [go_sem]<;>rfl,by omega,by omega⟩ ?_
    clear uok u0 u1 uJ uid
    rintro m t o ⟨i,uok,u0,u1,uJ,uid,h14,rfl,hi⟩
    repeat (first | refine nav ?_ | refine bo ?_)
    (refine wr fun K R hK hR=>?_;simp only [go_sem,h14,k0,kl,tl];(try go_ints);(try simp only [go_sem,h14,k0,kl,tl]);(repeat refine And.intro side ?_);(first|refine hK _ ?_|refine hR _ _ ?_);clear hK hR K R)
    repeat (first | refine nav ?_ | refine bo ?_)
    refine W_cond (by simp only [go_sem]<;>exact rfl) (fun hb=>?_) (fun hb=>?_)
    ·have hb1 : i < A.length:=by simpa using hb
     obtain ⟨x,hx⟩ : ∃ x,A[i]? = some x:=⟨_,List.getElem?_eq_getElem hb1⟩
     have hxm:=List.mem_of_getElem? hx
     have hxi:=hpin x hxm
     have hpl : (placesF p.cols x).length = p.cols.length:=hxi.1
     have hxl:=(ta.el x hxm).1
     repeat (first | refine nav ?_ | refine bo ?_)
     (refine wr fun K R hK hR=>?_;simp only [go_sem];(try go_ints);(repeat refine And.intro side ?_);(first|refine hK _ ?_|refine hR _ _ ?_);clear hK hR K R)
     repeat (first | refine nav ?_ | refine bo ?_)
     (refine wr fun K R hK hR=>?_;simp only [go_sem];(try go_ints);(repeat refine And.intro side ?_);(first|refine hK _ ?_|refine hR _ _ ?_);clear hK hR K R)
     repeat (first | refine nav ?_ | refine bo ?_)
     refine W_for 171 194 [15,16] (fun m t2 o2=>∃ j : Nat,o = o2 ∧ t2 16 = .i .i64 j ∧ t2 15 = .own 1 (ints ((placesF p.cols x).take j)) ∧ m = p.cols.length - j ∧ j ≤ p.cols.length) p.cols.length ⟨0,rfl,by simp only [go_sem]<;>rfl,by simp only [go_sem]<;>rfl,by omega,by omega⟩ ?_
     rintro m t2 o2 ⟨j,rfl,h16,h15,rfl,hj⟩
     repeat (first | refine nav ?_ | refine bo ?_)
     (refine wr fun K R hK hR=>?_;simp only [go_sem,h16,u0,il];(try go_ints);(try simp only [go_sem,h16,u0,il]);(repeat refine And.intro side ?_);(first|refine hK _ ?_|refine hR _ _ ?_);clear hK hR K R)
     repeat (first | refine nav ?_ | refine bo ?_)
     refine W_cond (by simp only [go_sem]<;>exact rfl) (fun hb=>?_) (fun hb=>?_)
     ·have hb2 : j < p.cols.length:=by simpa using hb
      obtain ⟨c,hcj⟩ : ∃ c,p.cols[j]? = some c:=⟨_,List.getElem?_eq_getElem hb2⟩
      obtain ⟨c0,c1⟩:=hin c (List.mem_of_getElem? hcj)
      have c1' : c < x.length:=by omega
      obtain ⟨v,hv1⟩ : ∃ v,x[c.toNat]? = some v:=⟨_,List.getElem?_eq_getElem (by omega)⟩
      have hgv : (placesF p.cols x)[j]? = some v:=by simp [placesF,hcj,hv1]
      have hlj : (ints ((placesF p.cols x).take j)).length = j:=by rw [il,List.length_take];omega
      have hnx : ints ((placesF p.cols x).take j) ++ [[AV.i .i64 v]] = ints ((placesF p.cols x).take (j + 1)):=by rw [List.take_add_one,hgv];simp [ints]
      repeat (first | refine nav ?_ | refine bo ?_)
      (refine W_dreg (by decide +kernel) [178,15] [1,2,3,4,5,6,7,8,9,10,11,12,13,14,0,15,16] [[],[],[1],[1,2],[],[4,2,1,3],[3,1,2,4,5],[],[7],[],[9,7,8],[8,7,9,10],[10,9,7,8,11,5,4,2,1,3,6],[6,3,1,2,4,5,11,8,7,9,10,12],[12,10,9,7,8,11,5,4,2,1,3,6,13],[13,6,3,1,2,4,5,11,8,7,9,10,12,14,0],[0,14,12,10,9,7,8,11,5,4,2,1,3,6,13,15]] (by decide +kernel) rfl fun K R hK hR=>?_;simp only [List.filterMap_cons,List.filterMap_nil,List.getElem?_cons_zero,List.getElem?_cons_succ,List.cons_append,List.nil_append];simp only [go_sem,h16,h15,h14,u0,k0,kl,tups_get hx,tl,ints_get hcj,ints_get hv1,il,hlj,hnx];(try go_ints);(try simp only [go_sem,h16,h15,h14,u0,k0,kl,tups_get hx,tl,ints_get hcj,ints_get hv1,il,hlj,hnx]);(repeat refine And.intro side ?_);(first|refine hK _ ?_|refine hR _ _ ?_);clear hK hR K R)
      repeat (first | refine nav ?_ | refine bo ?_)
      (refine wr fun K R hK hR=>?_;simp only [go_sem,h16];(try go_ints);(try simp only [go_sem,h16]);(repeat refine And.intro side ?_);(first|refine hK _ ?_|refine hR _ _ ?_);clear hK hR K R)
      refine forQ_normal (p.cols.length - (j + 1)) (by omega) ⟨j + 1,rfl,by simp only [go_sem]<;>rfl,by simp only [go_sem],rfl,hb2⟩
     ·simp at hb
      obtain hje : j = p.cols.length:=by omega
      subst hje
      rw [List.take_of_length_le (by omega)] at h15
      have hrx:=hrkl _ hxi
      have hrk2:=hrank _ hxi
      have hsx:=hset _ hxi (fun u=>decide (u ∈ (A.take i).map (placesF p.cols))) true
      have hcg : (hasF n p.cols.length fun u=>if u = placesF p.cols x then true else decide (u ∈ (A.take i).map (placesF p.cols))) = hasF n p.cols.length fun u=>decide (u ∈ (A.take (i + 1)).map (placesF p.cols)):=by
       congr 1
       funext u
       rw [List.take_add_one,hx]
       by_cases hu : u = placesF p.cols x
       ·simp [hu]
       ·simp [hu]
      have hsx2:=hsx.trans hcg
      have hlj:=hlen fun u=>decide (u ∈ (A.take i).map (placesF p.cols))
      obtain ⟨B,hB⟩ : ∃ B,B = hasF n p.cols.length fun u=>decide (u ∈ (A.take i).map (placesF p.cols)):=⟨_,rfl⟩
      rw [← hB] at hsx2 hlj uid
      obtain ⟨P2,hP2⟩ : ∃ P2,P2 = placesF p.cols x:=⟨_,rfl⟩
      rw [← hP2] at hrx hrk2 hsx2 h15
      have hrx2 : rankN n P2 < B.length:=by omega
      obtain ⟨z,hz⟩ : ∃ z,B[rankN n P2]? = some z:=⟨_,List.getElem?_eq_getElem hrx2⟩
      repeat (first | refine nav ?_ | refine bo ?_)
      (refine wr fun K R hK hR=>?_;simp only [go_sem,u1,h15,mix_mix (lo:=171)];(try go_ints);(try simp only [go_sem,u1,h15,mix_mix (lo:=171)]);(repeat refine And.intro side ?_);(first|refine hK _ ?_|refine hR _ _ ?_);clear hK hR K R)
      refine RL_callF (hrk2) rfl rfl rfl (by first | (simp only [go_sem]<;>first | exact LeA.refl _ | exact Le.refl _) | exact LeA.refl _) rfl rfl ?_
      (refine rr fun K R hK hR=>?_;simp only [go_sem];(try go_ints);(repeat refine And.intro side ?_);(first|refine hK _ ?_|refine hR _ _ ?_);clear hK hR K R)
      repeat (first | refine nav ?_ | refine bo ?_)
      (refine wr fun K R hK hR=>?_;simp only [go_sem,uJ,uid,bools_get hz,bools_len,hlj,bools_set,hsx2];(try go_ints);(try simp only [go_sem,uJ,uid,bools_get hz,bools_len,hlj,bools_set,hsx2]);(repeat refine And.intro side ?_);(first|refine hK _ ?_|refine hR _ _ ?_);clear hK hR K R)
      repeat (first | refine nav ?_ | refine bo ?_)
      (refine wr fun K R hK hR=>?_;simp only [go_sem,h14];(try go_ints);(try simp only [go_sem,h14]);(repeat refine And.intro side ?_);(first|refine hK _ ?_|refine hR _ _ ?_);clear hK hR K R)
      refine forQ_normal (A.length - (i + 1)) (by omega) ⟨i + 1,okO_set' uok (bools_ltk _ _),?_,?_,?_,?_,by simp only [go_sem]<;>rfl,rfl,hb1⟩
      ·rw [List.getElem?_set_ne (by omega)];exact u0
      ·rw [List.getElem?_set_ne (by omega)];exact u1
      ·rw [List.getElem?_set_ne (by omega)];exact uJ
      ·rw [List.getElem?_set_self (List.getElem?_eq_some_iff.1 uid).1]
    ·simp at hb
     obtain rfl : i = A.length:=by omega
     rw [List.take_length] at uid
     repeat (first | refine nav ?_ | refine bo ?_)
     refine W_frz id uok uid (bools_plain _) fun o3 v1 v2 v3 v4=>?_
     rw [bools_dat] at v3 v4 ⊢
     have w0:=v3 0 _ (by omega) u0
     have w1:=v3 1 _ (by omega) u1
     have wJ:=v3 J _ (by omega) uJ
     rw [tabO_unref (hlen _)] at wJ
     have w1' : o3[1]? = some (Ob.cells 2 [[AV.i .i64 (n : Int),AV.sl 3 (rels s.rels)]]):=by rw [w1];simp [Ob.unref,AV.unref]
     clear w0 w1
     refine W_tab [(3,.ptr 1 0 0),(13,.ptr J 0 0)] (fun y hy=>?_) ?_
     ·simp only [List.mem_cons,List.not_mem_nil,or_false] at hy
      rcases hy with rfl | rfl
      all_goals (simp only [go_sem,AV.unref]<;>exact Le.refl _)
     (refine wr fun K R hK hR=>?_;simp only [go_sem,wJ,w1'];(try go_ints);(try simp only [go_sem,wJ,w1']);(repeat refine And.intro side ?_);(first|refine hK _ ?_|refine hR _ _ ?_);clear hK hR K R)
     refine RL_callF (hlist _) rfl rfl rfl (by first | (simp only [go_sem]<;>first | exact LeA.refl _ | exact Le.refl _) | exact LeA.refl _) rfl rfl ?_
     (refine rr fun K R hK hR=>?_;simp only [go_sem];(try go_ints);(repeat refine And.intro side ?_);(first|refine hK _ ?_|refine hR _ _ ?_);clear hK hR K R)
     repeat (first | refine nav ?_ | refine bo ?_)
     refine endQ_data (by simp only [go_sem]<;>exact rfl) (Le.of_eq ?_) rfl
     rfl
   | two a b e hk h1 h2 hw =>
    obtain ⟨ta,la,wa⟩:=kidT a (by rw [hk];simp) (by omega)
    obtain ⟨tb,lb,wb⟩:=kidT b (by rw [hk];simp) (by omega)
    obtain ⟨A,hA⟩ : ∃ A,A = valF s a:=⟨_,rfl⟩
    obtain ⟨B,hB⟩ : ∃ B,B = valF s b:=⟨_,rfl⟩
    have hks1 : ks = [A,B]:=by rw [hks,hk,hA,hB];rfl
    obtain ⟨w,hww⟩ : ∃ w : Nat,widthR p = w:=⟨(widthR p).toNat,by omega⟩
    rw [← h2,← hw,hww,Int.toNat_natCast] at tb
    rw [← hw,hww,Int.toNat_natCast] at ta
    rw [← hA] at ta la wa
    rw [← hB] at tb lb wb
    subst hks1
    have hw12 : w ≤ 12:=by omega
    have hpw : n ^ w ≤ 4096:=by have:=hbig.1;rw [hww,Int.toNat_natCast] at this;exact this
    have hlist:=listed_spec n w hn1 hn2 hw12 hpw ByteArray.empty
    have htabA:=fun {oc : List Ob} (ho : okO oc = true)=>tableOf_spec n w hn1 hn2 hw12 hpw ByteArray.empty A ta.el (by omega) ho
    have htabB:=fun {oc : List Ob} (ho : okO oc = true)=>tableOf_spec n w hn1 hn2 hw12 hpw ByteArray.empty B tb.el (by omega) ho
    have hlen:=hasF_len n w
    rw [hww] at hwsp
    rw [stepV,if_neg (by omega),if_neg (by omega),if_neg (by omega),if_neg (by omega),if_neg (by omega)]
    rw [show ([A,B] : List (List (List Int))).getD 0 [] = A from rfl,show ([A,B] : List (List (List Int))).getD 1 [] = B from rfl]
    have k0 : (kid3 [A,B]).getD 0 [] = [.sl 1 (tups A)]:=rfl
    have k1 : (kid3 [A,B]).getD 1 [] = [.sl 1 (tups B)]:=rfl
    have kl : (kid3 [A,B]).length = 2:=rfl
    generalize hM : n ^ w = M at hlist hlen hpw
    rcases e with e | e
    ·rw [if_pos e,unionF_eq hn1 ta tb]
     rw [e] at hwsp ⊢
     (refine wr fun K R hK hR=>?_;simp only [go_sem];(try go_ints);(repeat refine And.intro side ?_);(first|refine hK _ ?_|refine hR _ _ ?_);clear hK hR K R)
     repeat (first | refine nav ?_ | refine bo ?_)
     (refine wr fun K R hK hR=>?_;simp only [go_sem];(try go_ints);(repeat refine And.intro side ?_);(first|refine hK _ ?_|refine hR _ _ ?_);clear hK hR K R)
     repeat (first | refine nav ?_ | refine bo ?_)
     (refine wr fun K R hK hR=>?_;simp only [go_sem];(try go_ints);(repeat refine And.intro side ?_);(first|refine hK _ ?_|refine hR _ _ ?_);clear hK hR K R)
     repeat (first | refine nav ?_ | refine bo ?_)
     refine W_cond (b:=false) (by simp only [go_sem]<;>rfl) (fun hb=>by cases hb) (fun _=>?_)
     repeat (first | refine nav ?_ | refine bo ?_)
     (refine wr fun K R hK hR=>?_;simp only [go_sem];(try go_ints);(repeat refine And.intro side ?_);(first|refine hK _ ?_|refine hR _ _ ?_);clear hK hR K R)
     repeat (first | refine nav ?_ | refine bo ?_)
     refine W_cond (b:=false) (by simp only [go_sem]<;>rfl) (fun hb=>by cases hb) (fun _=>?_)
     repeat (first | refine nav ?_ | refine bo ?_)
     (refine wr fun K R hK hR=>?_;simp only [go_sem];(try go_ints);(repeat refine And.intro side ?_);(first|refine hK _ ?_|refine hR _ _ ?_);clear hK hR K R)
     repeat (first | refine nav ?_ | refine bo ?_)
     refine W_cond (b:=false) (by simp only [go_sem]<;>rfl) (fun hb=>by cases hb) (fun _=>?_)
     repeat (first | refine nav ?_ | refine bo ?_)
     (refine wr fun K R hK hR=>?_;simp only [go_sem];(try go_ints);(repeat refine And.intro side ?_);(first|refine hK _ ?_|refine hR _ _ ?_);clear hK hR K R)
     repeat (first | refine nav ?_ | refine bo ?_)
     refine W_cond (b:=false) (by simp only [go_sem]<;>rfl) (fun hb=>by cases hb) (fun _=>?_)
     repeat (first | refine nav ?_ | refine bo ?_)
     (refine wr fun K R hK hR=>?_;simp only [go_sem];(try go_ints);(repeat refine And.intro side ?_);(first|refine hK _ ?_|refine hR _ _ ?_);clear hK hR K R)
     repeat (first | refine nav ?_ | refine bo ?_)
     refine W_cond (b:=false) (by simp only [go_sem]<;>rfl) (fun hb=>by cases hb) (fun _=>?_)
     repeat (first | refine nav ?_ | refine bo ?_)
     (refine wr fun K R hK hR=>?_;simp only [go_sem];(try go_ints);(repeat refine And.intro side ?_);(first|refine hK _ ?_|refine hR _ _ ?_);clear hK hR K R)
     repeat (first | refine nav ?_ | refine bo ?_)
     refine W_cond (b:=false) (by simp only [go_sem]<;>rfl) (fun hb=>by cases hb) (fun _=>?_)
     repeat (first | refine nav ?_ | refine bo ?_)
     refine W_tab [(2,.ptr 0 0 0),(3,.ptr 1 0 0),(5,.sl 1 (kid3 [A,B]))] (fun y hy=>?_) ?_
     ·simp only [List.mem_cons,List.not_mem_nil,or_false] at hy
      rcases hy with rfl | rfl | rfl<;>(simp only [go_sem]<;>exact Le.refl _)
     refine W_drawInv (by decide +kernel) (fun d x=>ITab [(2,.ptr 0 0 0),(3,.ptr 1 0 0),(5,.sl 1 (kid3 [A,B]))] [Ob.cells 7 [[AV.i .i64 (6),AV.i .i64 p.width,AV.i .i64 p.i,AV.i .i64 p.j,AV.s p.name,AV.sl 1 (ints p.cols),AV.sl 7 (plans p.kids)]],Ob.cells 2 [[AV.i .i64 (n : Int),AV.sl 3 (rels s.rels)]]] M ByteArray.empty w (hasF n w fun t=>decide (t ∈ A)) [.ptr 1 0 0,.i .i64 n,.agg [AV.i .i64 (6),AV.i .i64 p.width,AV.i .i64 p.i,AV.i .i64 p.j,AV.s p.name,AV.sl 1 (ints p.cols),AV.sl 7 (plans p.kids)],.i .i64 w,.sl 1 (kid3 [A,B]),.ep [.sl 1 (tups A)] 0,.sl 1 (tups A)] 209 19 d x) (by decide +kernel) ?_ ?_ ?_
     ·refine ITab.init (fun y hy=>?_) rfl
      simp only [List.mem_cons,List.not_mem_nil,or_false] at hy
      rcases hy with rfl | rfl | rfl | rfl<;>simp only [go_sem]
     ·intro d x i o ho hd hdep hI
      obtain ⟨t,ob⟩:=x
      have e2 : t 2 = .ptr 0 0 0:=hI.ext (2,.ptr 0 0 0) (by simp)
      have e3 : t 3 = .ptr 1 0 0:=hI.ext (3,.ptr 1 0 0) (by simp)
      have e5 : t 5 = .sl 1 (kid3 [A,B]):=hI.ext (5,.sl 1 (kid3 [A,B])) (by simp)
      have y0:=hI.pre 0 _ rfl
      have y1:=hI.pre 1 _ rfl
      have hobok : okO ob = true:=hI.ok
      simp only at y0 y1
      match i,ho with
       | 0,ho =>
        obtain rfl:=Option.some.inj ho
        refine ⟨rfl,OpW_run [] rfl rfl fun K' hK'=>?_⟩
        simp (maxSteps:=10000000) only [go_sem,e3]
        (try go_ints)
        (repeat refine And.intro side ?_)
        refine hK' _ ?_
        exact hI.quiet 0 (by decide) rfl (by decide)
       | 1,ho =>
        obtain rfl:=Option.some.inj ho
        refine ⟨rfl,OpW_run [] rfl rfl fun K' hK'=>?_⟩
        simp (maxSteps:=10000000) only [go_sem,(show t 209 = _ from hI.v 0 (by decide) (hdep 0 (by decide +kernel))),y1]
        (try go_ints)
        (repeat refine And.intro side ?_)
        refine hK' _ ?_
        exact hI.quiet 1 (by decide) rfl (by decide)
       | 2,ho =>
        obtain rfl:=Option.some.inj ho
        refine ⟨rfl,OpW_run [] rfl rfl fun K' hK'=>?_⟩
        simp (maxSteps:=10000000) only [go_sem,e2,y0]
        (try go_ints)
        (repeat refine And.intro side ?_)
        refine hK' _ ?_
        exact hI.quiet 2 (by decide) rfl (by decide)
       | 3,ho =>
        obtain rfl:=Option.some.inj ho
        have a2 : t 211 = .agg [AV.i .i64 (6),AV.i .i64 p.width,AV.i .i64 p.i,AV.i .i64 p.j,AV.s p.name,AV.sl 1 (ints p.cols),AV.sl 7 (plans p.kids)]:=hI.v 2 (by decide) (hdep 2 (by decide +kernel))
        refine ⟨rfl,OpW_data (CallD.all rfl rfl rfl (hwsp.frame rfl rfl ob) rfl rfl (Nat.le_refl _) (by show LeA (argVals [Operand.tmp 211] [AV.agg [AV.i .i64 (6),AV.i .i64 p.width,AV.i .i64 p.i,AV.i .i64 p.j,AV.s p.name,AV.sl 1 (ints p.cols),AV.sl 7 (plans p.kids)]] t ++ []) [AV.agg [AV.i .i64 (6),AV.i .i64 p.width,AV.i .i64 p.i,AV.i .i64 p.j,AV.s p.name,AV.sl 1 (ints p.cols),AV.sl 7 (plans p.kids)]];simp only [go_sem,a2]) hobok (by simp [AV.ltk,AV.ltks]) rfl) ?_⟩
        show ITab [(2,.ptr 0 0 0),(3,.ptr 1 0 0),(5,.sl 1 (kid3 [A,B]))] [Ob.cells 7 [[AV.i .i64 (6),AV.i .i64 p.width,AV.i .i64 p.i,AV.i .i64 p.j,AV.s p.name,AV.sl 1 (ints p.cols),AV.sl 7 (plans p.kids)]],Ob.cells 2 [[AV.i .i64 (n : Int),AV.sl 3 (rels s.rels)]]] M ByteArray.empty w (hasF n w fun t=>decide (t ∈ A)) [.ptr 1 0 0,.i .i64 n,.agg [AV.i .i64 (6),AV.i .i64 p.width,AV.i .i64 p.i,AV.i .i64 p.j,AV.s p.name,AV.sl 1 (ints p.cols),AV.sl 7 (plans p.kids)],.i .i64 w,.sl 1 (kid3 [A,B]),.ep [.sl 1 (tups A)] 0,.sl 1 (tups A)] 209 19 _ ⟨upd (argDrop [Operand.tmp 211] [AV.agg [AV.i .i64 (6),AV.i .i64 p.width,AV.i .i64 p.i,AV.i .i64 p.j,AV.s p.name,AV.sl 1 (ints p.cols),AV.sl 7 (plans p.kids)]] t) 212 _,ob⟩
        simp only [go_sem]
        exact hI.quiet 3 (by decide) rfl (by decide)
       | 4,ho =>
        obtain rfl:=Option.some.inj ho
        refine ⟨rfl,OpW_run [] rfl rfl fun K' hK'=>?_⟩
        simp (maxSteps:=10000000) only [go_sem,e5]
        (try go_ints)
        (repeat refine And.intro side ?_)
        refine hK' _ ?_
        exact hI.quiet 4 (by decide) rfl (by decide)
       | 5,ho =>
        obtain rfl:=Option.some.inj ho
        refine ⟨rfl,OpW_run [] rfl rfl fun K' hK'=>?_⟩
        simp (maxSteps:=10000000) only [go_sem,(show t 213 = _ from hI.v 4 (by decide) (hdep 4 (by decide +kernel))),k0,kl]
        (try go_ints)
        (repeat refine And.intro side ?_)
        refine hK' _ ?_
        exact hI.quiet 5 (by decide) rfl (by decide)
       | 6,ho =>
        obtain rfl:=Option.some.inj ho
        refine ⟨rfl,OpW_run [] rfl rfl fun K' hK'=>?_⟩
        simp (maxSteps:=10000000) only [go_sem,(show t 214 = _ from hI.v 5 (by decide) (hdep 5 (by decide +kernel)))]
        (try go_ints)
        (repeat refine And.intro side ?_)
        refine hK' _ ?_
        exact hI.quiet 6 (by decide) rfl (by decide)
       | 7,ho =>
        obtain rfl:=Option.some.inj ho
        have a1 : t 210 = .i .i64 n:=hI.v 1 (by decide) (hdep 1 (by decide +kernel))
        have a3 : t 212 = .i .i64 w:=hI.v 3 (by decide) (hdep 3 (by decide +kernel))
        have a6 : t 215 = .sl 1 (tups A):=hI.v 6 (by decide) (hdep 6 (by decide +kernel))
        refine ⟨rfl,OpW_callE (caps:=[]) rfl rfl rfl (htabA hobok) (fun r o' hh=>hh.shape) rfl rfl (Nat.le_refl _) (by show LeA (argVals [Operand.tmp 210,Operand.const (Value.string ByteArray.empty),Operand.tmp 212,Operand.tmp 215] [AV.i .i64 n,.s ByteArray.empty,.i .i64 w,.sl 1 (tups A)] t ++ []) [AV.i .i64 n,.s ByteArray.empty,.i .i64 w,.sl 1 (tups A)];simp only [go_sem,a1,a3,a6]) hobok (by rfl) ?_⟩
        intro r o' hr
        show ITab [(2,.ptr 0 0 0),(3,.ptr 1 0 0),(5,.sl 1 (kid3 [A,B]))] [Ob.cells 7 [[AV.i .i64 (6),AV.i .i64 p.width,AV.i .i64 p.i,AV.i .i64 p.j,AV.s p.name,AV.sl 1 (ints p.cols),AV.sl 7 (plans p.kids)]],Ob.cells 2 [[AV.i .i64 (n : Int),AV.sl 3 (rels s.rels)]]] M ByteArray.empty w (hasF n w fun t=>decide (t ∈ A)) [.ptr 1 0 0,.i .i64 n,.agg [AV.i .i64 (6),AV.i .i64 p.width,AV.i .i64 p.i,AV.i .i64 p.j,AV.s p.name,AV.sl 1 (ints p.cols),AV.sl 7 (plans p.kids)],.i .i64 w,.sl 1 (kid3 [A,B]),.ep [.sl 1 (tups A)] 0,.sl 1 (tups A)] 209 19 _ ⟨upd (argDrop [Operand.tmp 210,Operand.const (Value.string ByteArray.empty),Operand.tmp 212,Operand.tmp 215] [AV.i .i64 n,.s ByteArray.empty,.i .i64 w,.sl 1 (tups A)] t) 216 r,o'⟩
        simp only [go_sem]
        rw [← hM] at hI ⊢
        exact hI.call hd hr rfl (by decide)
       | 8,ho =>
        obtain rfl:=Option.some.inj ho
        refine ⟨rfl,OpW_run [] rfl rfl fun K' hK'=>?_⟩
        simp (maxSteps:=10000000) only [go_sem]
        (try go_ints)
        (repeat refine And.intro side ?_)
        refine hK' _ ?_
        exact hI.alloc hd rfl (by decide)
       | 9,ho =>
        obtain rfl:=Option.some.inj ho
        obtain ⟨j,id,b1,b2,b3,hI2⟩:=hI.pair (hdep 7 (by decide +kernel)) (hdep 8 (by decide +kernel)) hd
        refine ⟨rfl,OpW_run [] rfl rfl fun K' hK'=>?_⟩
        unfold zTab at b3
        simp (maxSteps:=10000000) only [go_sem,b1,(show t 216 = _ from b2),b3]
        (try go_ints)
        (repeat refine And.intro side ?_)
        refine hK' _ ?_
        exact hI2
       | n + 10,ho=>simp at ho
     ·intro d x hd hI
      obtain ⟨t,o43⟩:=x
      obtain ⟨j1,id1,z1,z2,z3,z4,z5,z6⟩:=hI.k9 (hd 9 (by decide))
      have e2 : t 2 = .ptr 0 0 0:=hI.ext (2,.ptr 0 0 0) (by simp)
      have e3 : t 3 = .ptr 1 0 0:=hI.ext (3,.ptr 1 0 0) (by simp)
      have e5 : t 5 = .sl 1 (kid3 [A,B]):=hI.ext (5,.sl 1 (kid3 [A,B])) (by simp)
      have x0:=hI.pre 0 _ rfl
      have x1:=hI.pre 1 _ rfl
      have xok : okO o43 = true:=hI.ok
      simp only at z1 z5 z6 x0 x1
      clear hI hd d
      change W Tryz.prog 248 _ _ _
      refine W_tab [(2,.ptr 0 0 0),(3,.ptr 1 0 0),(5,.sl 1 (kid3 [A,B])),(19,.ptr j1 0 0)] (fun y hy=>?_) ?_
      ·simp only [List.mem_cons,List.not_mem_nil,or_false] at hy
       rcases hy with rfl | rfl | rfl | rfl
       all_goals (simp only [e2,e3,e5,z1];exact Le.refl _)
      clear e2 e3 e5 z1 t
      repeat (first | refine nav ?_ | refine bo ?_)
      refine W_drawInv (by decide +kernel) (fun d x=>ITab [(2,.ptr 0 0 0),(3,.ptr 1 0 0),(5,.sl 1 (kid3 [A,B])),(19,.ptr j1 0 0)] o43 M ByteArray.empty w (hasF n w fun t=>decide (t ∈ B)) [.ptr 1 0 0,.i .i64 n,.agg [AV.i .i64 (6),AV.i .i64 p.width,AV.i .i64 p.i,AV.i .i64 p.j,AV.s p.name,AV.sl 1 (ints p.cols),AV.sl 7 (plans p.kids)],.i .i64 w,.sl 1 (kid3 [A,B]),.ep [.sl 1 (tups B)] 0,.sl 1 (tups B)] 217 20 d x) (by decide +kernel) ?_ ?_ ?_
      ·refine ITab.init (fun y hy=>?_) xok
       simp only [List.mem_cons,List.not_mem_nil,or_false] at hy
       rcases hy with rfl | rfl | rfl | rfl | rfl<;>simp only [go_sem]
      ·intro d x i o ho hd hdep hI
       obtain ⟨t,ob⟩:=x
       have e2 : t 2 = .ptr 0 0 0:=hI.ext (2,.ptr 0 0 0) (by simp)
       have e3 : t 3 = .ptr 1 0 0:=hI.ext (3,.ptr 1 0 0) (by simp)
       have e5 : t 5 = .sl 1 (kid3 [A,B]):=hI.ext (5,.sl 1 (kid3 [A,B])) (by simp)
       have y0:=hI.pre 0 _ x0
       have y1:=hI.pre 1 _ x1
       have hobok : okO ob = true:=hI.ok
       simp only at y0 y1
       match i,ho with
        | 0,ho =>
         obtain rfl:=Option.some.inj ho
         refine ⟨rfl,OpW_run [] rfl rfl fun K' hK'=>?_⟩
         simp (maxSteps:=10000000) only [go_sem,e3]
         (try go_ints)
         (repeat refine And.intro side ?_)
         refine hK' _ ?_
         exact hI.quiet 0 (by decide) rfl (by decide)
        | 1,ho =>
         obtain rfl:=Option.some.inj ho
         refine ⟨rfl,OpW_run [] rfl rfl fun K' hK'=>?_⟩
         simp (maxSteps:=10000000) only [go_sem,(show t 217 = _ from hI.v 0 (by decide) (hdep 0 (by decide +kernel))),y1]
         (try go_ints)
         (repeat refine And.intro side ?_)
         refine hK' _ ?_
         exact hI.quiet 1 (by decide) rfl (by decide)
        | 2,ho =>
         obtain rfl:=Option.some.inj ho
         refine ⟨rfl,OpW_run [] rfl rfl fun K' hK'=>?_⟩
         simp (maxSteps:=10000000) only [go_sem,e2,y0]
         (try go_ints)
         (repeat refine And.intro side ?_)
         refine hK' _ ?_
         exact hI.quiet 2 (by decide) rfl (by decide)
        | 3,ho =>
         obtain rfl:=Option.some.inj ho
         have a2 : t 219 = .agg [AV.i .i64 (6),AV.i .i64 p.width,AV.i .i64 p.i,AV.i .i64 p.j,AV.s p.name,AV.sl 1 (ints p.cols),AV.sl 7 (plans p.kids)]:=hI.v 2 (by decide) (hdep 2 (by decide +kernel))
         refine ⟨rfl,OpW_data (CallD.all rfl rfl rfl (hwsp.frame rfl rfl ob) rfl rfl (Nat.le_refl _) (by show LeA (argVals [Operand.tmp 219] [AV.agg [AV.i .i64 (6),AV.i .i64 p.width,AV.i .i64 p.i,AV.i .i64 p.j,AV.s p.name,AV.sl 1 (ints p.cols),AV.sl 7 (plans p.kids)]] t ++ []) [AV.agg [AV.i .i64 (6),AV.i .i64 p.width,AV.i .i64 p.i,AV.i .i64 p.j,AV.s p.name,AV.sl 1 (ints p.cols),AV.sl 7 (plans p.kids)]];simp only [go_sem,a2]) hobok (by simp [AV.ltk,AV.ltks]) rfl) ?_⟩
         show ITab [(2,.ptr 0 0 0),(3,.ptr 1 0 0),(5,.sl 1 (kid3 [A,B])),(19,.ptr j1 0 0)] o43 M ByteArray.empty w (hasF n w fun t=>decide (t ∈ B)) [.ptr 1 0 0,.i .i64 n,.agg [AV.i .i64 (6),AV.i .i64 p.width,AV.i .i64 p.i,AV.i .i64 p.j,AV.s p.name,AV.sl 1 (ints p.cols),AV.sl 7 (plans p.kids)],.i .i64 w,.sl 1 (kid3 [A,B]),.ep [.sl 1 (tups B)] 0,.sl 1 (tups B)] 217 20 _ ⟨upd (argDrop [Operand.tmp 219] [AV.agg [AV.i .i64 (6),AV.i .i64 p.width,AV.i .i64 p.i,AV.i .i64 p.j,AV.s p.name,AV.sl 1 (ints p.cols),AV.sl 7 (plans p.kids)]] t) 220 _,ob⟩
         simp only [go_sem]
         exact hI.quiet 3 (by decide) rfl (by decide)
        | 4,ho =>
         obtain rfl:=Option.some.inj ho
         refine ⟨rfl,OpW_run [] rfl rfl fun K' hK'=>?_⟩
         simp (maxSteps:=10000000) only [go_sem,e5]
         (try go_ints)
         (repeat refine And.intro side ?_)
         refine hK' _ ?_
         exact hI.quiet 4 (by decide) rfl (by decide)
        | 5,ho =>
         obtain rfl:=Option.some.inj ho
         refine ⟨rfl,OpW_run [] rfl rfl fun K' hK'=>?_⟩
         simp (maxSteps:=10000000) only [go_sem,(show t 221 = _ from hI.v 4 (by decide) (hdep 4 (by decide +kernel))),k1,kl]
         (try go_ints)
         (repeat refine And.intro side ?_)
         refine hK' _ ?_
         exact hI.quiet 5 (by decide) rfl (by decide)
        | 6,ho =>
         obtain rfl:=Option.some.inj ho
         refine ⟨rfl,OpW_run [] rfl rfl fun K' hK'=>?_⟩
         simp (maxSteps:=10000000) only [go_sem,(show t 222 = _ from hI.v 5 (by decide) (hdep 5 (by decide +kernel)))]
         (try go_ints)
         (repeat refine And.intro side ?_)
         refine hK' _ ?_
         exact hI.quiet 6 (by decide) rfl (by decide)
        | 7,ho =>
         obtain rfl:=Option.some.inj ho
         have a1 : t 218 = .i .i64 n:=hI.v 1 (by decide) (hdep 1 (by decide +kernel))
         have a3 : t 220 = .i .i64 w:=hI.v 3 (by decide) (hdep 3 (by decide +kernel))
         have a6 : t 223 = .sl 1 (tups B):=hI.v 6 (by decide) (hdep 6 (by decide +kernel))
         refine ⟨rfl,OpW_callE (caps:=[]) rfl rfl rfl (htabB hobok) (fun r o' hh=>hh.shape) rfl rfl (Nat.le_refl _) (by show LeA (argVals [Operand.tmp 218,Operand.const (Value.string ByteArray.empty),Operand.tmp 220,Operand.tmp 223] [AV.i .i64 n,.s ByteArray.empty,.i .i64 w,.sl 1 (tups B)] t ++ []) [AV.i .i64 n,.s ByteArray.empty,.i .i64 w,.sl 1 (tups B)];simp only [go_sem,a1,a3,a6]) hobok (by rfl) ?_⟩
         intro r o' hr
         show ITab [(2,.ptr 0 0 0),(3,.ptr 1 0 0),(5,.sl 1 (kid3 [A,B])),(19,.ptr j1 0 0)] o43 M ByteArray.empty w (hasF n w fun t=>decide (t ∈ B)) [.ptr 1 0 0,.i .i64 n,.agg [AV.i .i64 (6),AV.i .i64 p.width,AV.i .i64 p.i,AV.i .i64 p.j,AV.s p.name,AV.sl 1 (ints p.cols),AV.sl 7 (plans p.kids)],.i .i64 w,.sl 1 (kid3 [A,B]),.ep [.sl 1 (tups B)] 0,.sl 1 (tups B)] 217 20 _ ⟨upd (argDrop [Operand.tmp 218,Operand.const (Value.string ByteArray.empty),Operand.tmp 220,Operand.tmp 223] [AV.i .i64 n,.s ByteArray.empty,.i .i64 w,.sl 1 (tups B)] t) 224 r,o'⟩
         simp only [go_sem]
         rw [← hM] at hI ⊢
         exact hI.call hd hr rfl (by decide)
        | 8,ho =>
         obtain rfl:=Option.some.inj ho
         refine ⟨rfl,OpW_run [] rfl rfl fun K' hK'=>?_⟩
         simp (maxSteps:=10000000) only [go_sem]
         (try go_ints)
         (repeat refine And.intro side ?_)
         refine hK' _ ?_
         exact hI.alloc hd rfl (by decide)
        | 9,ho =>
         obtain rfl:=Option.some.inj ho
         obtain ⟨j,id,b1,b2,b3,hI2⟩:=hI.pair (hdep 7 (by decide +kernel)) (hdep 8 (by decide +kernel)) hd
         refine ⟨rfl,OpW_run [] rfl rfl fun K' hK'=>?_⟩
         unfold zTab at b3
         simp (maxSteps:=10000000) only [go_sem,b1,(show t 224 = _ from b2),b3]
         (try go_ints)
         (repeat refine And.intro side ?_)
         refine hK' _ ?_
         exact hI2
        | n + 10,ho=>simp at ho
      ·intro d x hd hI
       obtain ⟨t,o44⟩:=x
       obtain ⟨j2,id2,q1,q2,q3,q4,q5,q6⟩:=hI.k9 (hd 9 (by decide))
       have e2 : t 2 = .ptr 0 0 0:=hI.ext (2,.ptr 0 0 0) (by simp)
       have e3 : t 3 = .ptr 1 0 0:=hI.ext (3,.ptr 1 0 0) (by simp)
       have e19 : t 19 = .ptr j1 0 0:=hI.ext (19,.ptr j1 0 0) (by simp)
       have u0:=hI.pre 0 _ x0
       have u1:=hI.pre 1 _ x1
       have uj1:=hI.pre j1 _ z5
       have ui1:=hI.pre id1 _ z6
       have uok : okO o44 = true:=hI.ok
       have hlj1:=(List.getElem?_eq_some_iff.1 z5).1
       have hli1:=(List.getElem?_eq_some_iff.1 z6).1
       simp only at q1 q5 q6 u0 u1 uj1 ui1
       clear hI hd d
       have z2' : 2 ≤ j1:=z2
       have z3' : 2 ≤ id1:=z3
       change W Tryz.prog 248 _ _ _
       refine W_tab [(2,.ptr 0 0 0),(3,.ptr 1 0 0),(19,.ptr j1 0 0),(20,.ptr j2 0 0)] (fun y hy=>?_) ?_
       ·simp only [List.mem_cons,List.not_mem_nil,or_false] at hy
        rcases hy with rfl | rfl | rfl | rfl
        all_goals (simp only [e2,e3,e19,q1];exact Le.refl _)
       clear e2 e3 e19 q1 t x0 x1 z5 z6 xok
       have hcb:=comb_zero (hasF n w fun t=>decide (t ∈ A)) (hasF n w fun t=>decide (t ∈ B)) true
       rw [← hcb] at ui1
       repeat (first | refine nav ?_ | refine bo ?_)
       (refine wr fun K R hK hR=>?_;simp only [go_sem];(try go_ints);(repeat refine And.intro side ?_);(first|refine hK _ ?_|refine hR _ _ ?_);clear hK hR K R)
       repeat (first | refine nav ?_ | refine bo ?_)
       refine W_for 225 244 [21] (fun m t o=>∃ i : Nat,okO o = true ∧ o[0]? = some (Ob.cells 7 [[AV.i .i64 (6),AV.i .i64 p.width,AV.i .i64 p.i,AV.i .i64 p.j,AV.s p.name,AV.sl 1 (ints p.cols),AV.sl 7 (plans p.kids)]]) ∧ o[1]? = some (Ob.cells 2 [[AV.i .i64 (n : Int),AV.sl 3 (rels s.rels)]]) ∧ o[j1]? = some (Ob.cells 3 [[AV.s ByteArray.empty,AV.i IntKind.i64 w,AV.ref id1 0 M]]) ∧ o[j2]? = some (Ob.cells 3 [[AV.s ByteArray.empty,AV.i IntKind.i64 w,AV.ref id2 0 M]]) ∧ o[id1]? = some (.cells 1 (bools (combL true (hasF n w fun t=>decide (t ∈ A)) (hasF n w fun t=>decide (t ∈ B)) i))) ∧ o[id2]? = some (.cells 1 (bools (hasF n w fun t=>decide (t ∈ B)))) ∧ t 21 = .i .i64 i ∧ m = M - i ∧ i ≤ M) M ⟨0,uok,u0,u1,uj1,q5,ui1,q6,by simp only [go_sem]<;>rfl,by omega,by omega⟩ ?_
       clear uok u0 u1 uj1 ui1 q5 q6 hcb
       rintro m t o ⟨i,uok,u0,u1,uj1,uj2,ui1,ui2,h21,rfl,hi⟩
       have hlA:=hlen fun t=>decide (t ∈ A)
       have hlB:=hlen fun t=>decide (t ∈ B)
       have hlc:=combL_len true (hlA.trans hlB.symm) i
       rw [hlA] at hlc
       repeat (first | refine nav ?_ | refine bo ?_)
       (refine wr fun K R hK hR=>?_;simp only [go_sem,h21,uj1];(try go_ints);(try simp only [go_sem,h21,uj1]);(repeat refine And.intro side ?_);(first|refine hK _ ?_|refine hR _ _ ?_);clear hK hR K R)
       repeat (first | refine nav ?_ | refine bo ?_)
       refine W_cond (by simp only [go_sem]<;>exact rfl) (fun hb=>?_) (fun hb=>?_)
       ·have hb1 : i < M:=by simpa using hb
        obtain ⟨x,hx⟩ : ∃ x,(hasF n w fun t=>decide (t ∈ B))[i]? = some x:=⟨_,List.getElem?_eq_getElem (by omega)⟩
        obtain ⟨y,hy⟩ : ∃ y,(combL true (hasF n w fun t=>decide (t ∈ A)) (hasF n w fun t=>decide (t ∈ B)) i)[i]? = some y:=⟨_,List.getElem?_eq_getElem (by omega)⟩
        have hstep:=combL_step true (hlA.trans hlB.symm) hx
        obtain ⟨C,hC⟩ : ∃ C,C = combL true (hasF n w fun t=>decide (t ∈ A)) (hasF n w fun t=>decide (t ∈ B)) i:=⟨_,rfl⟩
        rw [← hC] at hy hstep hlc ui1
        repeat (first | refine nav ?_ | refine bo ?_)
        (refine wr fun K R hK hR=>?_;simp only [go_sem,h21,uj2,ui2,bools_get hx,bools_len,hlB];(try go_ints);(try simp only [go_sem,h21,uj2,ui2,bools_get hx,bools_len,hlB]);(repeat refine And.intro side ?_);(first|refine hK _ ?_|refine hR _ _ ?_);clear hK hR K R)
        repeat (first | refine nav ?_ | refine bo ?_)
        refine W_cond (b:=x) (by simp only [go_sem]) (fun hc=>?_) (fun hc=>?_)
        ·rw [if_pos hc] at hstep
         repeat (first | refine nav ?_ | refine bo ?_)
         (refine wr fun K R hK hR=>?_;simp only [go_sem,h21,u0,uj1,ui1,bools_get hy,bools_len,hlc,bools_set];(try go_ints);(try simp only [go_sem,h21,u0,uj1,ui1,bools_get hy,bools_len,hlc,bools_set]);(repeat refine And.intro side ?_);(first|refine hK _ ?_|refine hR _ _ ?_);clear hK hR K R)
         repeat (first | refine nav ?_ | refine bo ?_)
         (refine wr fun K R hK hR=>?_;simp only [go_sem,h21];(try go_ints);(try simp only [go_sem,h21]);(repeat refine And.intro side ?_);(first|refine hK _ ?_|refine hR _ _ ?_);clear hK hR K R)
         refine forQ_normal (M - (i + 1)) (by omega) ⟨i + 1,okO_set' uok (bools_ltk _ _),?_,?_,?_,?_,?_,?_,by simp only [go_sem]<;>rfl,rfl,hb1⟩
         ·rw [List.getElem?_set_ne (by omega)];exact u0
         ·rw [List.getElem?_set_ne (by omega)];exact u1
         ·rw [List.getElem?_set_ne (by omega)];exact uj1
         ·rw [List.getElem?_set_ne (by omega)];exact uj2
         ·rw [List.getElem?_set_self (List.getElem?_eq_some_iff.1 ui1).1,← hstep]
         ·rw [List.getElem?_set_ne (by omega)];exact ui2
        ·rw [if_neg (by rw [hc];decide)] at hstep
         repeat (first | refine nav ?_ | refine bo ?_)
         (refine wr fun K R hK hR=>?_;simp only [go_sem,h21];(try go_ints);(try simp only [go_sem,h21]);(repeat refine And.intro side ?_);(first|refine hK _ ?_|refine hR _ _ ?_);clear hK hR K R)
         refine forQ_normal (M - (i + 1)) (by omega) ⟨i + 1,uok,u0,u1,uj1,uj2,by rw [← hstep];exact ui1,ui2,by simp only [go_sem]<;>rfl,rfl,hb1⟩
       ·simp at hb
        obtain hie : i = M:=by omega
        have hfull:=combL_full true (hlA.trans hlB.symm) (i:=i) (by omega)
        rw [hfull] at ui1
        rw [show (List.zipWith (fun x u=>if u = true then true else x) (hasF n w fun t=>decide (t ∈ A)) (hasF n w fun t=>decide (t ∈ B))) = hasF n w fun t=>decide (t ∈ A) || decide (t ∈ B) from by
         rw [hasF_zip]
         unfold hasF
         refine List.map_congr_left fun t _=>?_
         by_cases ha : t ∈ A<;>by_cases hbb : t ∈ B<;>simp [ha,hbb]] at ui1
        repeat (first | refine nav ?_ | refine bo ?_)
        refine W_frz id1 uok ui1 (bools_plain _) fun o3 v1 v2 v3 v4=>?_
        rw [bools_dat] at v3 v4 ⊢
        have w1:=v3 1 _ (by omega) u1
        have wJ:=v3 j1 _ (by omega) uj1
        rw [tabO_unref (hlen _)] at wJ
        have w1' : o3[1]? = some (Ob.cells 2 [[AV.i .i64 (n : Int),AV.sl 3 (rels s.rels)]]):=by rw [w1];simp [Ob.unref,AV.unref]
        clear w1
        refine W_tab [(3,.ptr 1 0 0),(19,.ptr j1 0 0)] (fun y hy=>?_) ?_
        ·simp only [List.mem_cons,List.not_mem_nil,or_false] at hy
         rcases hy with rfl | rfl
         all_goals (simp only [go_sem,AV.unref]<;>exact Le.refl _)
        (refine wr fun K R hK hR=>?_;simp only [go_sem,wJ,w1'];(try go_ints);(try simp only [go_sem,wJ,w1']);(repeat refine And.intro side ?_);(first|refine hK _ ?_|refine hR _ _ ?_);clear hK hR K R)
        refine RL_callF (hlist _) rfl rfl rfl (by first | (simp only [go_sem]<;>first | exact LeA.refl _ | exact Le.refl _) | exact LeA.refl _) rfl rfl ?_
        (refine rr fun K R hK hR=>?_;simp only [go_sem];(try go_ints);(repeat refine And.intro side ?_);(first|refine hK _ ?_|refine hR _ _ ?_);clear hK hR K R)
        repeat (first | refine nav ?_ | refine bo ?_)
        refine endQ_data (by simp only [go_sem]<;>exact rfl) (Le.of_eq ?_) rfl
        rfl
    ·rw [if_neg (by omega),minusF_eq hn1 ta]
     rw [e] at hwsp ⊢
     (refine wr fun K R hK hR=>?_;simp only [go_sem];(try go_ints);(repeat refine And.intro side ?_);(first|refine hK _ ?_|refine hR _ _ ?_);clear hK hR K R)
     repeat (first | refine nav ?_ | refine bo ?_)
     (refine wr fun K R hK hR=>?_;simp only [go_sem];(try go_ints);(repeat refine And.intro side ?_);(first|refine hK _ ?_|refine hR _ _ ?_);clear hK hR K R)
     repeat (first | refine nav ?_ | refine bo ?_)
     (refine wr fun K R hK hR=>?_;simp only [go_sem];(try go_ints);(repeat refine And.intro side ?_);(first|refine hK _ ?_|refine hR _ _ ?_);clear hK hR K R)
     repeat (first | refine nav ?_ | refine bo ?_)
     refine W_cond (b:=false) (by simp only [go_sem]<;>rfl) (fun hb=>by cases hb) (fun _=>?_)
     repeat (first | refine nav ?_ | refine bo ?_)
     (refine wr fun K R hK hR=>?_;simp only [go_sem];(try go_ints);(repeat refine And.intro side ?_);(first|refine hK _ ?_|refine hR _ _ ?_);clear hK hR K R)
     repeat (first | refine nav ?_ | refine bo ?_)
     refine W_cond (b:=false) (by simp only [go_sem]<;>rfl) (fun hb=>by cases hb) (fun _=>?_)
     repeat (first | refine nav ?_ | refine bo ?_)
     (refine wr fun K R hK hR=>?_;simp only [go_sem];(try go_ints);(repeat refine And.intro side ?_);(first|refine hK _ ?_|refine hR _ _ ?_);clear hK hR K R)
     repeat (first | refine nav ?_ | refine bo ?_)
     refine W_cond (b:=false) (by simp only [go_sem]<;>rfl) (fun hb=>by cases hb) (fun _=>?_)
     repeat (first | refine nav ?_ | refine bo ?_)
     (refine wr fun K R hK hR=>?_;simp only [go_sem];(try go_ints);(repeat refine And.intro side ?_);(first|refine hK _ ?_|refine hR _ _ ?_);clear hK hR K R)
     repeat (first | refine nav ?_ | refine bo ?_)
     refine W_cond (b:=false) (by simp only [go_sem]<;>rfl) (fun hb=>by cases hb) (fun _=>?_)
     repeat (first | refine nav ?_ | refine bo ?_)
     (refine wr fun K R hK hR=>?_;simp only [go_sem];(try go_ints);(repeat refine And.intro side ?_);(first|refine hK _ ?_|refine hR _ _ ?_);clear hK hR K R)
     repeat (first | refine nav ?_ | refine bo ?_)
     refine W_cond (b:=false) (by simp only [go_sem]<;>rfl) (fun hb=>by cases hb) (fun _=>?_)
     repeat (first | refine nav ?_ | refine bo ?_)
     (refine wr fun K R hK hR=>?_;simp only [go_sem];(try go_ints);(repeat refine And.intro side ?_);(first|refine hK _ ?_|refine hR _ _ ?_);clear hK hR K R)
     repeat (first | refine nav ?_ | refine bo ?_)
     refine W_cond (b:=false) (by simp only [go_sem]<;>rfl) (fun hb=>by cases hb) (fun _=>?_)
     repeat (first | refine nav ?_ | refine bo ?_)
     refine W_tab [(2,.ptr 0 0 0),(3,.ptr 1 0 0),(5,.sl 1 (kid3 [A,B]))] (fun y hy=>?_) ?_
     ·simp only [List.mem_cons,List.not_mem_nil,or_false] at hy
      rcases hy with rfl | rfl | rfl<;>(simp only [go_sem]<;>exact Le.refl _)
     refine W_drawInv (by decide +kernel) (fun d x=>ITab [(2,.ptr 0 0 0),(3,.ptr 1 0 0),(5,.sl 1 (kid3 [A,B]))] [Ob.cells 7 [[AV.i .i64 (7),AV.i .i64 p.width,AV.i .i64 p.i,AV.i .i64 p.j,AV.s p.name,AV.sl 1 (ints p.cols),AV.sl 7 (plans p.kids)]],Ob.cells 2 [[AV.i .i64 (n : Int),AV.sl 3 (rels s.rels)]]] M ByteArray.empty w (hasF n w fun t=>decide (t ∈ A)) [.ptr 1 0 0,.i .i64 n,.agg [AV.i .i64 (7),AV.i .i64 p.width,AV.i .i64 p.i,AV.i .i64 p.j,AV.s p.name,AV.sl 1 (ints p.cols),AV.sl 7 (plans p.kids)],.i .i64 w,.sl 1 (kid3 [A,B]),.ep [.sl 1 (tups A)] 0,.sl 1 (tups A)] 209 19 d x) (by decide +kernel) ?_ ?_ ?_
     ·refine ITab.init (fun y hy=>?_) rfl
      simp only [List.mem_cons,List.not_mem_nil,or_false] at hy
      rcases hy with rfl | rfl | rfl | rfl<;>simp only [go_sem]
     ·intro d x i o ho hd hdep hI
      obtain ⟨t,ob⟩:=x
      have e2 : t 2 = .ptr 0 0 0:=hI.ext (2,.ptr 0 0 0) (by simp)
      have e3 : t 3 = .ptr 1 0 0:=hI.ext (3,.ptr 1 0 0) (by simp)
      have e5 : t 5 = .sl 1 (kid3 [A,B]):=hI.ext (5,.sl 1 (kid3 [A,B])) (by simp)
      have y0:=hI.pre 0 _ rfl
      have y1:=hI.pre 1 _ rfl
      have hobok : okO ob = true:=hI.ok
      simp only at y0 y1
      match i,ho with
       | 0,ho =>
        obtain rfl:=Option.some.inj ho
        refine ⟨rfl,OpW_run [] rfl rfl fun K' hK'=>?_⟩
        simp (maxSteps:=10000000) only [go_sem,e3]
        (try go_ints)
        (repeat refine And.intro side ?_)
        refine hK' _ ?_
        exact hI.quiet 0 (by decide) rfl (by decide)
       | 1,ho =>
        obtain rfl:=Option.some.inj ho
        refine ⟨rfl,OpW_run [] rfl rfl fun K' hK'=>?_⟩
        simp (maxSteps:=10000000) only [go_sem,(show t 209 = _ from hI.v 0 (by decide) (hdep 0 (by decide +kernel))),y1]
        (try go_ints)
        (repeat refine And.intro side ?_)
        refine hK' _ ?_
        exact hI.quiet 1 (by decide) rfl (by decide)
       | 2,ho =>
        obtain rfl:=Option.some.inj ho
        refine ⟨rfl,OpW_run [] rfl rfl fun K' hK'=>?_⟩
        simp (maxSteps:=10000000) only [go_sem,e2,y0]
        (try go_ints)
        (repeat refine And.intro side ?_)
        refine hK' _ ?_
        exact hI.quiet 2 (by decide) rfl (by decide)
       | 3,ho =>
        obtain rfl:=Option.some.inj ho
        have a2 : t 211 = .agg [AV.i .i64 (7),AV.i .i64 p.width,AV.i .i64 p.i,AV.i .i64 p.j,AV.s p.name,AV.sl 1 (ints p.cols),AV.sl 7 (plans p.kids)]:=hI.v 2 (by decide) (hdep 2 (by decide +kernel))
        refine ⟨rfl,OpW_data (CallD.all rfl rfl rfl (hwsp.frame rfl rfl ob) rfl rfl (Nat.le_refl _) (by show LeA (argVals [Operand.tmp 211] [AV.agg [AV.i .i64 (7),AV.i .i64 p.width,AV.i .i64 p.i,AV.i .i64 p.j,AV.s p.name,AV.sl 1 (ints p.cols),AV.sl 7 (plans p.kids)]] t ++ []) [AV.agg [AV.i .i64 (7),AV.i .i64 p.width,AV.i .i64 p.i,AV.i .i64 p.j,AV.s p.name,AV.sl 1 (ints p.cols),AV.sl 7 (plans p.kids)]];simp only [go_sem,a2]) hobok (by simp [AV.ltk,AV.ltks]) rfl) ?_⟩
        show ITab [(2,.ptr 0 0 0),(3,.ptr 1 0 0),(5,.sl 1 (kid3 [A,B]))] [Ob.cells 7 [[AV.i .i64 (7),AV.i .i64 p.width,AV.i .i64 p.i,AV.i .i64 p.j,AV.s p.name,AV.sl 1 (ints p.cols),AV.sl 7 (plans p.kids)]],Ob.cells 2 [[AV.i .i64 (n : Int),AV.sl 3 (rels s.rels)]]] M ByteArray.empty w (hasF n w fun t=>decide (t ∈ A)) [.ptr 1 0 0,.i .i64 n,.agg [AV.i .i64 (7),AV.i .i64 p.width,AV.i .i64 p.i,AV.i .i64 p.j,AV.s p.name,AV.sl 1 (ints p.cols),AV.sl 7 (plans p.kids)],.i .i64 w,.sl 1 (kid3 [A,B]),.ep [.sl 1 (tups A)] 0,.sl 1 (tups A)] 209 19 _ ⟨upd (argDrop [Operand.tmp 211] [AV.agg [AV.i .i64 (7),AV.i .i64 p.width,AV.i .i64 p.i,AV.i .i64 p.j,AV.s p.name,AV.sl 1 (ints p.cols),AV.sl 7 (plans p.kids)]] t) 212 _,ob⟩
        simp only [go_sem]
        exact hI.quiet 3 (by decide) rfl (by decide)
       | 4,ho =>
        obtain rfl:=Option.some.inj ho
        refine ⟨rfl,OpW_run [] rfl rfl fun K' hK'=>?_⟩
        simp (maxSteps:=10000000) only [go_sem,e5]
        (try go_ints)
        (repeat refine And.intro side ?_)
        refine hK' _ ?_
        exact hI.quiet 4 (by decide) rfl (by decide)
       | 5,ho =>
        obtain rfl:=Option.some.inj ho
        refine ⟨rfl,OpW_run [] rfl rfl fun K' hK'=>?_⟩
        simp (maxSteps:=10000000) only [go_sem,(show t 213 = _ from hI.v 4 (by decide) (hdep 4 (by decide +kernel))),k0,kl]
        (try go_ints)
        (repeat refine And.intro side ?_)
        refine hK' _ ?_
        exact hI.quiet 5 (by decide) rfl (by decide)
       | 6,ho =>
        obtain rfl:=Option.some.inj ho
        refine ⟨rfl,OpW_run [] rfl rfl fun K' hK'=>?_⟩
        simp (maxSteps:=10000000) only [go_sem,(show t 214 = _ from hI.v 5 (by decide) (hdep 5 (by decide +kernel)))]
        (try go_ints)
        (repeat refine And.intro side ?_)
        refine hK' _ ?_
        exact hI.quiet 6 (by decide) rfl (by decide)
       | 7,ho =>
        obtain rfl:=Option.some.inj ho
        have a1 : t 210 = .i .i64 n:=hI.v 1 (by decide) (hdep 1 (by decide +kernel))
        have a3 : t 212 = .i .i64 w:=hI.v 3 (by decide) (hdep 3 (by decide +kernel))
        have a6 : t 215 = .sl 1 (tups A):=hI.v 6 (by decide) (hdep 6 (by decide +kernel))
        refine ⟨rfl,OpW_callE (caps:=[]) rfl rfl rfl (htabA hobok) (fun r o' hh=>hh.shape) rfl rfl (Nat.le_refl _) (by show LeA (argVals [Operand.tmp 210,Operand.const (Value.string ByteArray.empty),Operand.tmp 212,Operand.tmp 215] [AV.i .i64 n,.s ByteArray.empty,.i .i64 w,.sl 1 (tups A)] t ++ []) [AV.i .i64 n,.s ByteArray.empty,.i .i64 w,.sl 1 (tups A)];simp only [go_sem,a1,a3,a6]) hobok (by rfl) ?_⟩
        intro r o' hr
        show ITab [(2,.ptr 0 0 0),(3,.ptr 1 0 0),(5,.sl 1 (kid3 [A,B]))] [Ob.cells 7 [[AV.i .i64 (7),AV.i .i64 p.width,AV.i .i64 p.i,AV.i .i64 p.j,AV.s p.name,AV.sl 1 (ints p.cols),AV.sl 7 (plans p.kids)]],Ob.cells 2 [[AV.i .i64 (n : Int),AV.sl 3 (rels s.rels)]]] M ByteArray.empty w (hasF n w fun t=>decide (t ∈ A)) [.ptr 1 0 0,.i .i64 n,.agg [AV.i .i64 (7),AV.i .i64 p.width,AV.i .i64 p.i,AV.i .i64 p.j,AV.s p.name,AV.sl 1 (ints p.cols),AV.sl 7 (plans p.kids)],.i .i64 w,.sl 1 (kid3 [A,B]),.ep [.sl 1 (tups A)] 0,.sl 1 (tups A)] 209 19 _ ⟨upd (argDrop [Operand.tmp 210,Operand.const (Value.string ByteArray.empty),Operand.tmp 212,Operand.tmp 215] [AV.i .i64 n,.s ByteArray.empty,.i .i64 w,.sl 1 (tups A)] t) 216 r,o'⟩
        simp only [go_sem]
        rw [← hM] at hI ⊢
        exact hI.call hd hr rfl (by decide)
       | 8,ho =>
        obtain rfl:=Option.some.inj ho
        refine ⟨rfl,OpW_run [] rfl rfl fun K' hK'=>?_⟩
        simp (maxSteps:=10000000) only [go_sem]
        (try go_ints)
        (repeat refine And.intro side ?_)
        refine hK' _ ?_
        exact hI.alloc hd rfl (by decide)
       | 9,ho =>
        obtain rfl:=Option.some.inj ho
        obtain ⟨j,id,b1,b2,b3,hI2⟩:=hI.pair (hdep 7 (by decide +kernel)) (hdep 8 (by decide +kernel)) hd
        refine ⟨rfl,OpW_run [] rfl rfl fun K' hK'=>?_⟩
        unfold zTab at b3
        simp (maxSteps:=10000000) only [go_sem,b1,(show t 216 = _ from b2),b3]
        (try go_ints)
        (repeat refine And.intro side ?_)
        refine hK' _ ?_
        exact hI2
       | n + 10,ho=>simp at ho
     ·intro d x hd hI
      obtain ⟨t,o43⟩:=x
      obtain ⟨j1,id1,z1,z2,z3,z4,z5,z6⟩:=hI.k9 (hd 9 (by decide))
      have e2 : t 2 = .ptr 0 0 0:=hI.ext (2,.ptr 0 0 0) (by simp)
      have e3 : t 3 = .ptr 1 0 0:=hI.ext (3,.ptr 1 0 0) (by simp)
      have e5 : t 5 = .sl 1 (kid3 [A,B]):=hI.ext (5,.sl 1 (kid3 [A,B])) (by simp)
      have x0:=hI.pre 0 _ rfl
      have x1:=hI.pre 1 _ rfl
      have xok : okO o43 = true:=hI.ok
      simp only at z1 z5 z6 x0 x1
      clear hI hd d
      change W Tryz.prog 248 _ _ _
      refine W_tab [(2,.ptr 0 0 0),(3,.ptr 1 0 0),(5,.sl 1 (kid3 [A,B])),(19,.ptr j1 0 0)] (fun y hy=>?_) ?_
      ·simp only [List.mem_cons,List.not_mem_nil,or_false] at hy
       rcases hy with rfl | rfl | rfl | rfl
       all_goals (simp only [e2,e3,e5,z1];exact Le.refl _)
      clear e2 e3 e5 z1 t
      repeat (first | refine nav ?_ | refine bo ?_)
      refine W_drawInv (by decide +kernel) (fun d x=>ITab [(2,.ptr 0 0 0),(3,.ptr 1 0 0),(5,.sl 1 (kid3 [A,B])),(19,.ptr j1 0 0)] o43 M ByteArray.empty w (hasF n w fun t=>decide (t ∈ B)) [.ptr 1 0 0,.i .i64 n,.agg [AV.i .i64 (7),AV.i .i64 p.width,AV.i .i64 p.i,AV.i .i64 p.j,AV.s p.name,AV.sl 1 (ints p.cols),AV.sl 7 (plans p.kids)],.i .i64 w,.sl 1 (kid3 [A,B]),.ep [.sl 1 (tups B)] 0,.sl 1 (tups B)] 217 20 d x) (by decide +kernel) ?_ ?_ ?_
      ·refine ITab.init (fun y hy=>?_) xok
       simp only [List.mem_cons,List.not_mem_nil,or_false] at hy
       rcases hy with rfl | rfl | rfl | rfl | rfl<;>simp only [go_sem]
      ·intro d x i o ho hd hdep hI
       obtain ⟨t,ob⟩:=x
       have e2 : t 2 = .ptr 0 0 0:=hI.ext (2,.ptr 0 0 0) (by simp)
       have e3 : t 3 = .ptr 1 0 0:=hI.ext (3,.ptr 1 0 0) (by simp)
       have e5 : t 5 = .sl 1 (kid3 [A,B]):=hI.ext (5,.sl 1 (kid3 [A,B])) (by simp)
       have y0:=hI.pre 0 _ x0
       have y1:=hI.pre 1 _ x1
       have hobok : okO ob = true:=hI.ok
       simp only at y0 y1
       match i,ho with
        | 0,ho =>
         obtain rfl:=Option.some.inj ho
         refine ⟨rfl,OpW_run [] rfl rfl fun K' hK'=>?_⟩
         simp (maxSteps:=10000000) only [go_sem,e3]
         (try go_ints)
         (repeat refine And.intro side ?_)
         refine hK' _ ?_
         exact hI.quiet 0 (by decide) rfl (by decide)
        | 1,ho =>
         obtain rfl:=Option.some.inj ho
         refine ⟨rfl,OpW_run [] rfl rfl fun K' hK'=>?_⟩
         simp (maxSteps:=10000000) only [go_sem,(show t 217 = _ from hI.v 0 (by decide) (hdep 0 (by decide +kernel))),y1]
         (try go_ints)
         (repeat refine And.intro side ?_)
         refine hK' _ ?_
         exact hI.quiet 1 (by decide) rfl (by decide)
        | 2,ho =>
         obtain rfl:=Option.some.inj ho
         refine ⟨rfl,OpW_run [] rfl rfl fun K' hK'=>?_⟩
         simp (maxSteps:=10000000) only [go_sem,e2,y0]
         (try go_ints)
         (repeat refine And.intro side ?_)
         refine hK' _ ?_
         exact hI.quiet 2 (by decide) rfl (by decide)
        | 3,ho =>
         obtain rfl:=Option.some.inj ho
         have a2 : t 219 = .agg [AV.i .i64 (7),AV.i .i64 p.width,AV.i .i64 p.i,AV.i .i64 p.j,AV.s p.name,AV.sl 1 (ints p.cols),AV.sl 7 (plans p.kids)]:=hI.v 2 (by decide) (hdep 2 (by decide +kernel))
         refine ⟨rfl,OpW_data (CallD.all rfl rfl rfl (hwsp.frame rfl rfl ob) rfl rfl (Nat.le_refl _) (by show LeA (argVals [Operand.tmp 219] [AV.agg [AV.i .i64 (7),AV.i .i64 p.width,AV.i .i64 p.i,AV.i .i64 p.j,AV.s p.name,AV.sl 1 (ints p.cols),AV.sl 7 (plans p.kids)]] t ++ []) [AV.agg [AV.i .i64 (7),AV.i .i64 p.width,AV.i .i64 p.i,AV.i .i64 p.j,AV.s p.name,AV.sl 1 (ints p.cols),AV.sl 7 (plans p.kids)]];simp only [go_sem,a2]) hobok (by simp [AV.ltk,AV.ltks]) rfl) ?_⟩
         show ITab [(2,.ptr 0 0 0),(3,.ptr 1 0 0),(5,.sl 1 (kid3 [A,B])),(19,.ptr j1 0 0)] o43 M ByteArray.empty w (hasF n w fun t=>decide (t ∈ B)) [.ptr 1 0 0,.i .i64 n,.agg [AV.i .i64 (7),AV.i .i64 p.width,AV.i .i64 p.i,AV.i .i64 p.j,AV.s p.name,AV.sl 1 (ints p.cols),AV.sl 7 (plans p.kids)],.i .i64 w,.sl 1 (kid3 [A,B]),.ep [.sl 1 (tups B)] 0,.sl 1 (tups B)] 217 20 _ ⟨upd (argDrop [Operand.tmp 219] [AV.agg [AV.i .i64 (7),AV.i .i64 p.width,AV.i .i64 p.i,AV.i .i64 p.j,AV.s p.name,AV.sl 1 (ints p.cols),AV.sl 7 (plans p.kids)]] t) 220 _,ob⟩
         simp only [go_sem]
         exact hI.quiet 3 (by decide) rfl (by decide)
        | 4,ho =>
         obtain rfl:=Option.some.inj ho
         refine ⟨rfl,OpW_run [] rfl rfl fun K' hK'=>?_⟩
         simp (maxSteps:=10000000) only [go_sem,e5]
         (try go_ints)
         (repeat refine And.intro side ?_)
         refine hK' _ ?_
         exact hI.quiet 4 (by decide) rfl (by decide)
        | 5,ho =>
         obtain rfl:=Option.some.inj ho
         refine ⟨rfl,OpW_run [] rfl rfl fun K' hK'=>?_⟩
         simp (maxSteps:=10000000) only [go_sem,(show t 221 = _ from hI.v 4 (by decide) (hdep 4 (by decide +kernel))),k1,kl]
         (try go_ints)
         (repeat refine And.intro side ?_)
         refine hK' _ ?_
         exact hI.quiet 5 (by decide) rfl (by decide)
        | 6,ho =>
         obtain rfl:=Option.some.inj ho
         refine ⟨rfl,OpW_run [] rfl rfl fun K' hK'=>?_⟩
         simp (maxSteps:=10000000) only [go_sem,(show t 222 = _ from hI.v 5 (by decide) (hdep 5 (by decide +kernel)))]
         (try go_ints)
         (repeat refine And.intro side ?_)
         refine hK' _ ?_
         exact hI.quiet 6 (by decide) rfl (by decide)
        | 7,ho =>
         obtain rfl:=Option.some.inj ho
         have a1 : t 218 = .i .i64 n:=hI.v 1 (by decide) (hdep 1 (by decide +kernel))
         have a3 : t 220 = .i .i64 w:=hI.v 3 (by decide) (hdep 3 (by decide +kernel))
         have a6 : t 223 = .sl 1 (tups B):=hI.v 6 (by decide) (hdep 6 (by decide +kernel))
         refine ⟨rfl,OpW_callE (caps:=[]) rfl rfl rfl (htabB hobok) (fun r o' hh=>hh.shape) rfl rfl (Nat.le_refl _) (by show LeA (argVals [Operand.tmp 218,Operand.const (Value.string ByteArray.empty),Operand.tmp 220,Operand.tmp 223] [AV.i .i64 n,.s ByteArray.empty,.i .i64 w,.sl 1 (tups B)] t ++ []) [AV.i .i64 n,.s ByteArray.empty,.i .i64 w,.sl 1 (tups B)];simp only [go_sem,a1,a3,a6]) hobok (by rfl) ?_⟩
         intro r o' hr
         show ITab [(2,.ptr 0 0 0),(3,.ptr 1 0 0),(5,.sl 1 (kid3 [A,B])),(19,.ptr j1 0 0)] o43 M ByteArray.empty w (hasF n w fun t=>decide (t ∈ B)) [.ptr 1 0 0,.i .i64 n,.agg [AV.i .i64 (7),AV.i .i64 p.width,AV.i .i64 p.i,AV.i .i64 p.j,AV.s p.name,AV.sl 1 (ints p.cols),AV.sl 7 (plans p.kids)],.i .i64 w,.sl 1 (kid3 [A,B]),.ep [.sl 1 (tups B)] 0,.sl 1 (tups B)] 217 20 _ ⟨upd (argDrop [Operand.tmp 218,Operand.const (Value.string ByteArray.empty),Operand.tmp 220,Operand.tmp 223] [AV.i .i64 n,.s ByteArray.empty,.i .i64 w,.sl 1 (tups B)] t) 224 r,o'⟩
         simp only [go_sem]
         rw [← hM] at hI ⊢
         exact hI.call hd hr rfl (by decide)
        | 8,ho =>
         obtain rfl:=Option.some.inj ho
         refine ⟨rfl,OpW_run [] rfl rfl fun K' hK'=>?_⟩
         simp (maxSteps:=10000000) only [go_sem]
         (try go_ints)
         (repeat refine And.intro side ?_)
         refine hK' _ ?_
         exact hI.alloc hd rfl (by decide)
        | 9,ho =>
         obtain rfl:=Option.some.inj ho
         obtain ⟨j,id,b1,b2,b3,hI2⟩:=hI.pair (hdep 7 (by decide +kernel)) (hdep 8 (by decide +kernel)) hd
         refine ⟨rfl,OpW_run [] rfl rfl fun K' hK'=>?_⟩
         unfold zTab at b3
         simp (maxSteps:=10000000) only [go_sem,b1,(show t 224 = _ from b2),b3]
         (try go_ints)
         (repeat refine And.intro side ?_)
         refine hK' _ ?_
         exact hI2
        | n + 10,ho=>simp at ho
      ·intro d x hd hI
       obtain ⟨t,o44⟩:=x
       obtain ⟨j2,id2,q1,q2,q3,q4,q5,q6⟩:=hI.k9 (hd 9 (by decide))
       have e2 : t 2 = .ptr 0 0 0:=hI.ext (2,.ptr 0 0 0) (by simp)
       have e3 : t 3 = .ptr 1 0 0:=hI.ext (3,.ptr 1 0 0) (by simp)
       have e19 : t 19 = .ptr j1 0 0:=hI.ext (19,.ptr j1 0 0) (by simp)
       have u0:=hI.pre 0 _ x0
       have u1:=hI.pre 1 _ x1
       have uj1:=hI.pre j1 _ z5
       have ui1:=hI.pre id1 _ z6
       have uok : okO o44 = true:=hI.ok
       have hlj1:=(List.getElem?_eq_some_iff.1 z5).1
       have hli1:=(List.getElem?_eq_some_iff.1 z6).1
       simp only at q1 q5 q6 u0 u1 uj1 ui1
       clear hI hd d
       have z2' : 2 ≤ j1:=z2
       have z3' : 2 ≤ id1:=z3
       change W Tryz.prog 248 _ _ _
       refine W_tab [(2,.ptr 0 0 0),(3,.ptr 1 0 0),(19,.ptr j1 0 0),(20,.ptr j2 0 0)] (fun y hy=>?_) ?_
       ·simp only [List.mem_cons,List.not_mem_nil,or_false] at hy
        rcases hy with rfl | rfl | rfl | rfl
        all_goals (simp only [e2,e3,e19,q1];exact Le.refl _)
       clear e2 e3 e19 q1 t x0 x1 z5 z6 xok
       have hcb:=comb_zero (hasF n w fun t=>decide (t ∈ A)) (hasF n w fun t=>decide (t ∈ B)) false
       rw [← hcb] at ui1
       repeat (first | refine nav ?_ | refine bo ?_)
       (refine wr fun K R hK hR=>?_;simp only [go_sem];(try go_ints);(repeat refine And.intro side ?_);(first|refine hK _ ?_|refine hR _ _ ?_);clear hK hR K R)
       repeat (first | refine nav ?_ | refine bo ?_)
       refine W_for 225 244 [21] (fun m t o=>∃ i : Nat,okO o = true ∧ o[0]? = some (Ob.cells 7 [[AV.i .i64 (7),AV.i .i64 p.width,AV.i .i64 p.i,AV.i .i64 p.j,AV.s p.name,AV.sl 1 (ints p.cols),AV.sl 7 (plans p.kids)]]) ∧ o[1]? = some (Ob.cells 2 [[AV.i .i64 (n : Int),AV.sl 3 (rels s.rels)]]) ∧ o[j1]? = some (Ob.cells 3 [[AV.s ByteArray.empty,AV.i IntKind.i64 w,AV.ref id1 0 M]]) ∧ o[j2]? = some (Ob.cells 3 [[AV.s ByteArray.empty,AV.i IntKind.i64 w,AV.ref id2 0 M]]) ∧ o[id1]? = some (.cells 1 (bools (combL false (hasF n w fun t=>decide (t ∈ A)) (hasF n w fun t=>decide (t ∈ B)) i))) ∧ o[id2]? = some (.cells 1 (bools (hasF n w fun t=>decide (t ∈ B)))) ∧ t 21 = .i .i64 i ∧ m = M - i ∧ i ≤ M) M ⟨0,uok,u0,u1,uj1,q5,ui1,q6,by simp only [go_sem]<;>rfl,by omega,by omega⟩ ?_
       clear uok u0 u1 uj1 ui1 q5 q6 hcb
       rintro m t o ⟨i,uok,u0,u1,uj1,uj2,ui1,ui2,h21,rfl,hi⟩
       have hlA:=hlen fun t=>decide (t ∈ A)
       have hlB:=hlen fun t=>decide (t ∈ B)
       have hlc:=combL_len false (hlA.trans hlB.symm) i
       rw [hlA] at hlc
       repeat (first | refine nav ?_ | refine bo ?_)
       (refine wr fun K R hK hR=>?_;simp only [go_sem,h21,uj1];(try go_ints);(try simp only [go_sem,h21,uj1]);(repeat refine And.intro side ?_);(first|refine hK _ ?_|refine hR _ _ ?_);clear hK hR K R)
       repeat (first | refine nav ?_ | refine bo ?_)
       refine W_cond (by simp only [go_sem]<;>exact rfl) (fun hb=>?_) (fun hb=>?_)
       ·have hb1 : i < M:=by simpa using hb
        obtain ⟨x,hx⟩ : ∃ x,(hasF n w fun t=>decide (t ∈ B))[i]? = some x:=⟨_,List.getElem?_eq_getElem (by omega)⟩
        obtain ⟨y,hy⟩ : ∃ y,(combL false (hasF n w fun t=>decide (t ∈ A)) (hasF n w fun t=>decide (t ∈ B)) i)[i]? = some y:=⟨_,List.getElem?_eq_getElem (by omega)⟩
        have hstep:=combL_step false (hlA.trans hlB.symm) hx
        obtain ⟨C,hC⟩ : ∃ C,C = combL false (hasF n w fun t=>decide (t ∈ A)) (hasF n w fun t=>decide (t ∈ B)) i:=⟨_,rfl⟩
        rw [← hC] at hy hstep hlc ui1
        repeat (first | refine nav ?_ | refine bo ?_)
        (refine wr fun K R hK hR=>?_;simp only [go_sem,h21,uj2,ui2,bools_get hx,bools_len,hlB];(try go_ints);(try simp only [go_sem,h21,uj2,ui2,bools_get hx,bools_len,hlB]);(repeat refine And.intro side ?_);(first|refine hK _ ?_|refine hR _ _ ?_);clear hK hR K R)
        repeat (first | refine nav ?_ | refine bo ?_)
        refine W_cond (b:=x) (by simp only [go_sem]) (fun hc=>?_) (fun hc=>?_)
        ·rw [if_pos hc] at hstep
         repeat (first | refine nav ?_ | refine bo ?_)
         (refine wr fun K R hK hR=>?_;simp only [go_sem,h21,u0,uj1,ui1,bools_get hy,bools_len,hlc,bools_set];(try go_ints);(try simp only [go_sem,h21,u0,uj1,ui1,bools_get hy,bools_len,hlc,bools_set]);(repeat refine And.intro side ?_);(first|refine hK _ ?_|refine hR _ _ ?_);clear hK hR K R)
         repeat (first | refine nav ?_ | refine bo ?_)
         (refine wr fun K R hK hR=>?_;simp only [go_sem,h21];(try go_ints);(try simp only [go_sem,h21]);(repeat refine And.intro side ?_);(first|refine hK _ ?_|refine hR _ _ ?_);clear hK hR K R)
         refine forQ_normal (M - (i + 1)) (by omega) ⟨i + 1,okO_set' uok (bools_ltk _ _),?_,?_,?_,?_,?_,?_,by simp only [go_sem]<;>rfl,rfl,hb1⟩
         ·rw [List.getElem?_set_ne (by omega)];exact u0
         ·rw [List.getElem?_set_ne (by omega)];exact u1
         ·rw [List.getElem?_set_ne (by omega)];exact uj1
         ·rw [List.getElem?_set_ne (by omega)];exact uj2
         ·rw [List.getElem?_set_self (List.getElem?_eq_some_iff.1 ui1).1,← hstep]
         ·rw [List.getElem?_set_ne (by omega)];exact ui2
        ·rw [if_neg (by rw [hc];decide)] at hstep
         repeat (first | refine nav ?_ | refine bo ?_)
         (refine wr fun K R hK hR=>?_;simp only [go_sem,h21];(try go_ints);(try simp only [go_sem,h21]);(repeat refine And.intro side ?_);(first|refine hK _ ?_|refine hR _ _ ?_);clear hK hR K R)
         refine forQ_normal (M - (i + 1)) (by omega) ⟨i + 1,uok,u0,u1,uj1,uj2,by rw [← hstep];exact ui1,ui2,by simp only [go_sem]<;>rfl,rfl,hb1⟩
       ·simp at hb
        obtain hie : i = M:=by omega
        have hfull:=combL_full false (hlA.trans hlB.symm) (i:=i) (by omega)
        rw [hfull] at ui1
        rw [show (List.zipWith (fun x u=>if u = true then false else x) (hasF n w fun t=>decide (t ∈ A)) (hasF n w fun t=>decide (t ∈ B))) = hasF n w fun t=>decide (t ∈ A) && !decide (t ∈ B) from by
         rw [hasF_zip]
         unfold hasF
         refine List.map_congr_left fun t _=>?_
         by_cases ha : t ∈ A<;>by_cases hbb : t ∈ B<;>simp [ha,hbb]] at ui1
        repeat (first | refine nav ?_ | refine bo ?_)
        refine W_frz id1 uok ui1 (bools_plain _) fun o3 v1 v2 v3 v4=>?_
        rw [bools_dat] at v3 v4 ⊢
        have w1:=v3 1 _ (by omega) u1
        have wJ:=v3 j1 _ (by omega) uj1
        rw [tabO_unref (hlen _)] at wJ
        have w1' : o3[1]? = some (Ob.cells 2 [[AV.i .i64 (n : Int),AV.sl 3 (rels s.rels)]]):=by rw [w1];simp [Ob.unref,AV.unref]
        clear w1
        refine W_tab [(3,.ptr 1 0 0),(19,.ptr j1 0 0)] (fun y hy=>?_) ?_
        ·simp only [List.mem_cons,List.not_mem_nil,or_false] at hy
         rcases hy with rfl | rfl
         all_goals (simp only [go_sem,AV.unref]<;>exact Le.refl _)
        (refine wr fun K R hK hR=>?_;simp only [go_sem,wJ,w1'];(try go_ints);(try simp only [go_sem,wJ,w1']);(repeat refine And.intro side ?_);(first|refine hK _ ?_|refine hR _ _ ?_);clear hK hR K R)
        refine RL_callF (hlist _) rfl rfl rfl (by first | (simp only [go_sem]<;>first | exact LeA.refl _ | exact Le.refl _) | exact LeA.refl _) rfl rfl ?_
        (refine rr fun K R hK hR=>?_;simp only [go_sem];(try go_ints);(repeat refine And.intro side ?_);(first|refine hK _ ?_|refine hR _ _ ?_);clear hK hR K R)
        repeat (first | refine nav ?_ | refine bo ?_)
        refine endQ_data (by simp only [go_sem]<;>exact rfl) (Le.of_eq ?_) rfl
        rfl
end Go.AW
namespace Go.AW
open Go Go.Proofs TyTryz Go.IntWalk
set_option linter.unusedSimpArgs false
set_option linter.unusedVariables false
set_option maxRecDepth 10000
set_option maxHeartbeats 2000000
theorem idxI_neg {α : Type} (p : α → Bool) : ∀ (l : List α) (k : Nat),decide (idxI p l k < 0) = !l.any p
 | [],k=>by simp [idxI]
 | x :: l,k=>by
  have ih:=idxI_neg p l (k + 1)
  rw [Int.natCast_add,Int.natCast_one] at ih
  rw [idxI,List.any_cons]
  by_cases h : p x = true
  ·rw [if_pos h,h,decide_eq_false (by omega)];rfl
  ·rw [if_neg h,ih]
   simp [h]
theorem findF_neg (s : StrD) (nm : ByteArray) (w : Int) : decide (findF s nm w < 0) = !(s.rels.any fun q=>q.name.toList == nm.toList && (q.arity == w)):=idxI_neg _ s.rels 0
theorem fits_named {s : StrD} {p : PlanD} (h : fitsF (symsF p) s = true) : Named s p:=by
 intro x hx
 unfold fitsF at h
 have h1:=List.all_eq_true.1 h x hx
 have h2:=findF_neg s x.1 x.2
 rw [h1] at h2
 simpa using h2
def okRun (p : PlanD) (s : StrD) : Bool:=validR p && validF s && fitsF (symsF p) s && !largeB s.size.toNat p
theorem okRun_iff (p : PlanD) (s : StrD) : okRun p s = true ↔ checkF p s = 0:=by
 unfold okRun checkF largeB
 cases validR p<;>cases validF s<;>cases fitsF (symsF p) s<;>simp
structure Fine (p : PlanD) (s : StrD) (n : Nat) : Prop where
 size : s.size = n
 n1 : 1 ≤ n
 n2 : n ≤ 64
 r8 : s.rels.length ≤ 8
 rel : ∀ r ∈ s.rels,relOk n r = true
 w0 : 0 ≤ widthR p
 named : Named s p
 small : largeB n p = false
theorem okRun_fine {p : PlanD} {s : StrD} (h : okRun p s = true) : ∃ n,Fine p s n:=by
 simp only [okRun,Bool.and_eq_true,Bool.not_eq_true'] at h
 obtain ⟨⟨⟨h1,h2⟩,h3⟩,h4⟩:=h
 obtain ⟨n,e1,e2,e3,e4,e5⟩:=valid_size h2
 rw [e1,Int.toNat_natCast] at h4
 refine ⟨n,e1,e2,e3,e4,e5,?_,fits_named h3,h4⟩
 unfold validR at h1;simp at h1;omega
theorem Fine.tab {p : PlanD} {s : StrD} {n : Nat} (h : Fine p s n) : Tab n (widthR p).toNat (valF s p):=val_tab h.size h.n1 h.rel p h.w0 h.named
theorem Fine.len {p : PlanD} {s : StrD} {n : Nat} (h : Fine p s n) : (valF s p).length ≤ 4096:=by
 have h1:=h.tab.len h.n1
 have h2:=(big_kid h.n1 h.small).1
 omega
def cheapF (p : PlanD) (s : StrD) (most : Nat) : Bool :=
 if (!decide (weighF p 0 300 ≤ 300) || !fewS s) = true then false else if (!validR p || !validF s) = true then true
 else decide (pow2 s.size (widestF p).toNat 1 ≤ most) || decide (4096 < pow2 s.size (widestF p).toNat 1)
theorem cheap_spec (p : PlanD) (hp : p.Ok) (s : StrD) (hs : s.Wide) (most : Nat) : ACallsD Tryz.prog 5 [.agg p.cells,.agg s.cells,.i .i64 most] (.b (cheapF p s most)):=by
 have hfew:=few_spec p hp 300 (by decide)
 have hpl : plans [p] = [p.cells]:=rfl
 rw [hpl] at hfew
 have hlf:=lfew_spec s hs
 have hrv:=rvalid_spec p hp
 have hsv:=fun h=>rsvalid_spec s (fewS_ok h).1
 have hws:=widest_spec p hp
 have hcnt:=weighF_cnt p 0 300
 have hwb:=widest_bd p
 rw [p.cells_eq] at hfew hrv hws ⊢
 unfold StrD.cells
 refine ACalls_of' (n:=38) (rs:=[.tmp 6]) (show Tryz.prog.funcs[5]? = some Tryz.f5 by kernel_rfl) rfl rfl rfl (by simp) (by decide +kernel) ?_
 repeat (first | refine nav ?_ | refine bo ?_)
 (refine wr fun K R hK hR=>?_;simp only [go_sem];(try go_ints);(repeat refine And.intro side ?_);(first|refine hK _ ?_|refine hR _ _ ?_);clear hK hR K R)
 repeat (first | refine nav ?_ | refine bo ?_)
 (refine wr fun K R hK hR=>?_;simp only [go_sem];(try go_ints);(repeat refine And.intro side ?_);(first|refine hK _ ?_|refine hR _ _ ?_);clear hK hR K R)
 refine RL_callF (hfew) rfl rfl rfl (by first | (simp only [go_sem]<;>first | exact LeA.refl _ | exact Le.refl _) | exact LeA.refl _) rfl rfl ?_
 (refine rr fun K R hK hR=>?_;simp only [go_sem];(try go_ints);(repeat refine And.intro side ?_);(first|refine hK _ ?_|refine hR _ _ ?_);clear hK hR K R)
 refine RL_callDg rfl (by simp only [go_sem]<;>exact rfl) (fun e=>hlf) rfl rfl rfl (fun e=>by (try simp only [go_sem] at e);simp only [go_sem,e]<;>(try simp only [go_sem])<;>first | exact LeA.refl _ | exact Le.refl _) rfl rfl ?_
 (refine rr fun K R hK hR=>?_;simp only [go_sem];(try go_ints);(repeat refine And.intro side ?_);(first|refine hK _ ?_|refine hR _ _ ?_);clear hK hR K R)
 repeat (first | refine nav ?_ | refine bo ?_)
 refine W_cond (b:=!decide (weighF p 0 300 ≤ 300) || !fewS s) (by simp only [go_sem]) (fun hb=>?_) (fun hb=>?_)
 ·have : cheapF p s most = false:=by unfold cheapF;rw [if_pos hb]
  rw [this]
  repeat (first | refine nav ?_ | refine bo ?_)
  (refine wr fun K R hK hR=>?_;simp only [go_sem];(try go_ints);(repeat refine And.intro side ?_);(first|refine hK _ ?_|refine hR _ _ ?_);clear hK hR K R)
  repeat (first | refine nav ?_ | refine bo ?_)
  refine endQ_data (by simp only [go_sem]<;>exact rfl) (Le.of_eq ?_) rfl
  rfl
 ·have hck : cheapF p s most = if (!validR p || !validF s) = true then true else decide (pow2 s.size (widestF p).toNat 1 ≤ most) || decide (4096 < pow2 s.size (widestF p).toNat 1):=by unfold cheapF;rw [if_neg (by simp [hb])]
  have hw3 : weighF p 0 300 ≤ 300:=by simp only [Bool.or_eq_false_iff] at hb;simpa using hb.1
  have hc:=hcnt hw3
  have hfw : fewS s = true:=by simp only [Bool.or_eq_false_iff] at hb;simpa using hb.2
  replace hsv:=hsv hfw
  replace hrv:=hrv (by omega)
  replace hws:=hws (by omega)
  rw [hck]
  repeat (first | refine nav ?_ | refine bo ?_)
  (refine wr fun K R hK hR=>?_;simp only [go_sem];(try go_ints);(repeat refine And.intro side ?_);(first|refine hK _ ?_|refine hR _ _ ?_);clear hK hR K R)
  refine RL_callF (hrv) rfl rfl rfl (by first | (simp only [go_sem]<;>first | exact LeA.refl _ | exact Le.refl _) | exact LeA.refl _) rfl rfl ?_
  (refine rr fun K R hK hR=>?_;simp only [go_sem];(try go_ints);(repeat refine And.intro side ?_);(first|refine hK _ ?_|refine hR _ _ ?_);clear hK hR K R)
  refine RL_callDg rfl (by simp only [go_sem]<;>exact rfl) (fun e=>hsv) rfl rfl rfl (fun e=>by (try simp only [go_sem] at e);simp only [go_sem,e]<;>(try simp only [go_sem])<;>first | exact LeA.refl _ | exact Le.refl _) rfl rfl ?_
  (refine rr fun K R hK hR=>?_;simp only [go_sem];(try go_ints);(repeat refine And.intro side ?_);(first|refine hK _ ?_|refine hR _ _ ?_);clear hK hR K R)
  repeat (first | refine nav ?_ | refine bo ?_)
  refine W_cond (b:=!validR p || !validF s) (by simp only [go_sem]) (fun hb=>?_) (fun hb=>?_)
  ·rw [if_pos hb]
   repeat (first | refine nav ?_ | refine bo ?_)
   (refine wr fun K R hK hR=>?_;simp only [go_sem];(try go_ints);(repeat refine And.intro side ?_);(first|refine hK _ ?_|refine hR _ _ ?_);clear hK hR K R)
   repeat (first | refine nav ?_ | refine bo ?_)
   refine endQ_data (by simp only [go_sem]<;>exact rfl) (Le.of_eq ?_) rfl
   rfl
  ·rw [if_neg (by simp [hb])]
   have hv1 : validR p = true:=by cases h : validR p<;>simp_all
   have hv2 : validF s = true:=by cases h : validF s<;>simp_all
   obtain ⟨n,hn,hn1,hn2,_,_⟩:=valid_size hv2
   have hw0 : 0 ≤ widthR p:=by unfold validR at hv1;simp at hv1;omega
   obtain ⟨w,hw⟩ : ∃ w : Nat,widestF p = w:=⟨(widestF p).toNat,by omega⟩
   have hps:=pow_spec n w (by omega) (by omega) (by omega) (by omega)
   rw [hw] at hws ⊢
   rw [hn]
   repeat (first | refine nav ?_ | refine bo ?_)
   (refine W_dreg (by decide +kernel) [] [0,1,2,3,4,5] [[],[0],[],[2],[2,3,0,1],[1,0,3,2,4]] (by decide +kernel) rfl fun K R hK hR=>?_;simp only [List.filterMap_cons,List.filterMap_nil,List.getElem?_cons_zero,List.getElem?_cons_succ,List.cons_append,List.nil_append];simp only [go_sem];(try go_ints);(repeat refine And.intro side ?_);(first|refine hK _ ?_|refine hR _ _ ?_);clear hK hR K R)
   refine D_callD (hws) rfl rfl rfl (by first | (simp only [go_sem]<;>first | exact LeA.refl _ | exact Le.refl _) | exact LeA.refl _) rfl rfl rfl rfl ?_
   (refine D_reg fun K R hK hR=>?_;simp only [go_sem];(try go_ints);(repeat refine And.intro side ?_);(first|refine hK _ ?_|refine hR _ _ ?_);clear hK hR K R)
   refine D_callD (hps) rfl rfl rfl (by first | (simp only [go_sem]<;>first | exact LeA.refl _ | exact Le.refl _) | exact LeA.refl _) rfl rfl rfl rfl ?_
   (refine D_reg fun K R hK hR=>?_;simp only [go_sem];(try go_ints);(repeat refine And.intro side ?_);(first|refine hK _ ?_|refine hR _ _ ?_);clear hK hR K R)
   repeat (first | refine nav ?_ | refine bo ?_)
   (refine wr fun K R hK hR=>?_;simp only [go_sem];(try go_ints);(repeat refine And.intro side ?_);(first|refine hK _ ?_|refine hR _ _ ?_);clear hK hR K R)
   repeat (first | refine nav ?_ | refine bo ?_)
   refine endQ_data (by simp only [go_sem]<;>exact rfl) (Le.of_eq ?_) rfl
   rfl
end Go.AW
namespace Go.AW
open Go Go.Proofs TyTryz Go.IntWalk
set_option linter.unusedSimpArgs false
set_option linter.unusedVariables false
set_option maxRecDepth 100000
set_option maxHeartbeats 1000000
def nmE : ByteArray:=⟨#[69]⟩
def sA : StrD:=⟨3,[⟨nmE,2,[[0,1],[1,2]]⟩]⟩
def pE : PlanD:=.mk 0 2 0 0 nmE [] []
def pJ : PlanD:=.mk 4 0 0 0 ⟨#[]⟩ [] [pE,pE]
def pS : PlanD:=.mk 2 0 1 2 ⟨#[]⟩ [] [pJ]
def pP : PlanD:=.mk 5 0 0 0 ⟨#[]⟩ [0,3] [pS]
theorem find_run : ACallsD Tryz.prog 31 [.agg sA.cells,.s nmE,.i .i64 2] (.i .i64 0):=run0 (k:=60) (by kernel_rfl)
theorem svalid_run : ACallsD Tryz.prog 30 [.agg sA.cells] (.b true):=run0 (k:=200) (by kernel_rfl)
theorem large_run : ACallsD Tryz.prog 32 [.agg pP.cells,.i .i64 3] (.b false):=run0 (k:=200) (by kernel_rfl)
theorem clone_run : ACallsD Tryz.prog 35 [.sl 1 (ints [0,2])] (.sl 1 (ints [0,2])):=(run0 (r:=.own 1 (ints [0,2])) (k:=60) (by kernel_rfl)).le (Le.dat _ _)
def jRows : List (List Int):=[[0,1,0,1],[0,1,1,2],[1,2,0,1],[1,2,1,2]]
theorem pick_run : ACallsD Tryz.prog 58 [.any,.agg pS.cells,.sl 1 (kid3 [jRows])] (.sl 1 (tups [[0,1,1,2]])):=run0 (k:=100) (by kernel_rfl)
theorem walk_run : walkF pP 1 0 [] = some (2,5,[(nmE,2)]):=by kernel_rfl
theorem runs_E : Runs sA pE [[0,1],[1,2]]:=by
 refine run_step sA pE [] _ (by decide) (by decide) rfl (fun i x l h=>by cases h) ?_
 exact rel_spec (k:=0) (r:=⟨nmE,2,[[0,1],[1,2]]⟩) (by decide) rfl find_run rfl
theorem runs_J : Runs sA pJ jRows:=by
 refine run_step sA pJ [[[0,1],[1,2]],[[0,1],[1,2]]] _ (by decide) (by decide) rfl (fun i x l h h2=>?_) ?_
 ·match i,h,h2 with
  | 0,h,h2=>cases h;cases h2;exact runs_E
  | 1,h,h2=>cases h;cases h2;exact runs_E
 ·exact meth_join _ _ rfl (by decide) (by decide) (by decide) (by decide) (by decide)
theorem runs_S : Runs sA pS [[0,1,1,2]]:=by
 refine run_step sA pS [jRows] _ (by decide) (by decide) rfl (fun i x l h h2=>?_) ?_
 ·match i,h,h2 with
  | 0,h,h2=>cases h;cases h2;exact runs_J
 ·exact meth_any pick_run
theorem runs_P : Runs sA pP [[0,2]]:=by
 refine run_step sA pP [[[0,1,1,2]]] _ (by decide) (by decide) rfl (fun i x l h h2=>?_) ?_
 ·match i,h,h2 with
  | 0,h,h2=>cases h;cases h2;exact runs_S
 ·exact meth_project _ _ rfl (fun _=>sorted1_spec [0,2]) (by intro h;cases h) (by decide) (by decide) (by decide) (by decide)
theorem pP_sm : pP.Sm:=sm_of_weigh (most:=1000) (by decide) pP 0 (by decide +kernel)
theorem arun_spec : ACallsD Tryz.prog 7 [.agg pP.cells,.agg sA.cells] (.tup [.sl 1 (tups [[0,2]]),.i .i64 0]):=by
 have h:=prun_spec pP pP_sm sA true (fun _ _=>0) false [[0,2]] svalid_run (fun _ w n ws h x hx=>?_) (fun _ _=>large_run) (fun _ _ _ _ _ _ _=>runs_P) (by decide) (fun x hx=>?_)
 ·rw [walk_run] at h;exact h
 ·rw [walk_run] at h
  cases h
  cases hx with
  | head=>exact find_run
  | tail _ h=>cases h
 ·cases hx with
  | head=>exact clone_run
  | tail _ h=>cases h
theorem arel_run : ACallsD Tryz.prog 27 [.s nmE,.i .i64 2] (.agg pE.cells):=run0 (k:=60) (by kernel_rfl)
theorem atwo_run : ACallsD Tryz.prog 26 [.i .i64 4,.agg pE.cells,.agg pE.cells] (.agg pJ.cells):=run0 (k:=60) (by kernel_rfl)
theorem achosen_run : ACallsD Tryz.prog 25 [.i .i64 2,.i .i64 1,.i .i64 2,.agg pJ.cells] (.agg pS.cells):=run0 (k:=60) (by kernel_rfl)
theorem aproject_run : ACallsD Tryz.prog 24 [.agg pS.cells,.sl 1 (ints [0,3])] (.agg pP.cells):=run0 (k:=60) (by kernel_rfl)
theorem aequal_run : ACallsD Tryz.prog 28 [.sl 1 (ints [0,2]),.sl 1 (ints [0,2])] (.b true):=run0 (k:=60) (by kernel_rfl)
theorem alive_spec : ACallsD Tryz.prog 6 [] (.b true):=by
 have ht : tups [[0,2]] = [[.sl 1 (ints [0,2])]]:=rfl
 refine ACalls_of' (n:=35) (rs:=[.tmp 0]) (show Tryz.prog.funcs[6]? = some Tryz.f6 by kernel_rfl) rfl rfl rfl (by simp) (by decide +kernel) ?_
 repeat (first | refine nav ?_ | refine bo ?_)
 (refine wr fun K R hK hR=>?_;simp only [go_sem];(try go_ints);(repeat refine And.intro side ?_);(first|refine hK _ ?_|refine hR _ _ ?_);clear hK hR K R)
 repeat (first | refine nav ?_ | refine bo ?_)
 (refine wr fun K R hK hR=>?_;simp only [go_sem];(try go_ints);(repeat refine And.intro side ?_);(first|refine hK _ ?_|refine hR _ _ ?_);clear hK hR K R)
 repeat (first | refine nav ?_ | refine bo ?_)
 (refine W_dreg (by decide +kernel) [] [0,1,2,3,4,5,6,7,8,9,10,11,12] [[],[0],[1,0],[0,1,2],[],[4,2,1,0,3],[],[6,3,0,1,2,4,5],[5,4,2,1,0,3,6,7],[7,6,3,0,1,2,4,5,8],[7,6,3,0,1,2,4,5,8],[8,5,4,2,1,0,3,6,7,9],[9,11,8,5,4,2,1,0,3,6,7,10]] (by decide +kernel) rfl fun K R hK hR=>?_;simp only [List.filterMap_cons,List.filterMap_nil,List.getElem?_cons_zero,List.getElem?_cons_succ,List.cons_append,List.nil_append];simp only [go_sem];(try go_ints);(repeat refine And.intro side ?_);(first|refine hK _ ?_|refine hR _ _ ?_);clear hK hR K R)
 refine D_callD (arel_run) rfl rfl rfl (by first | (simp only [go_sem]<;>first | exact LeA.refl _ | exact Le.refl _) | exact LeA.refl _) rfl rfl rfl rfl ?_
 (refine D_reg fun K R hK hR=>?_;simp only [go_sem];(try go_ints);(repeat refine And.intro side ?_);(first|refine hK _ ?_|refine hR _ _ ?_);clear hK hR K R)
 refine D_callD (arel_run) rfl rfl rfl (by first | (simp only [go_sem]<;>first | exact LeA.refl _ | exact Le.refl _) | exact LeA.refl _) rfl rfl rfl rfl ?_
 (refine D_reg fun K R hK hR=>?_;simp only [go_sem];(try go_ints);(repeat refine And.intro side ?_);(first|refine hK _ ?_|refine hR _ _ ?_);clear hK hR K R)
 refine D_callD (atwo_run) rfl rfl rfl (by first | (simp only [go_sem]<;>first | exact LeA.refl _ | exact Le.refl _) | exact LeA.refl _) rfl rfl rfl rfl ?_
 (refine D_reg fun K R hK hR=>?_;simp only [go_sem];(try go_ints);(repeat refine And.intro side ?_);(first|refine hK _ ?_|refine hR _ _ ?_);clear hK hR K R)
 refine D_callD (achosen_run) rfl rfl rfl (by first | (simp only [go_sem]<;>first | exact LeA.refl _ | exact Le.refl _) | exact LeA.refl _) rfl rfl rfl rfl ?_
 (refine D_reg fun K R hK hR=>?_;simp only [go_sem];(try go_ints);(repeat refine And.intro side ?_);(first|refine hK _ ?_|refine hR _ _ ?_);clear hK hR K R)
 refine D_callD (aproject_run) rfl rfl rfl (by first | (simp only [go_sem]<;>first | exact LeA.refl _ | exact Le.refl _) | exact LeA.refl _) rfl rfl rfl rfl ?_
 (refine D_reg fun K R hK hR=>?_;simp only [go_sem];(try go_ints);(repeat refine And.intro side ?_);(first|refine hK _ ?_|refine hR _ _ ?_);clear hK hR K R)
 refine D_callD (arun_spec) rfl rfl rfl (by first | (simp only [go_sem]<;>first | exact LeA.refl _ | exact Le.refl _) | exact LeA.refl _) rfl rfl rfl rfl ?_
 (refine D_reg fun K R hK hR=>?_;simp only [go_sem];(try go_ints);(repeat refine And.intro side ?_);(first|refine hK _ ?_|refine hR _ _ ?_);clear hK hR K R)
 repeat (first | refine nav ?_ | refine bo ?_)
 (refine wr fun K R hK hR=>?_;simp only [go_sem,ht];(try go_ints);(try simp only [go_sem,ht]);(repeat refine And.intro side ?_);(first|refine hK _ ?_|refine hR _ _ ?_);clear hK hR K R)
 refine RL_callDg rfl (by simp only [go_sem]<;>exact rfl) (fun e=>aequal_run) rfl rfl rfl (fun e=>by (try simp only [go_sem] at e);simp only [go_sem,e]<;>(try simp only [go_sem])<;>first | exact LeA.refl _ | exact Le.refl _) rfl rfl ?_
 (refine rr fun K R hK hR=>?_;simp only [go_sem];(try go_ints);(repeat refine And.intro side ?_);(first|refine hK _ ?_|refine hR _ _ ?_);clear hK hR K R)
 repeat (first | refine nav ?_ | refine bo ?_)
 refine endQ_data (by simp only [go_sem]<;>exact rfl) (Le.of_eq ?_) rfl
 rfl
end Go.AW
namespace Go.AW
open Go Go.Proofs TyTryz Go.IntWalk
set_option linter.unusedSimpArgs false
set_option linter.unusedVariables false
set_option maxRecDepth 10000
set_option maxHeartbeats 2000000
theorem rRun_spec {s : StrD} (hs : s.Ok) {p : PlanD} (hp : p.Ok) (hc : cntF p ≤ 100000) (h : checkF p s = 0) : ACallsD Tryz.prog 10 [.agg p.cells,.agg s.cells] (.sl 1 (tups (valF s p))):=by
 have hok:=(okRun_iff p s).2 h
 obtain ⟨n,hf⟩:=okRun_fine hok
 have hv : validF s = true:=by simp only [okRun,Bool.and_eq_true] at hok;exact hok.1.1.2
 have hr:=rrun_spec hs hv hf.size hf.n1 hf.n2 hf.rel p hp hc hf.w0 hf.named hf.small
 rw [p.cells_eq] at hr ⊢
 unfold StrD.cells at hr ⊢
 refine ACalls_of' (n:=8) (rs:=[.tmp 4]) (show Tryz.prog.funcs[10]? = some Tryz.f10 by kernel_rfl) rfl rfl rfl (by simp) (by decide +kernel) ?_
 repeat (first | refine nav ?_ | refine bo ?_)
 (refine wr fun K R hK hR=>?_;simp only [go_sem];(try go_ints);(repeat refine And.intro side ?_);(first|refine hK _ ?_|refine hR _ _ ?_);clear hK hR K R)
 repeat (first | refine nav ?_ | refine bo ?_)
 (refine wr fun K R hK hR=>?_;simp only [go_sem];(try go_ints);(repeat refine And.intro side ?_);(first|refine hK _ ?_|refine hR _ _ ?_);clear hK hR K R)
 refine RL_callF (hr) rfl rfl rfl (by first | (simp only [go_sem]<;>first | exact LeA.refl _ | exact Le.refl _) | exact LeA.refl _) rfl rfl ?_
 (refine rr fun K R hK hR=>?_;simp only [go_sem];(try go_ints);(repeat refine And.intro side ?_);(first|refine hK _ ?_|refine hR _ _ ?_);clear hK hR K R)
 repeat (first | refine nav ?_ | refine bo ?_)
 refine endQ_data (by simp only [go_sem]<;>exact rfl) (Le.of_eq ?_) rfl
 rfl
theorem cheap_true {p : PlanD} {s : StrD} {most : Nat} (h : cheapF p s most = true) : weighF p 0 300 ≤ 300 ∧ fewS s = true:=by
 unfold cheapF at h
 split at h
 ·cases h
 ·rename_i hb
  simp only [Bool.or_eq_true,Bool.not_eq_true',not_or,decide_eq_false_iff_not,Decidable.not_not] at hb
  exact ⟨hb.1,by simpa using hb.2⟩
end Go.AW
