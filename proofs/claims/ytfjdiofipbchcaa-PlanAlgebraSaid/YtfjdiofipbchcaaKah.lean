/-
The engine's projection: places of tuples.
-/
import Derived.Test.YtfjdiofipbchcaaKag
import Derived.Test.YtfjdiofipbchcaaKaf
namespace Go.AW
open Go Go.Proofs TyTry Go.IntWalk
set_option linter.unusedSimpArgs false
set_option linter.unusedVariables false
set_option maxRecDepth 10000
set_option maxHeartbeats 1000000
def placesF (cs : List Int) (x : List Int) : List Int:=cs.map fun c=>x.getD c.toNat 0
def placesP (cs : List Int) (x : List Int) (j : Nat) : List Int:=(placesF cs x).take j ++ List.replicate (cs.length - j) 0
theorem placesP_len (cs : List Int) (x : List Int) (j : Nat) (h : j ≤ cs.length) : (placesP cs x j).length = cs.length:=by
 simp [placesP,placesF];omega
theorem placesP_zero (cs : List Int) (x : List Int) : placesP cs x 0 = List.replicate cs.length 0:=by simp [placesP]
theorem placesP_full (cs : List Int) (x : List Int) : placesP cs x cs.length = placesF cs x:=by
 have : (placesF cs x).length = cs.length:=by simp [placesF]
 unfold placesP
 rw [← this,List.take_length];simp [this]
theorem placesP_set (cs : List Int) (x : List Int) (j : Nat) (c : Int) (h : cs[j]? = some c) : (placesP cs x j).set j (x.getD c.toNat 0) = placesP cs x (j + 1):=by
 have hj:=(List.getElem?_eq_some_iff.1 h).1
 have hf : (placesF cs x)[j]? = some (x.getD c.toNat 0):=by simp [placesF,h]
 have hl : ((placesF cs x).take j).length = j:=by simp [placesF];omega
 unfold placesP
 rw [List.set_append_right _ _ (by omega),hl,Nat.sub_self,List.take_add_one,hf,show cs.length - j = (cs.length - (j + 1)) + 1 by omega,List.replicate_succ]
 simp
theorem okO_set' {o : List Ob} {i : Nat} {x : Ob} (h : okO o = true) (hx : x.ltk o.length = true) : okO (o.set i x) = true:=by
 unfold okO at h ⊢
 rw [List.length_set,List.all_eq_true]
 rw [List.all_eq_true] at h
 intro y hy
 rcases List.mem_or_eq_of_mem_set hy with hy | rfl
 ·exact h y hy
 ·exact hx
def SortedP (l r : List (List Int)) : Prop:=∀ (oc : List Ob) (id : Nat),okO oc = true → oc[id]? = some (.cells 1 (tups l)) →
 ACalls Try.prog 75 [.ref id 0 l.length] oc fun x o'=>∃ k rows,x = .ref id 0 k ∧ o' = oc.set id (.cells 1 rows) ∧ k ≤ rows.length ∧ rows.take k = tups r ∧ (rows.all fun r=>r.all fun c=>c.dat.ltk 0 && c.dat.plain) = true ∧ okO o' = true
theorem project_spec (q : PlanD) (l r : List (List Int)) (hs0 : ACallsD Try.prog 75 [.nsl] (.sl 1 [])) (hs : l ≠ [] → SortedP (l.map (placesF q.cols)) r) (hr : l = [] → r = [])
  (hl : l.length ≤ 1000000) (hc : q.cols.length ≤ 1000000) (hll : ∀ x ∈ l,x.length ≤ 1000000) (hin : ∀ x ∈ l,∀ c ∈ q.cols,0 ≤ c ∧ c < x.length) :
  ACallsD Try.prog 61 [.any,.agg q.cells,.sl 1 (kid3 [l])] (.sl 1 (tups r)):=by
 have hq:=q.cells_eq
 rw [hq]
 have k0 : (kid3 [l]).getD 0 [] = [.sl 1 (tups l)]:=rfl
 have kl : (kid3 [l]).length = 1:=rfl
 have tl : ∀ l : List (List Int),(tups l).length = l.length:=fun l=>by simp [tups]
 have il : ∀ l : List Int,(ints l).length = l.length:=fun l=>by simp [ints]
 refine ACalls_of' (n:=48) (rs:=[.tmp 6]) (show Try.prog.funcs[61]? = some Try.f61 by kernel_rfl) rfl rfl rfl (by simp) (by decide +kernel) ?_
 repeat (first | refine nav ?_ | refine bo ?_)
 (refine wr fun K R hK hR=>?_;simp only [go_sem];(try go_ints);(repeat refine And.intro side ?_);(first|refine hK _ ?_|refine hR _ _ ?_);clear hK hR K R)
 repeat (first | refine nav ?_ | refine bo ?_)
 (refine W_reg [1000000] fun K R hK hR=>?_;simp only [go_sem];(try go_ints);(repeat refine And.intro side ?_);(first|refine hK _ ?_|refine hR _ _ ?_);clear hK hR K R)
 repeat (first | refine nav ?_ | refine bo ?_)
 (refine wr fun K R hK hR=>?_;simp only [go_sem,k0,kl,tl];(try go_ints);(try simp only [go_sem,k0,kl,tl]);(repeat refine And.intro side ?_);(first|refine hK _ ?_|refine hR _ _ ?_);clear hK hR K R)
 repeat (first | refine nav ?_ | refine bo ?_)
 refine W_weak (s':=⟨mix 17 48 [7,9,10,11,12] (tab [(7,.nsl),(17,.i .i64 0)]) (tab [(4,.ptr 0 0 0),(15,.sl 1 (tups l)),(16,.i .i64 l.length)]),[boxQ q]⟩) (tab_mix (fun x hx=>?_) (fun x hx=>?_)) rfl ?_
 ·simp only [List.mem_cons,List.not_mem_nil,or_false] at hx
  rcases hx with rfl | rfl<;>rfl
 ·simp only [List.mem_cons,List.not_mem_nil,or_false] at hx
  rcases hx with rfl | rfl | rfl<;>rfl
 refine W_forM 17 48 [7,9,10,11,12] (fun m t o=>∃ (k : Nat) (v7 : AV),okO o = true ∧ o[0]? = some (boxQ q) ∧ t 17 = .i .i64 k ∧ t 7 = v7 ∧ (v7 = .nsl ∧ k = 0 ∨ ∃ K,0 < K ∧ 0 < k ∧ v7 = .ref K 0 k ∧ o[K]? = some (.cells 1 (tups ((l.map (placesF q.cols)).take k)))) ∧ m = l.length - k ∧ k ≤ l.length) l.length ⟨0,.nsl,rfl,rfl,by simp only [go_sem]<;>rfl,by simp only [go_sem],.inl ⟨rfl,rfl⟩,by omega,by omega⟩ ?_
 rintro m t o ⟨k,v7,hok,o0,h17,h7,hv,rfl,hk⟩
 have hol : 0 < o.length:=(List.getElem?_eq_some_iff.1 o0).1
 repeat (first | refine nav ?_ | refine bo ?_)
 (refine wr fun K R hK hR=>?_;simp only [go_sem,h17];(try go_ints);(try simp only [go_sem,h17]);(repeat refine And.intro side ?_);(first|refine hK _ ?_|refine hR _ _ ?_);clear hK hR K R)
 repeat (first | refine nav ?_ | refine bo ?_)
 refine W_cond (by simp only [go_sem]<;>exact rfl) (fun hb=>?_) (fun hb=>?_)
 ·simp at hb
  have hb0 : k + 1 ≤ l.length:=hb
  obtain ⟨x,hx⟩ : ∃ x,l[k]? = some x:=⟨_,List.getElem?_eq_getElem hb⟩
  have hxm:=List.mem_of_getElem? hx
  have hxl:=hll x hxm
  have o0':=fun l=>app_get l o0
  repeat (first | refine nav ?_ | refine bo ?_)
  (refine wr fun K R hK hR=>?_;simp only [go_sem,h17,tups_get hx,tl];(try go_ints);(try simp only [go_sem,h17,tups_get hx,tl]);(repeat refine And.intro side ?_);(first|refine hK _ ?_|refine hR _ _ ?_);clear hK hR K R)
  repeat (first | refine nav ?_ | refine bo ?_)
  (refine wr fun K R hK hR=>?_;simp only [go_sem,o0,il];(try go_ints);(try simp only [go_sem,o0,il]);(repeat refine And.intro side ?_);(first|refine hK _ ?_|refine hR _ _ ?_);clear hK hR K R)
  repeat (first | refine nav ?_ | refine bo ?_)
  (refine wr fun K R hK hR=>?_;simp only [go_sem,o0',il];(try go_ints);(try simp only [go_sem,o0',il]);(repeat refine And.intro side ?_);(first|refine hK _ ?_|refine hR _ _ ?_);clear hK hR K R)
  repeat (first | refine nav ?_ | refine bo ?_)
  refine W_weak (s':=⟨tab [(4,.ptr 0 0 0),(15,.sl 1 (tups l)),(16,.i .i64 l.length),(7,v7),(17,.i .i64 k),(9,.sl 1 (ints x)),(10,.ref o.length 0 q.cols.length),(26,.sl 1 (ints q.cols)),(27,.i .i64 q.cols.length),(28,.i .i64 0)],o ++ [.cells 1 (ints (placesP q.cols x 0))]⟩) (tab_le fun y hy=>?_) ?_ ?_
  ·simp only [List.mem_cons,List.not_mem_nil,or_false] at hy
   rcases hy with rfl | rfl | rfl | rfl | rfl | rfl | rfl | rfl | rfl | rfl
   all_goals first | rfl | exact h7 | exact h17
  ·simp only [placesP_zero,ints,List.map_replicate]
  refine W_for 28 41 [11,12] (fun m t o2=>∃ j : Nat,o2 = o ++ [.cells 1 (ints (placesP q.cols x j))] ∧ t 28 = .i .i64 j ∧ m = q.cols.length - j ∧ j ≤ q.cols.length) q.cols.length ⟨0,rfl,rfl,by omega,Nat.zero_le _⟩ ?_
  rintro m t2 o2 ⟨j,rfl,h28,rfl,hj⟩
  repeat (first | refine nav ?_ | refine bo ?_)
  (refine wr fun K R hK hR=>?_;simp only [go_sem,h28];(try go_ints);(try simp only [go_sem,h28]);(repeat refine And.intro side ?_);(first|refine hK _ ?_|refine hR _ _ ?_);clear hK hR K R)
  repeat (first | refine nav ?_ | refine bo ?_)
  refine W_cond (by simp only [go_sem]<;>exact rfl) (fun hb=>?_) (fun hb=>?_)
  ·simp at hb
   obtain ⟨c,hcj⟩ : ∃ c,q.cols[j]? = some c:=⟨_,List.getElem?_eq_getElem hb⟩
   obtain ⟨c0,c1⟩:=hin x hxm c (List.mem_of_getElem? hcj)
   obtain ⟨v,hv1⟩ : ∃ v,x[c.toNat]? = some v:=⟨_,List.getElem?_eq_getElem (by omega)⟩
   have hpl:=placesP_len q.cols x j hj
   have hgv : x.getD c.toNat 0 = v:=by simp [hv1]
   repeat (first | refine nav ?_ | refine bo ?_)
   (refine wr fun K R hK hR=>?_;simp only [go_sem,h28,ints_get hcj,il];(try go_ints);(try simp only [go_sem,h28,ints_get hcj,il]);(repeat refine And.intro side ?_);(first|refine hK _ ?_|refine hR _ _ ?_);clear hK hR K R)
   repeat (first | refine nav ?_ | refine bo ?_)
   obtain ⟨z,hz⟩ : ∃ z,(placesP q.cols x j)[j]? = some z:=⟨_,List.getElem?_eq_getElem (by omega)⟩
   (refine wr fun K R hK hR=>?_;simp only [go_sem,h28,ints_get hv1,ints_get hz,il,hpl,ints_set];(try go_ints);(try simp only [go_sem,h28,ints_get hv1,ints_get hz,il,hpl,ints_set]);(repeat refine And.intro side ?_);(first|refine hK _ ?_|refine hR _ _ ?_);clear hK hR K R)
   rw [← hgv,placesP_set q.cols x j c hcj]
   repeat (first | refine nav ?_ | refine bo ?_)
   (refine wr fun K R hK hR=>?_;simp only [go_sem,h28];(try go_ints);(try simp only [go_sem,h28]);(repeat refine And.intro side ?_);(first|refine hK _ ?_|refine hR _ _ ?_);clear hK hR K R)
   refine forQ_normal (q.cols.length - (j + 1)) (by omega) ⟨j + 1,rfl,?_⟩
   ((try simp only [go_sem]);(repeat' refine And.intro ?_ ?_)<;>(try first | with_reducible rfl | omega | with_reducible assumption | (simp;done)))
  ·simp at hb
   obtain rfl : j = q.cols.length:=by omega
   rw [placesP_full]
   obtain ⟨u,hu⟩ : ∃ u,u = placesF q.cols x:=⟨_,rfl⟩
   have hul : u.length = q.cols.length:=by rw [hu];simp [placesF]
   rw [← hu]
   have hrl : (ints u).length = q.cols.length:=by rw [il,hul]
   have htk : List.take q.cols.length (ints u) = ints u:=List.take_of_length_le (by omega)
   refine W_freeze o.length (sz:=1) (rows:=ints u) (by simp) (by simp [ints,AV.dat,AV.ltk,AV.plain]) ?_
   rw [frS_last hok (by simp [ints,Function.comp_def,AV.dat])]
   have hv7 : v7.unref o.length 1 (ints u) = v7:=by
    rcases hv with ⟨rfl,_⟩ | ⟨K,hK0,hkp,rfl,hK⟩
    ·rfl
    ·have:=(List.getElem?_eq_some_iff.1 hK).1
     unfold AV.unref
     rw [if_neg (by omega)]
   refine W_weak (s':=⟨mix 17 48 [7,9,10,11,12] (tab [(7,v7),(17,.i .i64 k),(10,.sl 1 (ints u))]) (tab [(4,.ptr 0 0 0),(15,.sl 1 (tups l)),(16,.i .i64 l.length)]),o ++ [.frz 1 (ints u)]⟩) (tab_mix (fun y hy=>?_) (fun y hy=>?_)) rfl ?_
   ·simp only [List.mem_cons,List.not_mem_nil,or_false] at hy
    rcases hy with rfl | rfl | rfl
    ·simpa [mix,inL,tab] using hv7
    ·rfl
    ·simp [mix,inL,tab,upd,AV.unref,hrl,htk]
   ·simp only [List.mem_cons,List.not_mem_nil,or_false] at hy
    rcases hy with rfl | rfl | rfl<;>rfl
   have hok2 : okO (o ++ [.frz 1 (ints u)]) = true:=okO_app hok rfl
   have htk2 : ((l.map (placesF q.cols)).take (k + 1)) = (l.map (placesF q.cols)).take k ++ [u]:=by rw [List.take_add_one];simp [hx,hu]
   have hro : rowsOk false [[AV.sl 1 (ints u)]] = true:=by rfl
   rcases hv with ⟨rfl,rfl⟩ | ⟨K1,hK0,hkp,rfl,hK1⟩
   ·repeat (first | refine nav ?_ | refine bo ?_)
    (refine W_reg [1000000] fun K R hK hR=>?_;simp only [go_sem,hro];(try go_ints);(try simp only [go_sem,hro]);(repeat refine And.intro side ?_);(first|refine hK _ ?_|refine hR _ _ ?_);clear hK hR K R)
    repeat (first | refine nav ?_ | refine bo ?_)
    (refine wr fun K R hK hR=>?_;simp only [go_sem];(try go_ints);(repeat refine And.intro side ?_);(first|refine hK _ ?_|refine hR _ _ ?_);clear hK hR K R)
    refine forQ_normal (l.length - (0 + 1)) (by omega) ⟨0 + 1,.ref (o.length + 2) 0 1,okO_app hok rfl,app_get _ o0,by simp only [go_sem]<;>rfl,by simp only [go_sem],.inr ⟨o.length + 2,by omega,by omega,rfl,?_⟩,rfl,hb0⟩
    rw [List.getElem?_append_right (by omega),show o.length + 2 - o.length = 2 by omega,htk2]
    rfl
   ·have hKl:=(List.getElem?_eq_some_iff.1 hK1).1
    obtain ⟨acc,hacc⟩ : ∃ acc,acc = (l.map (placesF q.cols)).take k:=⟨_,rfl⟩
    have hal : acc.length = k:=by rw [hacc];simp;omega
    have hat : List.take k (tups acc) = tups acc:=List.take_of_length_le (by rw [tl];omega)
    rw [← hacc] at hK1 htk2
    have haa : acc.length ≤ 1000000:=by omega
    repeat (first | refine nav ?_ | refine bo ?_)
    (refine W_reg [1000000] fun K R hK hR=>?_;simp only [go_sem,hro,app_get _ hK1,tl,hat];(try go_ints);(repeat refine And.intro (by first|exact side|(simp [tups];omega)) ?_);(first|refine hK _ ?_|refine hR _ _ ?_);clear hK hR K R)
    repeat (first | refine nav ?_ | refine bo ?_)
    (refine wr fun K R hK hR=>?_;simp only [go_sem];(try go_ints);(repeat refine And.intro side ?_);(first|refine hK _ ?_|refine hR _ _ ?_);clear hK hR K R)
    refine forQ_normal (l.length - (k + 1)) (by omega) ⟨k + 1,.ref (o.length + 2) 0 (k + 1),okO_app (okO_set' (okO_app hok rfl) rfl) (by simp [Ob.ltk,tups,AV.ltk]),app_get _ (by rw [List.getElem?_set_ne (by omega)];exact app_get _ o0),by simp only [go_sem]<;>rfl,by simp only [go_sem],.inr ⟨o.length + 2,by omega,by omega,rfl,?_⟩,rfl,hb0⟩
    rw [List.getElem?_append_right (by simp),htk2]
    simp [tups]
 ·simp at hb
  obtain rfl : k = l.length:=by omega
  rcases hv with ⟨rfl,h0⟩ | ⟨K1,hK0,hkp,rfl,hK1⟩
  ·have hl0 : l = []:=List.length_eq_zero_iff.1 h0
   rw [hr hl0]
   repeat (first | refine nav ?_ | refine bo ?_)
   (refine W_reg [1000000] fun K R hK hR=>?_;simp only [go_sem,h7];(try go_ints);(try simp only [go_sem,h7]);(repeat refine And.intro side ?_);(first|refine hK _ ?_|refine hR _ _ ?_);clear hK hR K R)
   refine RL_callF (hs0) rfl rfl rfl (by first | (simp only [go_sem]<;>first | exact LeA.refl _ | exact Le.refl _) | exact LeA.refl _) rfl rfl ?_
   (refine RL_reg [1000000] fun K R hK hR=>?_;simp only [go_sem];(try go_ints);(repeat refine And.intro (by first|exact side|(omega)) ?_);(first|refine hK _ ?_|refine hR _ _ ?_);clear hK hR K R)
   repeat (first | refine nav ?_ | refine bo ?_)
   refine endQ_data (by simp only [go_sem]<;>exact rfl) (Le.of_eq ?_) rfl
   rfl
  ·rw [List.take_of_length_le (by simp)] at hK1
   have hl1 : l ≠ []:=by
    rintro rfl
    simp at hkp
   have hs1:=hs hl1 o K1 hok hK1
   rw [List.length_map] at hs1
   have hKl:=(List.getElem?_eq_some_iff.1 hK1).1
   repeat (first | refine nav ?_ | refine bo ?_)
   (refine W_reg [1000000] fun K R hK hR=>?_;simp only [go_sem,h7];(try go_ints);(try simp only [go_sem,h7]);(repeat refine And.intro side ?_);(first|refine hK _ ?_|refine hR _ _ ?_);clear hK hR K R)
   refine RL_callE (caps:=[]) hs1 ?_ rfl rfl rfl (by simp) (by exact LeA.refl _) hok (by simp [AV.ltk];omega) ?_
   ·rintro x o' ⟨k',rows,rfl,rfl,h0,h1,h2,h3⟩
    exact ⟨by simp,by simp [AV.ltk];omega,h3⟩
   rintro x o' ⟨k',rows,rfl,rfl,h0,h1,h2,h3⟩
   (refine RL_reg [1000000] fun K R hK hR=>?_;simp only [go_sem];(try go_ints);(repeat refine And.intro (by first|exact side|(omega)) ?_);(first|refine hK _ ?_|refine hR _ _ ?_);clear hK hR K R)
   change W Try.prog 48 Code.ret _ _
   refine W_freeze K1 (sz:=1) (rows:=rows) (by simp [hKl]) h2 ?_
   have hmk : (rows.map fun r=>r.map AV.dat).take k' = tups r:=by rw [← List.map_take,h1];simp [tups,Function.comp_def,AV.dat]
   refine W_weak (s':=⟨tab [(6,.sl 1 (tups r))],_⟩) (fun y=>?_) rfl ?_
   ·simp only [tab_cons,tab_nil]
    split
    ·rename_i e
     subst e
     simp only [frS,upd,if_true,AV.unref]
     rw [if_pos ⟨trivial,by simpa using h0⟩,List.drop_zero,hmk]
     exact Le.refl _
    ·exact Le.any _
   repeat (first | refine nav ?_ | refine bo ?_)
   refine endQ_data (by simp only [go_sem]<;>exact rfl) (Le.of_eq ?_) rfl
   rfl
end Go.AW
namespace Go.AW
open Go Go.Proofs TyTry Go.IntWalk
set_option linter.unusedSimpArgs false
set_option linter.unusedVariables false
set_option maxRecDepth 100000
set_option maxHeartbeats 1000000
theorem run0 {k : Nat} {f : FuncId} {ac : List AV} {r : AV} (h : xCall Try.prog (fun _ _ _=>none) (fun _=>false) k f ac [] = some (r,[])) : ACallsD Try.prog f ac r :=
 ((x_sound (fun _ _ _=>none) (fun _=>false) (by decide +kernel) (fun _ _ _ _ _ h=>by cases h) k).2.2.2.1 f ac [] r [] h).1
theorem ins1_spec (b : Int) (hb0 : b = 0 ∨ b = 1) {oc : List Ob} (ho : okO oc = true) : ACallsQ Try.prog 91 [.any,.i .i64 0,.i .i64 b,.any] oc (.tup []):=by
 refine ACalls_of' (n:=53) (rs:=[]) (show Try.prog.funcs[91]? = some Try.f91 by kernel_rfl) rfl rfl rfl (by simp) (by decide +kernel) ?_
 repeat (first | refine nav ?_ | refine bo ?_)
 (refine wr fun K R hK hR=>?_;simp only [go_sem];(try go_ints);(repeat refine And.intro side ?_);(first|refine hK _ ?_|refine hR _ _ ?_);clear hK hR K R)
 repeat (first | refine nav ?_ | refine bo ?_)
 refine W_for 8 53 [] (fun m t o=>o = oc ∧ t 8 = .i .i64 1) 1 ⟨rfl,by simp only [go_sem]<;>rfl⟩ ?_
 rintro m t o ⟨rfl,h8⟩
 repeat (first | refine nav ?_ | refine bo ?_)
 (refine wr fun K R hK hR=>?_;simp only [go_sem,h8];(try go_ints);(try simp only [go_sem,h8]);(repeat refine And.intro side ?_);(first|refine hK _ ?_|refine hR _ _ ?_);clear hK hR K R)
 repeat (first | refine nav ?_ | refine bo ?_)
 refine W_cond (by simp only [go_sem]<;>exact rfl) (fun hb=>?_) (fun hb=>?_)
 ·simp at hb;omega
 repeat (first | refine nav ?_ | refine bo ?_)
 refine endQ_quiet0 (by simp only [go_sem]<;>exact rfl) (Le.of_eq ?_) (by assumption) rfl
 rfl
theorem len1_spec (b : Int) (hb : b = 0 ∨ b = 1) : ACallsD Try.prog 90 [.i .u64 b] (.i .i64 b):=by
 rcases hb with rfl | rfl
 ·exact run0 (k:=40) (by kernel_rfl)
 ·exact run0 (k:=40) (by kernel_rfl)
theorem pdq1_spec (b c : Int) (hb0 : b = 0 ∨ b = 1) {oc : List Ob} (ho : okO oc = true) : ACallsQ Try.prog 89 [.any,.i .i64 0,.i .i64 b,.i .i64 c,.any] oc (.tup []):=by
 refine ACalls_of' (n:=148) (rs:=[]) (show Try.prog.funcs[89]? = some Try.f89 by kernel_rfl) rfl rfl rfl (by simp) (by decide +kernel) ?_
 repeat (first | refine nav ?_ | refine bo ?_)
 (refine wr fun K R hK hR=>?_;simp only [go_sem];(try go_ints);(repeat refine And.intro side ?_);(first|refine hK _ ?_|refine hR _ _ ?_);clear hK hR K R)
 repeat (first | refine nav ?_ | refine bo ?_)
 (refine wr fun K R hK hR=>?_;simp only [go_sem];(try go_ints);(repeat refine And.intro side ?_);(first|refine hK _ ?_|refine hR _ _ ?_);clear hK hR K R)
 repeat (first | refine nav ?_ | refine bo ?_)
 refine W_for 12 148 [] (fun m t o=>o = oc) 1 rfl ?_
 rintro m t o rfl
 repeat (first | refine nav ?_ | refine bo ?_)
 (refine wr fun K R hK hR=>?_;simp only [go_sem];(try go_ints);(repeat refine And.intro side ?_);(first|refine hK _ ?_|refine hR _ _ ?_);clear hK hR K R)
 repeat (first | refine nav ?_ | refine bo ?_)
 (refine wr fun K R hK hR=>?_;simp only [go_sem];(try go_ints);(repeat refine And.intro side ?_);(first|refine hK _ ?_|refine hR _ _ ?_);clear hK hR K R)
 repeat (first | refine nav ?_ | refine bo ?_)
 refine W_cond (by simp only [go_sem]<;>exact rfl) (fun hb=>?_) (fun hb=>?_)
 ·repeat (first | refine nav ?_ | refine bo ?_)
  (refine wr fun K R hK hR=>?_;simp only [go_sem];(try go_ints);(repeat refine And.intro side ?_);(first|refine hK _ ?_|refine hR _ _ ?_);clear hK hR K R)
  refine RL_callQ (ins1_spec b hb0 ho) rfl rfl rfl (by simp) (by simp only [go_sem]<;>exact LeA.refl _) ho rfl rfl ?_
  (refine rr fun K R hK hR=>?_;simp only [go_sem];(try go_ints);(repeat refine And.intro side ?_);(first|refine hK _ ?_|refine hR _ _ ?_);clear hK hR K R)
  repeat (first | refine nav ?_ | refine bo ?_)
  refine endQ_quiet0 (by simp only [go_sem]<;>exact rfl) (Le.of_eq ?_) (by assumption) rfl
  rfl
 ·simp at hb;omega
theorem sortF1_spec (id : Nat) {oc : List Ob} (ho : okO oc = true) (hi : id < oc.length) : ACallsQ Try.prog 83 [.ref id 0 1,.any] oc (.tup []):=by
 refine ACalls_of' (n:=14) (rs:=[]) (show Try.prog.funcs[83]? = some Try.f83 by kernel_rfl) rfl rfl rfl (by simp) (by decide +kernel) ?_
 repeat (first | refine nav ?_ | refine bo ?_)
 (refine wr fun K R hK hR=>?_;simp only [go_sem];(try go_ints);(repeat refine And.intro side ?_);(first|refine hK _ ?_|refine hR _ _ ?_);clear hK hR K R)
 repeat (first | refine nav ?_ | refine bo ?_)
 (refine wr fun K R hK hR=>?_;simp only [go_sem];(try go_ints);(repeat refine And.intro side ?_);(first|refine hK _ ?_|refine hR _ _ ?_);clear hK hR K R)
 refine RL_callF (len1_spec 1 (.inr rfl)) rfl rfl rfl (by first | (simp only [go_sem]<;>first | exact LeA.refl _ | exact Le.refl _) | exact LeA.refl _) rfl rfl ?_
 (refine rr fun K R hK hR=>?_;simp only [go_sem];(try go_ints);(repeat refine And.intro side ?_);(first|refine hK _ ?_|refine hR _ _ ?_);clear hK hR K R)
 refine RL_callQ (pdq1_spec 1 1 (.inr rfl) ho) rfl rfl rfl (by simp) (by simp only [go_sem]<;>exact ⟨Le.any _,Le.refl _⟩) ho rfl rfl ?_
 (refine rr fun K R hK hR=>?_;simp only [go_sem];(try go_ints);(repeat refine And.intro side ?_);(first|refine hK _ ?_|refine hR _ _ ?_);clear hK hR K R)
 repeat (first | refine nav ?_ | refine bo ?_)
 refine endQ_quiet0 (by simp only [go_sem]<;>exact rfl) (Le.of_eq ?_) (by assumption) rfl
 rfl
theorem compact1_spec (id : Nat) {oc : List Ob} (ho : okO oc = true) (hi : id < oc.length) : ACalls Try.prog 84 [.ref id 0 1,.any] oc fun x o'=>x = .ref id 0 1 ∧ o' = oc:=by
 refine ACalls_of' (n:=66) (rs:=[.tmp 4]) (show Try.prog.funcs[84]? = some Try.f84 by kernel_rfl) rfl rfl rfl (by simp) (by decide +kernel) ?_
 repeat (first | refine nav ?_ | refine bo ?_)
 (refine wr fun K R hK hR=>?_;simp only [go_sem];(try go_ints);(repeat refine And.intro side ?_);(first|refine hK _ ?_|refine hR _ _ ?_);clear hK hR K R)
 repeat (first | refine nav ?_ | refine bo ?_)
 (refine wr fun K R hK hR=>?_;simp only [go_sem];(try go_ints);(repeat refine And.intro side ?_);(first|refine hK _ ?_|refine hR _ _ ?_);clear hK hR K R)
 repeat (first | refine nav ?_ | refine bo ?_)
 refine W_cond (by simp only [go_sem]<;>exact rfl) (fun hb=>?_) (fun hb=>?_)
 ·repeat (first | refine nav ?_ | refine bo ?_)
  (refine wr fun K R hK hR=>?_;simp only [go_sem];(try go_ints);(repeat refine And.intro side ?_);(first|refine hK _ ?_|refine hR _ _ ?_);clear hK hR K R)
  repeat (first | refine nav ?_ | refine bo ?_)
  refine endQ_all (by simp only [go_sem]<;>exact rfl) (Le.refl _) (by simp) ho (by simp [AV.ltk];omega) ⟨rfl,rfl⟩
 ·simp at hb
theorem set_of_get {l : List Ob} {i : Nat} {x : Ob} (h : l[i]? = some x) : l.set i x = l:=by
 obtain ⟨h1,e⟩:=List.getElem?_eq_some_iff.1 h
 rw [← e];exact List.set_getElem_self h1
theorem sorted0_spec : ACallsD Try.prog 75 [.nsl] (.sl 1 []):=run0 (k:=60) (by kernel_rfl)
theorem sorted1_spec (x : List Int) : SortedP [x] [x]:=by
 intro oc id ho hi
 have hlt:=(List.getElem?_eq_some_iff.1 hi).1
 refine ACalls_of' (n:=7) (rs:=[.tmp 2]) (show Try.prog.funcs[75]? = some Try.f75 by kernel_rfl) rfl rfl rfl (by simp) (by decide +kernel) ?_
 repeat (first | refine nav ?_ | refine bo ?_)
 (refine W_reg [1000000] fun K R hK hR=>?_;simp only [go_sem];(try go_ints);(repeat refine And.intro side ?_);(first|refine hK _ ?_|refine hR _ _ ?_);clear hK hR K R)
 repeat (first | refine nav ?_ | refine bo ?_)
 (refine W_reg [1000000] fun K R hK hR=>?_;simp only [go_sem];(try go_ints);(repeat refine And.intro side ?_);(first|refine hK _ ?_|refine hR _ _ ?_);clear hK hR K R)
 refine RL_callQ (sortF1_spec id ho hlt) rfl rfl rfl (by simp) (by simp only [go_sem]<;>exact Le.any _) ho (by simp [AV.ltk];omega) rfl ?_
 (refine RL_reg [1000000] fun K R hK hR=>?_;simp only [go_sem];(try go_ints);(repeat refine And.intro (by first|exact side|(omega)) ?_);(first|refine hK _ ?_|refine hR _ _ ?_);clear hK hR K R)
 repeat (first | refine nav ?_ | refine bo ?_)
 (refine W_reg [1000000] fun K R hK hR=>?_;simp only [go_sem];(try go_ints);(repeat refine And.intro side ?_);(first|refine hK _ ?_|refine hR _ _ ?_);clear hK hR K R)
 refine RL_callE (caps:=[]) (compact1_spec id ho hlt) (by rintro r o' ⟨rfl,rfl⟩;exact ⟨Nat.le_refl _,by simp [AV.ltk];omega,ho⟩) rfl rfl rfl (by simp) (by simp only [go_sem]<;>exact Le.any _) ho (by simp [AV.ltk];omega) ?_
 rintro r o' ⟨rfl,rfl⟩
 (refine RL_reg [1000000] fun K R hK hR=>?_;simp only [go_sem];(try go_ints);(repeat refine And.intro (by first|exact side|(omega)) ?_);(first|refine hK _ ?_|refine hR _ _ ?_);clear hK hR K R)
 repeat (first | refine nav ?_ | refine bo ?_)
 refine endQ_all (by simp only [go_sem]<;>exact rfl) (Le.refl _) (by simp) ho (by simp [AV.ltk];omega) ⟨1,tups [x],rfl,?_,by simp [tups],rfl,rfl,ho⟩
 exact (set_of_get hi).symm
end Go.AW
namespace Go.AW
open Go Go.Proofs TyTry Go.IntWalk
set_option linter.unusedSimpArgs false
set_option linter.unusedVariables false
set_option maxRecDepth 10000
set_option maxHeartbeats 1000000
@[go_sem] theorem arrD0 (x d : Operand) : (#[x] : Array Operand).getD 0 d = x:=rfl
attribute [go_sem] Int.reduceBEq
def engMap (E : Nat) : List (AV × AV):=[(.i .i64 0,.bm 57 (.ptr E 0 0)),(.i .i64 1,.bm 58 (.ptr E 0 0)),(.i .i64 2,.bm 59 (.ptr E 0 0)),(.i .i64 3,.bm 59 (.ptr E 0 0)),
 (.i .i64 4,.bm 60 (.ptr E 0 0)),(.i .i64 5,.bm 61 (.ptr E 0 0)),(.i .i64 6,.bm 62 (.ptr E 0 0)),(.i .i64 7,.bm 63 (.ptr E 0 0))]
def engObs (s : StrD) (n : Nat) : List Ob:=[.cells 2 [s.cells],.cells 3 [[.i .i64 s.size,.sl 3 (rels s.rels),.mp (n + 2)]],.mapo (engMap (n + 1))]
theorem newEngine_spec (s : StrD) {oc : List Ob} (ho : okO oc = true) : ACalls Try.prog 38 [.agg s.cells] oc fun r o'=>r = .ptr (oc.length + 1) 0 0 ∧ o' = oc ++ engObs s oc.length:=by
 unfold StrD.cells
 refine ACalls_of' (n:=29) (rs:=[.tmp 2]) (show Try.prog.funcs[38]? = some Try.f38 by kernel_rfl) rfl rfl rfl (by simp) (by decide +kernel) ?_
 repeat (first | refine nav ?_ | refine bo ?_)
 (refine wr fun K R hK hR=>?_;simp only [go_sem];(try go_ints);(repeat refine And.intro side ?_);(first|refine hK _ ?_|refine hR _ _ ?_);clear hK hR K R)
 repeat (first | refine nav ?_ | refine bo ?_)
 (refine wr fun K R hK hR=>?_;simp only [go_sem];(try go_ints);(repeat refine And.intro side ?_);(first|refine hK _ ?_|refine hR _ _ ?_);clear hK hR K R)
 repeat (first | refine nav ?_ | refine bo ?_)
 (refine wr fun K R hK hR=>?_;simp only [go_sem];(try go_ints);(repeat refine And.intro side ?_);(first|refine hK _ ?_|refine hR _ _ ?_);clear hK hR K R)
 repeat (first | refine nav ?_ | refine bo ?_)
 (refine wr fun K R hK hR=>?_;simp only [go_sem];(try go_ints);(repeat refine And.intro side ?_);(first|refine hK _ ?_|refine hR _ _ ?_);clear hK hR K R)
 repeat (first | refine nav ?_ | refine bo ?_)
 refine endQ_all (by simp only [go_sem]<;>exact rfl) (Le.refl _) (by simp) (okO_app ho ?_) (by simp [AV.ltk]) ⟨rfl,rfl⟩
 simp [Ob.ltk,AV.ltk,rels]
end Go.AW
namespace Go.AW
open Go Go.Proofs TyTry Go.IntWalk
set_option linter.unusedSimpArgs false
set_option linter.unusedVariables false
set_option maxRecDepth 10000
set_option maxHeartbeats 1000000
theorem CallD.allB {P : Program} {n : Nat} {s : St} {o : Oper} {c : Call} {x : Operand} {f : FuncId} {v : AV} {ac : List AV} {v' r : AV} (ho : o.op = .call c) (hc : c.callee = .value x) (hx : ung true (opd s.t x) = .bm f v) (h : ACallsQ P f (v' :: ac) s.o r)
  (hin : c.args.toList.all (opIn n) = true) (hd : dstOk n o.dst = true) (hl : c.args.size = ac.length) (hle : LeA (argVals c.args.toList ac s.t ++ [v.dat]) (ac ++ [v']))
  (hoc : okO s.o = true) (hac : ac.all (AV.ltk s.o.length) = true) (hv : v'.ltk s.o.length = true) (hr : r.ltk 0 = true) : CallD P n o s (ac ++ [v']) r:=by
 have hac' : (ac ++ [v']).all (AV.ltk s.o.length) = true:=by rw [List.all_append,hac];simp [hv]
 refine ⟨⟨c,x,true,f,[v],List.range s.o.length,s.o,ho,hc,by rw [hx];rfl,hin,by simp;omega,Hand.all hoc,?_,by rw [List.length_range];exact hac',?_⟩,hd,hr⟩
 ·rw [map_ren_range hac',List.take_left' hl.symm];exact hle
 ·refine ACalls.rot (by simp) ?_
  have : rotL AV.any true (ac ++ [v']) = v' :: ac:=by simp [rotL]
  rw [this];exact h
theorem D_callQB {P : Program} {n : Nat} {gd : List (Option Nat)} {tk : List Nat} {s : St} {K : St → Prop} {d : Option Tmp} {x : Operand} {xs : List Operand} {ats : Array TypeId} {ty : TypeId} {pos : String} {aft : Array Edge} {rest : List Oper} {f : FuncId} {v : AV} (v' : AV) (ac : List AV) {r : AV} (h : ACallsQ P f (v' :: ac) s.o r)
  (hx : ung true (opd s.t x) = .bm f v) (hin : xs.all (opIn n) = true) (hd : dstOk n d = true) (hl : xs.length = ac.length) (hle : LeA (argVals xs ac s.t ++ [v.dat]) (ac ++ [v']))
  (hoc : okO s.o = true) (hac : ac.all (AV.ltk s.o.length) = true) (hv : v'.ltk s.o.length = true) (hr : r.ltk 0 = true) (hq : isQ tk ⟨d,.call ⟨.value x,xs.toArray,ats⟩,ty,pos,aft,none⟩ = true) (ho : (ac ++ [v']).all (fun c=>!c.isOwn) = true)
  (hK : D P n gd tk rest K (s.put d r)) : D P n gd tk (⟨d,.call ⟨.value x,xs.toArray,ats⟩,ty,pos,aft,none⟩ :: rest) K s :=
 D_call (ac ++ [v']) r rfl hq (CallD.allB rfl rfl hx h hin hd (by simpa using hl) (by simpa using hle) hoc hac hv hr) ho hK
structure Eng (s : StrD) (E : Nat) (o : List Ob) : Prop where
 e : o[E]? = some (.cells 3 [[.i .i64 s.size,.sl 3 (rels s.rels),.mp (E + 1)]])
 m : o[E + 1]? = some (.mapo (engMap E))
theorem Eng.app {s : StrD} {E : Nat} {o : List Ob} (h : Eng s E o) (l : List Ob) : Eng s E (o ++ l):=⟨app_get l h.e,app_get l h.m⟩
def Runs (s : StrD) (p : PlanD) (out : List (List Int)) : Prop:=∀ (oc : List Ob) (E : Nat),okO oc = true → Eng s E oc → ACallsQ Try.prog 39 [.ptr E 0 0,.agg p.cells] oc (.sl 1 (tups out))
def methF (k : Int) : FuncId:=if k = 0 then 57 else if k = 1 then 58 else if k = 2 ∨ k = 3 then 59 else if k = 4 then 60 else if k = 5 then 61 else if k = 6 then 62 else 63
def Meth (s : StrD) (p : PlanD) (ks : List (List (List Int))) (out : List (List Int)) : Prop:=∀ (oc : List Ob) (E : Nat),okO oc = true → Eng s E oc → ACallsQ Try.prog (methF p.kind) [.ptr E 0 0,.agg p.cells,.sl 1 (kid3 ks)] oc (.sl 1 (tups out))
theorem run_step (s : StrD) (q : PlanD) (ks : List (List (List Int))) (out : List (List Int)) (hk8 : 0 ≤ q.kind ∧ q.kind < 8) (hn : q.kids.length ≤ 1000000) (hl : ks.length = q.kids.length) (hk : ∀ (i : Nat) (x : PlanD) (l : List (List Int)),q.kids[i]? = some x → ks[i]? = some l → Runs s x l) (hm : Meth s q ks out) : Runs s q out:=by
 intro oc E ho he
 have hq:=q.cells_eq
 have hm':=hm
 unfold Meth at hm
 rw [hq] at hm ⊢
 have hel:=(List.getElem?_eq_some_iff.1 he.m).1
 refine ACalls_of' (n:=32) (rs:=[.tmp 4]) (show Try.prog.funcs[39]? = some Try.f39 by kernel_rfl) rfl rfl rfl (by simp) (by decide +kernel) ?_
 repeat (first | refine nav ?_ | refine bo ?_)
 (refine wr fun K R hK hR=>?_;simp only [go_sem];(try go_ints);(repeat refine And.intro side ?_);(first|refine hK _ ?_|refine hR _ _ ?_);clear hK hR K R)
 repeat (first | refine nav ?_ | refine bo ?_)
 (refine wr fun K R hK hR=>?_;simp only [go_sem];(try go_ints);(repeat refine And.intro side ?_);(first|refine hK _ ?_|refine hR _ _ ?_);clear hK hR K R)
 repeat (first | refine nav ?_ | refine bo ?_)
 (refine wr fun K R hK hR=>?_;simp only [go_sem,plans_len];(try go_ints);(try simp only [go_sem,plans_len]);(repeat refine And.intro side ?_);(first|refine hK _ ?_|refine hR _ _ ?_);clear hK hR K R)
 repeat (first | refine nav ?_ | refine bo ?_)
 refine W_weak (s':=⟨mix 11 22 [5,7] (tab [(5,.own 1 []),(11,.i .i64 0)]) (tab [(0,.ptr E 0 0),(3,.ptr oc.length 0 0),(9,.sl 7 (plans q.kids)),(10,.i .i64 q.kids.length)]),oc ++ [boxQ q]⟩) (tab_mix (fun x hx=>?_) (fun x hx=>?_)) rfl ?_
 ·simp only [List.mem_cons,List.not_mem_nil,or_false] at hx
  rcases hx with rfl | rfl<;>rfl
 ·simp only [List.mem_cons,List.not_mem_nil,or_false] at hx
  rcases hx with rfl | rfl | rfl | rfl<;>rfl
 refine W_forM 11 22 [5,7] (fun m t o=>∃ (k : Nat),(∃ ex : List Ob,o = oc ++ ex) ∧ o[oc.length]? = some (boxQ q) ∧ okO o = true ∧ t 11 = .i .i64 k ∧ t 5 = .own 1 (kid3 (ks.take k)) ∧ m = q.kids.length - k ∧ k ≤ q.kids.length) q.kids.length ⟨0,⟨_,rfl⟩,by simp,okO_app ho rfl,by simp only [go_sem]<;>rfl,by simp only [go_sem]<;>rfl,by omega,by omega⟩ ?_
 rintro m t o ⟨k,hex,hob,hok,h11,h5,rfl,hkl⟩
 have heo : Eng s E o:=by obtain ⟨ex,rfl⟩:=hex;exact he.app ex
 have hEl:=(List.getElem?_eq_some_iff.1 heo.m).1
 repeat (first | refine nav ?_ | refine bo ?_)
 (refine wr fun K R hK hR=>?_;simp only [go_sem,h11];(try go_ints);(try simp only [go_sem,h11]);(repeat refine And.intro side ?_);(first|refine hK _ ?_|refine hR _ _ ?_);clear hK hR K R)
 repeat (first | refine nav ?_ | refine bo ?_)
 refine W_cond (by simp only [go_sem]<;>exact rfl) (fun hb=>?_) (fun hb=>?_)
 ·simp at hb
  have hb0 : k + 1 ≤ q.kids.length:=hb
  obtain ⟨x,hx⟩ : ∃ x,q.kids[k]? = some x:=⟨_,List.getElem?_eq_getElem hb⟩
  obtain ⟨l,hll⟩ : ∃ l,ks[k]? = some l:=⟨_,List.getElem?_eq_getElem (by omega)⟩
  have hxq:=x.cells_eq
  have ih:=hk k x l hx hll
  unfold Runs at ih
  rw [hxq] at ih
  have hkt : (kid3 (ks.take k)).length = k:=by rw [kid3_len];simp;omega
  have hka : kid3 (ks.take (k + 1)) = kid3 (ks.take k) ++ [[.sl 1 (tups l)]]:=by rw [List.take_add_one,hll];simp [kid3]
  repeat (first | refine nav ?_ | refine bo ?_)
  (refine wr fun K R hK hR=>?_;simp only [go_sem,h11,plans_get hx];(try go_ints);(try simp only [go_sem,h11,plans_get hx]);(repeat refine And.intro side ?_);(first|refine hK _ ?_|refine hR _ _ ?_);clear hK hR K R)
  repeat (first | refine nav ?_ | refine bo ?_)
  (refine W_reg [15] fun K R hK hR=>?_;simp only [go_sem,h5];(try go_ints);(try simp only [go_sem,h5]);(repeat refine And.intro side ?_);(first|refine hK _ ?_|refine hR _ _ ?_);clear hK hR K R)
  have hok2 : okO (o ++ [.cells 7 [[AV.i IntKind.i64 x.kind,AV.i IntKind.i64 x.width,AV.i IntKind.i64 x.i,AV.i IntKind.i64 x.j,AV.s x.name,AV.sl 1 (ints x.cols),AV.sl 7 (plans x.kids)]]]) = true:=okO_app hok rfl
  refine RL_callQ (ih _ E hok2 (heo.app _)) rfl rfl rfl (by simp) (by simp only [go_sem]<;>exact LeA.refl _) hok2 (by simp [AV.ltk,AV.ltks];omega) rfl ?_
  (refine RL_reg [15] fun K R hK hR=>?_;simp only [go_sem,hkt];(try go_ints);(repeat refine And.intro (by first|exact side|(trace_state;omega)) ?_);(first|refine hK _ ?_|refine hR _ _ ?_);clear hK hR K R)
  repeat (first | refine nav ?_ | refine bo ?_)
  (refine wr fun K R hK hR=>?_;simp only [go_sem,h11];(try go_ints);(try simp only [go_sem,h11]);(repeat refine And.intro side ?_);(first|refine hK _ ?_|refine hR _ _ ?_);clear hK hR K R)
  refine forQ_normal (q.kids.length - (k + 1)) (by omega) ⟨k + 1,?_,app_get _ hob,hok2,by simp only [go_sem]<;>rfl,by simp only [go_sem,hka],rfl,hb0⟩
  obtain ⟨ex,rfl⟩:=hex
  exact ⟨_,List.append_assoc _ _ _⟩
 ·simp at hb
  obtain rfl : k = q.kids.length:=by omega
  rw [← hl,List.take_length] at h5
  have hm2:=hm o E hok heo
  repeat (first | refine nav ?_ | refine bo ?_)
  obtain ⟨c,hkc⟩ : ∃ c,q.kind = c:=⟨_,rfl⟩
  rw [hkc] at hm2 hk8
  have hc8 : c = 0 ∨ c = 1 ∨ c = 2 ∨ c = 3 ∨ c = 4 ∨ c = 5 ∨ c = 6 ∨ c = 7:=by omega
  have fin : ∀ (t' : Nat → AV),t' 4 = .sl 1 (tups out) → seqQ Try.prog 32 Code.ret (endQ Try.prog [ResultVar.tmp 4] oc.length fun r' o'=>r' = AV.sl 1 (tups out) ∧ o' = oc) Exit.normal ⟨t',o⟩:=by
   intro t' ht
   obtain ⟨ex,rfl⟩:=hex
   repeat (first | refine nav ?_ | refine bo ?_)
   refine endQ_quiet (by simp only [go_sem,ht]<;>exact rfl) (Le.of_eq ?_) ho rfl
   rfl
  have hlt0 : (AV.ptr E 0 0).ltk o.length = true:=by simp [AV.ltk];omega
  rcases hc8 with rfl | rfl | rfl | rfl | rfl | rfl | rfl | rfl
  all_goals
   (refine W_dreg (by decide +kernel) [] [0,1,2,3,4,5,6,7,8,9,10] [[],[0],[0,1],[1,0,2],[],[4],[4,5,2,0,1,3],[],[],[8,7,3,1,0,2,5,4,6],[6,4,5,2,0,1,3,7,8,9]] (by decide +kernel) rfl fun K R hK hR=>?_;simp only [List.filterMap_cons,List.filterMap_nil,List.getElem?_cons_zero,List.getElem?_cons_succ,List.cons_append,List.nil_append];simp only [go_sem,h5,heo.e,heo.m,hob,hkc,engMap];(try go_ints);(try simp only [go_sem,h5,heo.e,heo.m,hob,hkc,engMap]);(repeat refine And.intro side ?_);(first|refine hK _ ?_|refine hR _ _ ?_);clear hK hR K R)
   refine D_callQB (.ptr E 0 0) [_,_] hm2 (by simp only [go_sem]<;>exact rfl) rfl rfl rfl (by simp only [go_sem]<;>exact LeA.refl _) hok rfl hlt0 rfl rfl rfl ?_
   (refine D_reg fun K R hK hR=>?_;simp only [go_sem];(try go_ints);(repeat refine And.intro side ?_);(first|refine hK _ ?_|refine hR _ _ ?_);clear hK hR K R)
   refine fin _ ?_
   simp only [go_sem]
end Go.AW
namespace Go.AW
open Go Go.Proofs TyTry Go.IntWalk
set_option linter.unusedSimpArgs false
set_option linter.unusedVariables false
set_option maxRecDepth 10000
set_option maxHeartbeats 1000000
theorem LeA.len : ∀ {a b : List AV},LeA a b → a.length = b.length
 | [],[],_=>rfl
 | x :: a,y :: b,h=>by
  rw [LeA_cons] at h
  simp [h.2.len]
theorem LeA.getD : ∀ {a b : List AV},LeA a b → ∀ k,Le (a.getD k .any) (b.getD k .any)
 | [],[],_,k=>by simp;exact Le.refl _
 | x :: a,y :: b,h,0=>by rw [LeA_cons] at h;simpa using h.1
 | x :: a,y :: b,h,k + 1=>by rw [LeA_cons] at h;simpa using h.2.getD k
theorem ACalls.arg {P : Program} {f : FuncId} {ac ac' : List AV} {oc : List Ob} {R : AV → List Ob → Prop} (h : ACalls P f ac oc R) (hle : LeA ac' ac) : ACalls P f ac' oc R :=
 ⟨h.1,fun w Z m reg vs hl hr=>h.2 w Z m reg vs (hl.trans hle.len) (hr.weak fun k=>hle.getD k)⟩
theorem meth_any {s : StrD} {q : PlanD} {ks : List (List (List Int))} {out : List (List Int)} (h : ACallsD Try.prog (methF q.kind) [.any,.agg q.cells,.sl 1 (kid3 ks)] (.sl 1 (tups out))) : Meth s q ks out:=by
 intro oc E ho he
 have h1:=h.frame (by rw [q.cells_eq];rfl) rfl oc
 exact ACalls.arg h1 (by simp only [LeA_cons,LeA_nil];exact ⟨Le.any _,Le.refl _,Le.refl _,trivial⟩)
theorem rel_spec {s : StrD} {q : PlanD} {k : Nat} {r : RelD} (hs : s.rels.length ≤ 1000000) (hk : q.kind = 0) (hf : ACallsD Try.prog 36 [.agg s.cells,.s q.name,.i .i64 q.width] (.i .i64 k)) (hr : s.rels[k]? = some r) : Meth s q [] r.tuples:=by
 intro oc E ho he
 have hm : methF q.kind = 57:=by rw [hk];rfl
 have hel:=(List.getElem?_eq_some_iff.1 he.m).1
 have hkl:=(List.getElem?_eq_some_iff.1 hr).1
 rw [hm,q.cells_eq]
 unfold StrD.cells at hf
 have he':=fun l=>app_get l he.e
 have hrl : (rels s.rels).length = s.rels.length:=by simp [rels]
 have hrg : (rels s.rels).getD k [] = [.s r.name,.i .i64 r.arity,.sl 1 (tups r.tuples)]:=by simp [rels,hr,RelD.cells]
 refine ACalls_of' (n:=24) (rs:=[.tmp 6]) (show Try.prog.funcs[57]? = some Try.f57 by kernel_rfl) rfl rfl rfl (by simp) (by decide +kernel) ?_
 repeat (first | refine nav ?_ | refine bo ?_)
 (refine wr fun K R hK hR=>?_;simp only [go_sem];(try go_ints);(repeat refine And.intro side ?_);(first|refine hK _ ?_|refine hR _ _ ?_);clear hK hR K R)
 repeat (first | refine nav ?_ | refine bo ?_)
 (refine W_dreg (by decide +kernel) [] [0,1,2,3,4,5,6,7,8,9,10,11,12,13,14,15,16,17] [[],[0],[0,1],[1,0,2],[2,0,1,3],[],[5],[5,6],[6,5,7],[],[9],[],[11],[11,12,9,10,7,5,6,8],[8,6,5,7,10,9,12,11,13,3,1,0,2,4],[4,2,0,1,3,13,11,12,9,10,7,5,6,8,14],[14,8,6,5,7,10,9,12,11,13,3,1,0,2,4,15],[15,4,2,0,1,3,13,11,12,9,10,7,5,6,8,14,16]] (by decide +kernel) rfl fun K R hK hR=>?_;simp only [List.filterMap_cons,List.filterMap_nil,List.getElem?_cons_zero,List.getElem?_cons_succ,List.cons_append,List.nil_append];simp only [go_sem,he'];(try go_ints);(try simp only [go_sem,he']);(repeat refine And.intro side ?_);(first|refine hK _ ?_|refine hR _ _ ?_);clear hK hR K R)
 refine D_callD (hf) rfl rfl rfl (by first | (simp only [go_sem]<;>first | exact LeA.refl _ | exact Le.refl _) | exact LeA.refl _) rfl rfl rfl rfl ?_
 (refine D_reg fun K R hK hR=>?_;simp only [go_sem,hrl,hrg];(try go_ints);(try simp only [go_sem,hrl,hrg]);(repeat refine And.intro side ?_);(first|refine hK _ ?_|refine hR _ _ ?_);clear hK hR K R)
 repeat (first | refine nav ?_ | refine bo ?_)
 refine endQ_quiet (by simp only [go_sem]<;>exact rfl) (Le.of_eq rfl) ho rfl
theorem meth_join {s : StrD} {q : PlanD} (a b : List (List Int)) (hk : q.kind = 4) (ha : a.length ≤ 1000000) (hbb : b.length ≤ 1000000) (hab : a.length * b.length ≤ 1000000)
  (hal : ∀ t ∈ a,t.length ≤ 1000000) (hbl : ∀ t ∈ b,t.length ≤ 1000000) : Meth s q [a,b] (joinF a b) :=
 meth_any (by rw [hk];exact join_spec a b ha hbb hab hal hbl q)
theorem meth_project {s : StrD} {q : PlanD} (l r : List (List Int)) (hk : q.kind = 5) (hs : l ≠ [] → SortedP (l.map (placesF q.cols)) r) (hr : l = [] → r = [])
  (hl : l.length ≤ 1000000) (hc : q.cols.length ≤ 1000000) (hll : ∀ x ∈ l,x.length ≤ 1000000) (hin : ∀ x ∈ l,∀ c ∈ q.cols,0 ≤ c ∧ c < x.length) : Meth s q [l] r :=
 meth_any (by rw [hk];exact project_spec q l r sorted0_spec hs hr hl hc hll hin)
end Go.AW
namespace Go.AW
open Go Go.Proofs TyTry Go.IntWalk
set_option linter.unusedSimpArgs false
set_option linter.unusedVariables false
set_option maxRecDepth 10000
set_option maxHeartbeats 4000000
theorem ints_push (l : List Int) (x : Int) : ints (l ++ [x]) = ints l ++ [[.i .i64 x]]:=by simp [ints]
def ents (l : Names) : List (AV × AV):=l.map fun x=>(.s x.1,.i .i64 x.2)
def lookN (nm : ByteArray) : Names → Option Int
 | []=>none
 | x :: r=>if nm == x.1 then some x.2 else lookN nm r
def setN (nm : ByteArray) (w : Int) : Names → Names
 | []=>[(nm,w)]
 | x :: r=>if nm == x.1 then (nm,w) :: r else x :: setN nm w r
theorem mfind_ents (nm : ByteArray) : ∀ l : Names,mfind (.s nm) (ents l) = some ((lookN nm l).map (.i .i64))
 | []=>rfl
 | x :: r=>by
  simp only [ents,List.map_cons,mfind,keq,lookN]
  cases h : (nm == x.1)
  ·exact mfind_ents nm r
  ·simp
theorem mset_ents (nm : ByteArray) (w : Int) : ∀ l : Names,mset (.s nm) (.i .i64 w) (ents l) = some (ents (setN nm w l))
 | []=>rfl
 | x :: r=>by
  simp only [ents,List.map_cons,mset,keq,setN]
  cases h : (nm == x.1)
  ·have:=mset_ents nm w r
   unfold ents at this
   simp only [this];rfl
  ·simp
def badF (p : PlanD) (lv n : Nat) : Bool:=decide (p.kind < 0) || decide (p.kind ≥ 8) || decide ((n : Int) > 4000) || decide ((lv : Int) > 1000) || !spareF p || ((p.kids.length : Int) != kidsF p.kind)
def finF (p : PlanD) (of : List Int) (ws : Names) : Option (Int × Names) :=
 let cap (bad : Bool) (w : Int) (ws : Names) : Option (Int × Names):=if (bad || decide (w < 0) || decide (w > 12)) = true then none else some (w,ws)
 if p.kind = 0 then cap (!nameF p.name || match lookN p.name ws with | some n=>n != p.width | none=>false) p.width (setN p.name p.width ws)
 else if p.kind = 2 ∨ p.kind = 3 then cap (!insideF (of.getD 0 0) [p.i,p.j]) (of.getD 0 0) ws
 else if p.kind = 4 then cap false (of.getD 0 0 + of.getD 1 0) ws
 else if p.kind = 5 then cap (!insideF (of.getD 0 0) p.cols) p.cols.length ws
 else if p.kind = 6 ∨ p.kind = 7 then cap (of.getD 0 0 != of.getD 1 0) (of.getD 0 0) ws
 else cap false p.width ws
mutual
/-- A plan's width,the number of nodes walked so far,the widths seen;nothing where the plan is bad. -/
def walkF : PlanD → Nat → Nat → Names → Option (Int × Nat × Names)
 | .mk k w i j nm cs ks,lv,n,ws =>
  if badF (.mk k w i j nm cs ks) lv (n + 1) = true then none
  else match walkL ks (lv + 1) (n + 1) ws with
   | none=>none
   | some (of,n',ws')=>match finF (.mk k w i j nm cs ks) of ws' with
    | none=>none
    | some (x,ws'')=>some (x,n',ws'')
def walkL : List PlanD → Nat → Nat → Names → Option (List Int × Nat × Names)
 | [],_,n,ws=>some ([],n,ws)
 | p :: r,lv,n,ws=>match walkF p lv n ws with
  | none=>none
  | some (x,n',ws')=>match walkL r lv n' ws' with
   | none=>none
   | some (l,n'',ws'')=>some (x :: l,n'',ws'')
end
theorem walkF_eq (p : PlanD) (lv n : Nat) (ws : Names) : walkF p lv n ws = if badF p lv (n + 1) = true then none
  else match walkL p.kids (lv + 1) (n + 1) ws with
   | none=>none
   | some (of,n',ws')=>match finF p of ws' with
    | none=>none
    | some (x,ws'')=>some (x,n',ws''):=by cases p;rfl
theorem walkL_snoc (p : PlanD) (lv : Nat) : ∀ (l : List PlanD) (n : Nat) (ws : Names),walkL (l ++ [p]) lv n ws = match walkL l lv n ws with
  | none=>none
  | some (of,n',ws')=>match walkF p lv n' ws' with
   | none=>none
   | some (x,n'',ws'')=>some (of ++ [x],n'',ws'')
 | [],n,ws=>by
  simp only [List.nil_append,walkL]
 | q :: r,n,ws=>by
  simp only [List.cons_append,walkL]
  cases walkF q lv n ws with
  | none=>rfl
  | some y =>
   obtain ⟨x,n',ws'⟩:=y
   simp only [walkL_snoc p lv r n' ws']
   cases walkL r lv n' ws' with
   | none=>rfl
   | some z =>
    obtain ⟨l,n2,ws2⟩:=z
    simp only
    cases walkF p lv n2 ws2 with
    | none=>rfl
    | some y2=>obtain ⟨x2,n3,ws3⟩:=y2;rfl
theorem walkL_stop {lv n : Nat} {ws : Names} : ∀ {l l' : List PlanD},walkL l lv n ws = none → walkL (l ++ l') lv n ws = none:=by
 intro l l'
 induction l generalizing n ws with
 | nil=>intro h;cases h
 | cons q r ih =>
  intro h
  simp only [List.cons_append,walkL] at h ⊢
  cases hq : walkF q lv n ws with
  | none=>rfl
  | some y =>
   obtain ⟨x,n',ws'⟩:=y
   rw [hq] at h
   simp only at h ⊢
   cases hr : walkL r lv n' ws' with
   | none=>rw [ih hr]
   | some z=>obtain ⟨l2,n2,ws2⟩:=z;rw [hr] at h;cases h
theorem finF_bd {p : PlanD} {of : List Int} {ws ws' : Names} {x : Int} (h : finF p of ws = some (x,ws')) : 0 ≤ x ∧ x ≤ 12:=by
 have key : ∀ (bad : Bool) (w : Int) (ws0 : Names),(if (bad || decide (w < 0) || decide (w > 12)) = true then none else some (w,ws0)) = some (x,ws') → 0 ≤ x ∧ x ≤ 12:=by
  intro bad w ws0 h
  split at h
  ·cases h
  ·rename_i hb
   simp only [Bool.or_eq_true,decide_eq_true_eq,not_or] at hb
   simp only [Option.some.injEq,Prod.mk.injEq] at h
   omega
 unfold finF at h
 simp only at h
 split at h
 ·exact key _ _ _ h
 ·split at h
  ·exact key _ _ _ h
  ·split at h
   ·exact key _ _ _ h
   ·split at h
    ·exact key _ _ _ h
    ·split at h
     ·exact key _ _ _ h
     ·exact key _ _ _ h
theorem walkL_bd {lv : Nat} : ∀ {l : List PlanD},(∀ p ∈ l,∀ (n : Nat) (ws : Names) x n' ws',walkF p lv n ws = some (x,n',ws') → n' ≤ 4000 ∧ 0 ≤ x ∧ x ≤ 12) → ∀ {n : Nat} {ws : Names} {of : List Int} {n' : Nat} {ws' : Names},n ≤ 4000 → walkL l lv n ws = some (of,n',ws') → n' ≤ 4000 ∧ of.length = l.length ∧ ∀ x ∈ of,0 ≤ x ∧ x ≤ 12
 | [],_,n,ws,of,n',ws',hn,h=>by
  simp only [walkL,Option.some.injEq,Prod.mk.injEq] at h
  obtain ⟨rfl,rfl,rfl⟩:=h
  exact ⟨hn,rfl,by simp⟩
 | p :: r,hp,n,ws,of,n',ws',hn,h=>by
  simp only [walkL] at h
  cases hq : walkF p lv n ws with
  | none=>rw [hq] at h;cases h
  | some y =>
   obtain ⟨x,n1,ws1⟩:=y
   rw [hq] at h
   simp only at h
   cases hr : walkL r lv n1 ws1 with
   | none=>rw [hr] at h;cases h
   | some z =>
    obtain ⟨l2,n2,ws2⟩:=z
    rw [hr] at h
    simp only [Option.some.injEq,Prod.mk.injEq] at h
    obtain ⟨rfl,rfl,rfl⟩:=h
    have h1:=hp p (by simp) n ws x n1 ws1 hq
    have h2:=walkL_bd (fun q hq=>hp q (by simp [hq])) h1.1 hr
    refine ⟨h2.1,by simp [h2.2.1],fun z hz=>?_⟩
    rcases List.mem_cons.1 hz with rfl | hz
    ·exact h1.2
    ·exact h2.2.2 z hz
theorem walkF_bd : ∀ (p : PlanD) (lv n : Nat) (ws : Names) (x : Int) (n' : Nat) (ws' : Names),walkF p lv n ws = some (x,n',ws') → n' ≤ 4000 ∧ 0 ≤ x ∧ x ≤ 12 :=
 PlanD.ind fun p ih lv n ws x n' ws' h=>by
  rw [walkF_eq] at h
  split at h
  ·cases h
  ·rename_i hb
   have hn : n + 1 ≤ 4000:=by
    have : ¬ ((n + 1 : Nat) : Int) > 4000:=fun hgt=>hb (by unfold badF;rw [decide_eq_true hgt];simp)
    omega
   cases hr : walkL p.kids (lv + 1) (n + 1) ws with
   | none=>rw [hr] at h;cases h
   | some z =>
    obtain ⟨of,n2,ws2⟩:=z
    rw [hr] at h
    simp only at h
    cases hf : finF p of ws2 with
    | none=>rw [hf] at h;cases h
    | some y =>
     obtain ⟨x2,ws3⟩:=y
     rw [hf] at h
     simp only [Option.some.injEq,Prod.mk.injEq] at h
     obtain ⟨rfl,rfl,rfl⟩:=h
     exact ⟨(walkL_bd (fun q hq n ws x n' ws' h=>ih q hq (lv + 1) n ws x n' ws' h) hn hr).1,finF_bd hf⟩
end Go.AW
namespace Go.AW
open Go Go.Proofs TyTry Go.IntWalk
set_option linter.unusedSimpArgs false
set_option linter.unusedVariables false
set_option maxRecDepth 10000
set_option maxHeartbeats 4000000
attribute [go_sem] List.modify_zero_cons
structure WRep (o : List Ob) (K M : Nat) (n : Nat) (bad : Bool) (ws : Names) : Prop where
 k : o[K]? = some (.cells 3 [[.i .i64 n,.mp M,.b bad]])
 m : o[M]? = some (.mapo (ents ws))
 ok : okO o = true
theorem WRep.ne {o : List Ob} {K M n : Nat} {bad : Bool} {ws : Names} (h : WRep o K M n bad ws) : K ≠ M:=by
 rintro rfl
 have:=h.k.symm.trans h.m
 simp at this
structure Fr2 (o o' : List Ob) (K M : Nat) : Prop where
 len : o.length ≤ o'.length
 get : ∀ j,j ≠ K → j ≠ M → j < o.length → o'[j]? = o[j]?
theorem Fr2.refl (o : List Ob) (K M : Nat) : Fr2 o o K M:=⟨Nat.le_refl _,fun _ _ _ _=>rfl⟩
theorem Fr2.trans {o o1 o2 : List Ob} {K M : Nat} (h : Fr2 o o1 K M) (h' : Fr2 o1 o2 K M) : Fr2 o o2 K M :=
 ⟨Nat.le_trans h.len h'.len,fun j a b c=>(h'.get j a b (Nat.lt_of_lt_of_le c h.len)).trans (h.get j a b c)⟩
theorem Fr2.app (o l : List Ob) (K M : Nat) : Fr2 o (o ++ l) K M:=⟨by simp,fun j _ _ h=>by rw [List.getElem?_append_left h]⟩
theorem WRep.app {o : List Ob} {K M n : Nat} {bad : Bool} {ws : Names} (h : WRep o K M n bad ws) {l : List Ob} (hl : l.all (Ob.ltk (o.length + l.length)) = true) : WRep (o ++ l) K M n bad ws :=
 ⟨app_get l h.k,app_get l h.m,okO_app h.ok hl⟩
theorem okO_set {o : List Ob} {i : Nat} {x : Ob} (h : okO o = true) (hx : x.ltk o.length = true) : okO (o.set i x) = true:=by
 unfold okO at h ⊢
 rw [List.all_eq_true] at h ⊢
 rw [List.length_set]
 intro y hy
 rcases List.mem_or_eq_of_mem_set hy with hy | rfl
 ·exact h y hy
 ·exact hx
theorem ents_ltk (k : Nat) (ws : Names) : (Ob.mapo (ents ws)).ltk k = true:=by
 simp [Ob.ltk,ents,AV.ltk]
theorem WRep.set {o : List Ob} {K M n : Nat} {bad : Bool} {ws : Names} (h : WRep o K M n bad ws) (n' : Nat) (bad' : Bool) : WRep (o.set K (.cells 3 [[.i .i64 n',.mp M,.b bad']])) K M n' bad' ws ∧ Fr2 o (o.set K (.cells 3 [[.i .i64 n',.mp M,.b bad']])) K M:=by
 have hM:=(List.getElem?_eq_some_iff.1 h.m).1
 refine ⟨⟨by rw [set_get h.k,if_pos rfl],by rw [set_get h.k,if_neg (Ne.symm h.ne)];exact h.m,okO_set h.ok (by simp [Ob.ltk,AV.ltk,hM])⟩,by simp,fun j a b c=>by rw [set_get h.k,if_neg a]⟩
theorem WRep.setM {o : List Ob} {K M n : Nat} {bad : Bool} {ws : Names} (h : WRep o K M n bad ws) (ws' : Names) : WRep (o.set M (.mapo (ents ws'))) K M n bad ws' ∧ Fr2 o (o.set M (.mapo (ents ws'))) K M:=by
 refine ⟨⟨by rw [set_get h.m,if_neg h.ne];exact h.k,by rw [set_get h.m,if_pos rfl],okO_set h.ok (ents_ltk _ _)⟩,by simp,fun j a b c=>by rw [set_get h.m,if_neg b]⟩
def WalkP (o : List Ob) (K M : Nat) (res : Option (Int × Nat × Names)) (r : AV) (o' : List Ob) : Prop:=Fr2 o o' K M ∧ match res with
 | some (w,n,ws)=>r = .i .i64 w ∧ WRep o' K M n false ws
 | none=>∃ (w : Int) (n : Nat) (ws : Names),r = .i .i64 w ∧ WRep o' K M n true ws
theorem WalkP.shape {o : List Ob} {K M : Nat} {res : Option (Int × Nat × Names)} {r : AV} {o' : List Ob} (h : WalkP o K M res r o') : o.length ≤ o'.length ∧ r.ltk o'.length = true ∧ okO o' = true:=by
 obtain ⟨h1,h2⟩:=h
 refine ⟨h1.len,?_⟩
 cases res with
 | none=>obtain ⟨w,n,ws,rfl,h⟩:=h2;exact ⟨rfl,h.ok⟩
 | some y=>obtain ⟨w,n,ws⟩:=y;obtain ⟨rfl,h⟩:=h2;exact ⟨rfl,h.ok⟩
abbrev boxP (p : PlanD) : Ob:=.cells 7 [[.i .i64 p.kind,.i .i64 p.width,.i .i64 p.i,.i .i64 p.j,.s p.name,.sl 1 (ints p.cols),.sl 7 (plans p.kids)]]
theorem boxP_ltk (k : Nat) (p : PlanD) : (boxP p).ltk k = true:=by simp [Ob.ltk,AV.ltk]
theorem walk_spec : ∀ (p : PlanD),p.Sm → ∀ (lv n : Nat) (ws : Names) (o : List Ob) (K M : Nat),n ≤ 4000 → lv ≤ 1001 → WRep o K M n false ws →
  ACalls Try.prog 41 [.ptr K 0 0,.agg p.cells,.i .i64 lv] o (WalkP o K M (walkF p lv n ws)) :=
 PlanD.ind fun p ih hp lv n ws o K M hn hlv h=>by
  have h1:=hp.cols
  have h2:=hp.name
  have h3:=hp.len
  have hsp:=spare_spec p
  have hkd:=kids_spec p.kind
  rw [PlanD.cells_eq] at hsp ⊢
  refine ACalls_of' (n:=191) (rs:=[.tmp 6]) (show Try.prog.funcs[41]? = some Try.f41 by kernel_rfl) rfl rfl rfl (by simp) (by decide +kernel) ?_
  repeat (first | refine nav ?_ | refine bo ?_)
  (refine wr fun K R hK hR=>?_;simp only [go_sem];(try go_ints);(repeat refine And.intro side ?_);(first|refine hK _ ?_|refine hR _ _ ?_);clear hK hR K R)
  have hB : (boxP p).ltk (o.length + 1) = true:=boxP_ltk _ p
  have ha:=h.app (l:=[boxP p]) (by simpa using hB)
  have hfa:=Fr2.app o [boxP p] K M
  have hab : (o ++ [boxP p])[o.length]? = some (boxP p):=by simp
  have hBK : o.length ≠ K:=by have:=(List.getElem?_eq_some_iff.1 h.k).1;omega
  have hBM : o.length ≠ M:=by have:=(List.getElem?_eq_some_iff.1 h.m).1;omega
  generalize ho1 : o ++ [boxP p] = o1 at *
  have hlen1 : o.length < o1.length:=by rw [← ho1];simp
  generalize hoB : o.length = B at *
  repeat (first | refine nav ?_ | refine bo ?_)
  (refine wr fun K R hK hR=>?_;simp only [go_sem,ha.k];(try go_ints);(try simp only [go_sem,ha.k]);(repeat refine And.intro side ?_);(first|refine hK _ ?_|refine hR _ _ ?_);clear hK hR K R)
  rw [show (n : Int) + 1 = ((n + 1 : Nat) : Int) from rfl]
  obtain ⟨hs,hfs⟩:=ha.set (n + 1) false
  have hab2 : (o1.set K (.cells 3 [[.i .i64 ((n + 1 : Nat) : Int),.mp M,.b false]]))[B]? = some (boxP p):=(hfs.get B hBK hBM hlen1).trans hab
  have hf1:=hfa.trans hfs
  generalize hres : walkF p lv n ws = res
  rw [walkF_eq] at hres
  have hn1 : n + 1 ≤ 4001:=by omega
  generalize n + 1 = n1 at *
  generalize o1.set K (.cells 3 [[.i .i64 (n1 : Int),.mp M,.b false]]) = o2 at *
  clear hfa hfs hab ha ho1 hlen1 o1 hn
  repeat (first | refine nav ?_ | refine bo ?_)
  (refine W_dreg (by decide +kernel) [] [0,1,2,3,4,5,6,7,8,9,10,11,12,13,14,15,16,17,18,19,20,21,22,23,24,25,26,27,28,29,30,31,32] [[],[0],[0,1],[1,0,2],[2,0,1,3],[3,1,0,2,4],[4,2,0,1,3,5],[5,4,6,2,0,1,3],[3,1,0,2,6,4,5,7],[7,5,4,6,2,0,1,3,8],[8,3,1,0,2,6,4,5,7,9],[9,7,5,4,6,2,0,1,3,8,10],[10,8,3,1,0,2,6,4,5,7,9,11],[11,9,7,5,4,6,2,0,1,3,8,10,12],[12,10,9,11,13,7,5,4,6,2,0,1,3,8],[8,3,1,0,2,6,4,5,7,13,11,9,10,12,14],[14,12,10,9,11,13,7,5,4,6,2,0,1,3,8,15],[15,8,3,1,0,2,6,4,5,7,13,11,9,10,12,14,16],[16,17,14,12,10,9,11,13,7,5,4,6,2,0,1,3,8,15],[15,8,3,1,0,2,6,4,5,7,13,11,9,10,12,14,17,16,18],[18,16,17,14,12,10,9,11,13,7,5,4,6,2,0,1,3,8,15,19],[19,15,8,3,1,0,2,6,4,5,7,13,11,9,10,12,14,17,16,18,20],[20,18,16,17,14,12,10,9,11,13,7,5,4,6,2,0,1,3,8,15,19,21],[21,20,22,18,16,17,14,12,10,9,11,13,7,5,4,6,2,0,1,3,8,15,19],[19,15,8,3,1,0,2,6,4,5,7,13,11,9,10,12,14,17,16,18,22,20,21,23],[23,21,20,22,18,16,17,14,12,10,9,11,13,7,5,4,6,2,0,1,3,8,15,19,24],[24,19,15,8,3,1,0,2,6,4,5,7,13,11,9,10,12,14,17,16,18,22,20,21,23,25],[25,23,21,20,22,18,16,17,14,12,10,9,11,13,7,5,4,6,2,0,1,3,8,15,19,24,26],[23,21,20,22,18,16,17,14,12,10,9,11,13,7,5,4,6,2,0,1,3,8,15,19,24],[24,19,15,8,3,1,0,2,6,4,5,7,13,11,9,10,12,14,17,16,18,22,20,21,23,28],[28,23,21,20,22,18,16,17,14,12,10,9,11,13,7,5,4,6,2,0,1,3,8,15,19,24,29],[29,28,30,26,24,19,15,8,3,1,0,2,6,4,5,7,13,11,9,10,12,14,17,16,18,22,20,21,23,25,27],[27,25,26,30,28,29,31,23,21,20,22,18,16,17,14,12,10,9,11,13,7,5,4,6,2,0,1,3,8,15,19,24]] (by decide +kernel) rfl fun K R hK hR=>?_;simp only [List.filterMap_cons,List.filterMap_nil,List.getElem?_cons_zero,List.getElem?_cons_succ,List.cons_append,List.nil_append];simp only [go_sem,hs.k,hab2];(try go_ints);(try simp only [go_sem,hs.k,hab2]);(repeat refine And.intro side ?_);(first|refine hK _ ?_|refine hR _ _ ?_);clear hK hR K R)
  refine D_callDg rfl (by simp only [go_sem]<;>exact rfl) (fun e=>hsp) rfl rfl rfl (fun e=>by (try simp only [go_sem] at e);simp only [go_sem,e]<;>(try simp only [go_sem])<;>first | exact LeA.refl _ | exact Le.refl _) rfl rfl rfl rfl ?_
  (refine D_reg fun K R hK hR=>?_;simp only [go_sem,hs.k,hab2];(try go_ints);(try simp only [go_sem,hs.k,hab2]);(repeat refine And.intro side ?_);(first|refine hK _ ?_|refine hR _ _ ?_);clear hK hR K R)
  refine D_callDg rfl (by simp only [go_sem]<;>exact rfl) (fun e=>hkd) rfl rfl rfl (fun e=>by (try simp only [go_sem] at e);simp only [go_sem,e]<;>(try simp only [go_sem])<;>first | exact LeA.refl _ | exact Le.refl _) rfl rfl rfl rfl ?_
  (refine D_reg fun K R hK hR=>?_;simp only [go_sem];(try go_ints);(repeat refine And.intro side ?_);(first|refine hK _ ?_|refine hR _ _ ?_);clear hK hR K R)
  repeat (first | refine nav ?_ | refine bo ?_)
  refine W_cond (b:=badF p lv n1) (by simp only [go_sem]<;>exact rfl) (fun hb=>?_) (fun hb=>?_)
  ·rw [if_pos hb] at hres
   subst hres
   repeat (first | refine nav ?_ | refine bo ?_)
   (refine wr fun K R hK hR=>?_;simp only [go_sem,hs.k];(try go_ints);(try simp only [go_sem,hs.k]);(repeat refine And.intro side ?_);(first|refine hK _ ?_|refine hR _ _ ?_);clear hK hR K R)
   obtain ⟨hs2,hfs2⟩:=hs.set n1 true
   generalize o2.set K (.cells 3 [[.i .i64 (n1 : Int),.mp M,.b true]]) = o3 at *
   repeat (first | refine nav ?_ | refine bo ?_)
   (refine wr fun K R hK hR=>?_;simp only [go_sem,hs2.k];(try go_ints);(try simp only [go_sem,hs2.k]);(repeat refine And.intro side ?_);(first|refine hK _ ?_|refine hR _ _ ?_);clear hK hR K R)
   repeat (first | refine nav ?_ | refine bo ?_)
   refine W_cond (b:=true) (by simp only [go_sem]<;>exact rfl) (fun _=>?_) (fun hb=>by cases hb)
   repeat (first | refine nav ?_ | refine bo ?_)
   (refine wr fun K R hK hR=>?_;simp only [go_sem];(try go_ints);(repeat refine And.intro side ?_);(first|refine hK _ ?_|refine hR _ _ ?_);clear hK hR K R)
   repeat (first | refine nav ?_ | refine bo ?_)
   exact endQ_all (by simp only [go_sem]<;>exact rfl) (Le.refl _) (by have:=(hf1.trans hfs2).len;simp only;omega) hs2.ok rfl ⟨hf1.trans hfs2,0,n1,ws,rfl,hs2⟩
  rw [if_neg (by simp [hb])] at hres
  repeat (first | refine nav ?_ | refine bo ?_)
  (refine wr fun K R hK hR=>?_;simp only [go_sem,hs.k];(try go_ints);(try simp only [go_sem,hs.k]);(repeat refine And.intro side ?_);(first|refine hK _ ?_|refine hR _ _ ?_);clear hK hR K R)
  repeat (first | refine nav ?_ | refine bo ?_)
  refine W_cond (b:=false) (by simp only [go_sem]<;>exact rfl) (fun hb=>by cases hb) (fun _=>?_)
  have hb2 : (n1 : Int) ≤ 4000 ∧ (lv : Int) ≤ 1000 ∧ (p.kids.length : Int) = kidsF p.kind ∧ 0 ≤ p.kind ∧ p.kind < 8:=by
   unfold badF at hb
   simp only [Bool.or_eq_false_iff,decide_eq_false_iff_not,bne_eq_false_iff_eq] at hb
   omega
  have hkl : p.kids.length ≤ 2:=by
   have : kidsF p.kind ≤ 2:=by unfold kidsF;split<;>(try split)<;>omega
   omega
  repeat (first | refine nav ?_ | refine bo ?_)
  (refine wr fun K R hK hR=>?_;simp only [go_sem];(try go_ints);(repeat refine And.intro side ?_);(first|refine hK _ ?_|refine hR _ _ ?_);clear hK hR K R)
  repeat (first | refine nav ?_ | refine bo ?_)
  (refine wr fun K R hK hR=>?_;simp only [go_sem,hab2];(try go_ints);(try simp only [go_sem,hab2]);(repeat refine And.intro side ?_);(first|refine hK _ ?_|refine hR _ _ ?_);clear hK hR K R)
  refine seqQ_normal ?_
  have hls : ∀ {k : Nat} {l : List Int} {n' : Nat} {ws' : Names},walkL (p.kids.take k) (lv + 1) n1 ws = some (l,n',ws') → n' ≤ 4000 ∧ l.length = (p.kids.take k).length ∧ ∀ x ∈ l,0 ≤ x ∧ x ≤ 12 :=
   fun h=>walkL_bd (fun q _ n ws x n' ws' h=>walkF_bd q _ n ws x n' ws' h) (by omega) h
  repeat (first | refine nav ?_ | refine bo ?_)
  refine W_for 63 80 [7,9] (fun m t o'=>∃ (k : Nat) (of : List Int) (n' : Nat) (ws' : Names),WRep o' K M n' false ws' ∧ Fr2 o2 o' K M ∧ t 63 = .i .i64 k ∧ t 7 = .own 1 (ints of) ∧ m = p.kids.length - k ∧ k ≤ p.kids.length ∧ walkL (p.kids.take k) (lv + 1) n1 ws = some (of,n',ws')) p.kids.length
   ⟨0,[],n1,ws,hs,Fr2.refl _ _ _,by simp only [go_sem]<;>rfl,by simp only [go_sem]<;>rfl,by omega,by omega,rfl⟩ ?_
  rintro m t o' ⟨k,of,n',ws',hw,hfr,h63,h7,rfl,hk,hwl⟩
  have hbx : o'[B]? = some (boxP p):=(hfr.get B hBK hBM (List.getElem?_eq_some_iff.1 hab2).1).trans hab2
  obtain ⟨hn',hofl,hofb⟩:=hls hwl
  rw [List.length_take,Nat.min_eq_left hk] at hofl
  repeat (first | refine nav ?_ | refine bo ?_)
  (refine wr fun K R hK hR=>?_;simp only [go_sem,h63];(try go_ints);(try simp only [go_sem,h63]);(repeat refine And.intro side ?_);(first|refine hK _ ?_|refine hR _ _ ?_);clear hK hR K R)
  repeat (first | refine nav ?_ | refine bo ?_)
  refine W_cond (by simp only [go_sem]<;>exact rfl) (fun hb=>?_) (fun hb=>?_)
  ·have hb1 : k < p.kids.length:=by simpa using hb
   obtain ⟨x,hx⟩ : ∃ x,p.kids[k]? = some x:=⟨_,List.getElem?_eq_getElem hb1⟩
   have hxm:=List.mem_of_getElem? hx
   have htk : p.kids.take (k + 1) = p.kids.take k ++ [x]:=by rw [List.take_add_one,hx];rfl
   have hcx:=x.cells_eq
   repeat (first | refine nav ?_ | refine bo ?_)
   (refine wr fun K R hK hR=>?_;simp only [go_sem,h63,plans_get hx];(try go_ints);(try simp only [go_sem,h63,plans_get hx]);(repeat refine And.intro side ?_);(first|refine hK _ ?_|refine hR _ _ ?_);clear hK hR K R)
   have hw3:=hw.app (l:=[boxP x]) (by simpa using boxP_ltk (o'.length + 1) x)
   have hf3:=hfr.trans (Fr2.app o' [boxP x] K M)
   have hbx3 : (o' ++ [boxP x])[o'.length]? = some (boxP x):=by simp
   generalize o' ++ [boxP x] = o3 at *
   generalize o'.length = L at *
   have ihx:=ih x hxm (hp.kid x hxm) (lv + 1) n' ws' o3 K M hn' (by omega) hw3
   rw [hcx,show ((lv + 1 : Nat) : Int) = lv + 1 from rfl] at ihx
   have hK3:=(List.getElem?_eq_some_iff.1 hw3.k).1
   repeat (first | refine nav ?_ | refine bo ?_)
   (refine W_reg [67] fun K R hK hR=>?_;simp only [go_sem,h7,hbx3];(try go_ints);(try simp only [go_sem,h7,hbx3]);(repeat refine And.intro side ?_);(first|refine hK _ ?_|refine hR _ _ ?_);clear hK hR K R)
   refine RL_callE ihx (fun r o' h=>h.shape) (by simp only [go_sem]<;>exact rfl) rfl rfl (by simp) (by simp only [go_sem]<;>exact LeA.refl _) hw3.ok (by simp [AV.ltk,AV.ltks,hK3]) ?_
   rintro r o4 ⟨hf4,hpost⟩
   have hsn:=walkL_snoc x (lv + 1) (p.kids.take k) n1 ws
   rw [hwl,← htk] at hsn
   simp only at hsn
   cases hwx : walkF x (lv + 1) n' ws' with
   | none =>
    rw [hwx] at hpost hsn
    obtain ⟨w4,n4,ws4,rfl,hw4⟩:=hpost
    (refine rr fun K R hK hR=>?_;simp only [go_sem,ints_len,hofl];(try go_ints);(try simp only [go_sem,ints_len,hofl]);(repeat refine And.intro side ?_);(first|refine hK _ ?_|refine hR _ _ ?_);clear hK hR K R)
    repeat (first | refine nav ?_ | refine bo ?_)
    (refine wr fun K R hK hR=>?_;simp only [go_sem,hw4.k];(try go_ints);(try simp only [go_sem,hw4.k]);(repeat refine And.intro side ?_);(first|refine hK _ ?_|refine hR _ _ ?_);clear hK hR K R)
    repeat (first | refine nav ?_ | refine bo ?_)
    refine W_cond (b:=true) (by simp only [go_sem]<;>exact rfl) (fun _=>?_) (fun hb=>by cases hb)
    have hno : walkL p.kids (lv + 1) n1 ws = none:=by
     rw [← List.take_append_drop (k + 1) p.kids]
     exact walkL_stop hsn
    rw [hno] at hres
    subst hres
    repeat (first | refine nav ?_ | refine bo ?_)
    (refine wr fun K R hK hR=>?_;simp only [go_sem];(try go_ints);(repeat refine And.intro side ?_);(first|refine hK _ ?_|refine hR _ _ ?_);clear hK hR K R)
    repeat (first | refine nav ?_ | refine bo ?_)
    have hff:=(hf1.trans hf3).trans hf4
    exact endQ_all (by simp only [go_sem]<;>exact rfl) (Le.refl _) (by have:=hff.len;simp only;omega) hw4.ok rfl ⟨hff,0,n4,ws4,rfl,hw4⟩
   | some y =>
    obtain ⟨w4,n4,ws4⟩:=y
    rw [hwx] at hpost hsn
    obtain ⟨rfl,hw4⟩:=hpost
    (refine rr fun K R hK hR=>?_;simp only [go_sem,ints_len,hofl];(try go_ints);(try simp only [go_sem,ints_len,hofl]);(repeat refine And.intro side ?_);(first|refine hK _ ?_|refine hR _ _ ?_);clear hK hR K R)
    repeat (first | refine nav ?_ | refine bo ?_)
    (refine wr fun K R hK hR=>?_;simp only [go_sem,hw4.k];(try go_ints);(try simp only [go_sem,hw4.k]);(repeat refine And.intro side ?_);(first|refine hK _ ?_|refine hR _ _ ?_);clear hK hR K R)
    repeat (first | refine nav ?_ | refine bo ?_)
    refine W_cond (b:=false) (by simp only [go_sem]<;>exact rfl) (fun hb=>by cases hb) (fun _=>?_)
    repeat (first | refine nav ?_ | refine bo ?_)
    (refine wr fun K R hK hR=>?_;simp only [go_sem,h63];(try go_ints);(try simp only [go_sem,h63]);(repeat refine And.intro side ?_);(first|refine hK _ ?_|refine hR _ _ ?_);clear hK hR K R)
    refine forQ_normal (p.kids.length - (k + 1)) (by omega) ⟨k + 1,of ++ [w4],n4,ws4,hw4,hf3.trans hf4,by simp only [go_sem]<;>simp,by rw [ints_push];simp only [go_sem],rfl,by omega,hsn⟩
  ·have hk' : k = p.kids.length:=by
    have : ¬ k < p.kids.length:=by simpa using hb
    omega
   subst hk'
   rw [List.take_length] at hwl
   rw [hwl] at hres
   simp only at hres
   repeat (first | refine nav ?_ | refine bo ?_)
   (refine wr fun K R hK hR=>?_;simp only [go_sem,hbx];(try go_ints);(try simp only [go_sem,hbx]);(repeat refine And.intro side ?_);(first|refine hK _ ?_|refine hR _ _ ?_);clear hK hR K R)
   repeat (first | refine nav ?_ | refine bo ?_)
   (refine wr fun K R hK hR=>?_;simp only [go_sem,hbx];(try go_ints);(try simp only [go_sem,hbx]);(repeat refine And.intro side ?_);(first|refine hK _ ?_|refine hR _ _ ?_);clear hK hR K R)
   refine seqQ_normal ?_
   refine W_joinS 84 175 [10,11,12] (fun t o=>∃ (w : Int) (b1 : Bool) (ws5 : Names),t 10 = .i .i64 w ∧ WRep o K M n' b1 ws5 ∧ Fr2 o' o K M ∧ finF p of ws' = (if (b1 || decide (w < 0) || decide (w > 12)) = true then none else some (w,ws5))) ?_ ?_
   ·have hkk : p.kind = 0 ∨ p.kind = 1 ∨ p.kind = 2 ∨ p.kind = 3 ∨ p.kind = 4 ∨ p.kind = 5 ∨ p.kind = 6 ∨ p.kind = 7:=by omega
    have hnm:=name_spec p.name (by omega)
    rcases hkk with hk | hk | hk | hk | hk | hk | hk | hk
    ·rw [hk] at hb2
     repeat (first | refine nav ?_ | refine bo ?_)
     (refine wr fun K R hK hR=>?_;simp only [go_sem];(try go_ints);(repeat refine And.intro side ?_);(first|refine hK _ ?_|refine hR _ _ ?_);clear hK hR K R)
     repeat (first | refine nav ?_ | refine bo ?_)
     refine W_cond (b:=true) (by simp only [go_sem,hk]<;>rfl) (fun hb=>?_) (fun hb=>by cases hb)
     cases hln : lookN p.name ws' with
     | none =>
      have hmf:=mfind_ents p.name ws'
      rw [hln] at hmf
      simp only [Option.map_none,Option.map_some] at hmf
      repeat (first | refine nav ?_ | refine bo ?_)
      (refine W_dreg (by decide +kernel) [] [0,1,2,3,4,5,6,7,8,9,10,11] [[],[0],[0,1],[1,0,2],[],[4],[4,5,2,0,1,3],[3,1,0,2,5,4,6],[6,4,5,2,0,1,3,7],[6,4,5,2,0,1,3,7],[7,3,1,0,2,5,4,6,8],[8,10,7,3,1,0,2,5,4,6,9]] (by decide +kernel) rfl fun K R hK hR=>?_;simp only [List.filterMap_cons,List.filterMap_nil,List.getElem?_cons_zero,List.getElem?_cons_succ,List.cons_append,List.nil_append];simp only [go_sem,hw.k,hw.m,hbx,hmf];(try go_ints);(try simp only [go_sem,hw.k,hw.m,hbx,hmf]);(repeat refine And.intro side ?_);(first|refine hK _ ?_|refine hR _ _ ?_);clear hK hR K R)
      have hfinN : ∀ b1,(!nameF p.name || false) = b1 → finF p of ws' = (if (b1 || decide (p.width < 0) || decide (p.width > 12)) = true then none else some (p.width,setN p.name p.width ws')):=by
       rintro b1 rfl
       unfold finF
       simp only [hk,if_true,hln]
      cases hnf : nameF p.name
      ·rw [hnf] at hnm hfinN
       repeat (first | refine nav ?_ | refine bo ?_)
       (refine wr fun K R hK hR=>?_;simp only [go_sem,hbx];(try go_ints);(try simp only [go_sem,hbx]);(repeat refine And.intro side ?_);(first|refine hK _ ?_|refine hR _ _ ?_);clear hK hR K R)
       refine RL_callF (hnm) rfl rfl rfl (by first | (simp only [go_sem]<;>first | exact LeA.refl _ | exact Le.refl _) | exact LeA.refl _) rfl rfl ?_
       (refine rr fun K R hK hR=>?_;simp only [go_sem,hw.k];(try go_ints);(try simp only [go_sem,hw.k]);(repeat refine And.intro side ?_);(first|refine hK _ ?_|refine hR _ _ ?_);clear hK hR K R)
       obtain ⟨hs6,hf6⟩:=hw.set n' true
       have hbx6:=(hf6.get B hBK hBM (List.getElem?_eq_some_iff.1 hbx).1).trans hbx
       generalize o'.set K (.cells 3 [[.i .i64 (n' : Int),.mp M,.b true]]) = o6 at *
       have hms:=mset_ents p.name p.width ws'
       obtain ⟨hs7,hf7⟩:=hs6.setM (setN p.name p.width ws')
       repeat (first | refine nav ?_ | refine bo ?_)
       (refine W_dreg (by decide +kernel) [] [0,1,2,3,4,5,6,7] [[],[0],[0,1],[1,0,2],[],[4],[],[6,4,5,2,0,1,3]] (by decide +kernel) rfl fun K R hK hR=>?_;simp only [List.filterMap_cons,List.filterMap_nil,List.getElem?_cons_zero,List.getElem?_cons_succ,List.cons_append,List.nil_append];simp only [go_sem,hs6.k,hs6.m,hbx6,hms];(try go_ints);(try simp only [go_sem,hs6.k,hs6.m,hbx6,hms]);(repeat refine And.intro side ?_);(first|refine hK _ ?_|refine hR _ _ ?_);clear hK hR K R)
       repeat (first | refine nav ?_ | refine bo ?_)
       exact joinQ_normal ⟨p.width,true,_,by simp only [go_sem],hs7,hf6.trans hf7,hfinN _ (by simp)⟩
      ·rw [hnf] at hnm hfinN
       repeat (first | refine nav ?_ | refine bo ?_)
       (refine wr fun K R hK hR=>?_;simp only [go_sem,hbx];(try go_ints);(try simp only [go_sem,hbx]);(repeat refine And.intro side ?_);(first|refine hK _ ?_|refine hR _ _ ?_);clear hK hR K R)
       refine RL_callF (hnm) rfl rfl rfl (by first | (simp only [go_sem]<;>first | exact LeA.refl _ | exact Le.refl _) | exact LeA.refl _) rfl rfl ?_
       (refine rr fun K R hK hR=>?_;simp only [go_sem,hw.k];(try go_ints);(try simp only [go_sem,hw.k]);(repeat refine And.intro side ?_);(first|refine hK _ ?_|refine hR _ _ ?_);clear hK hR K R)
       obtain ⟨hs6,hf6⟩:=hw.set n' false
       have hbx6:=(hf6.get B hBK hBM (List.getElem?_eq_some_iff.1 hbx).1).trans hbx
       generalize o'.set K (.cells 3 [[.i .i64 (n' : Int),.mp M,.b false]]) = o6 at *
       have hms:=mset_ents p.name p.width ws'
       obtain ⟨hs7,hf7⟩:=hs6.setM (setN p.name p.width ws')
       repeat (first | refine nav ?_ | refine bo ?_)
       (refine W_dreg (by decide +kernel) [] [0,1,2,3,4,5,6,7] [[],[0],[0,1],[1,0,2],[],[4],[],[6,4,5,2,0,1,3]] (by decide +kernel) rfl fun K R hK hR=>?_;simp only [List.filterMap_cons,List.filterMap_nil,List.getElem?_cons_zero,List.getElem?_cons_succ,List.cons_append,List.nil_append];simp only [go_sem,hs6.k,hs6.m,hbx6,hms];(try go_ints);(try simp only [go_sem,hs6.k,hs6.m,hbx6,hms]);(repeat refine And.intro side ?_);(first|refine hK _ ?_|refine hR _ _ ?_);clear hK hR K R)
       repeat (first | refine nav ?_ | refine bo ?_)
       exact joinQ_normal ⟨p.width,false,_,by simp only [go_sem],hs7,hf6.trans hf7,hfinN _ (by simp)⟩
     | some nn =>
      have hmf:=mfind_ents p.name ws'
      rw [hln] at hmf
      simp only [Option.map_none,Option.map_some] at hmf
      repeat (first | refine nav ?_ | refine bo ?_)
      (refine W_dreg (by decide +kernel) [] [0,1,2,3,4,5,6,7,8,9,10,11] [[],[0],[0,1],[1,0,2],[],[4],[4,5,2,0,1,3],[3,1,0,2,5,4,6],[6,4,5,2,0,1,3,7],[6,4,5,2,0,1,3,7],[7,3,1,0,2,5,4,6,8],[8,10,7,3,1,0,2,5,4,6,9]] (by decide +kernel) rfl fun K R hK hR=>?_;simp only [List.filterMap_cons,List.filterMap_nil,List.getElem?_cons_zero,List.getElem?_cons_succ,List.cons_append,List.nil_append];simp only [go_sem,hw.k,hw.m,hbx,hmf];(try go_ints);(try simp only [go_sem,hw.k,hw.m,hbx,hmf]);(repeat refine And.intro side ?_);(first|refine hK _ ?_|refine hR _ _ ?_);clear hK hR K R)
      have hfinN : ∀ b1,(!nameF p.name || nn != p.width) = b1 → finF p of ws' = (if (b1 || decide (p.width < 0) || decide (p.width > 12)) = true then none else some (p.width,setN p.name p.width ws')):=by
       rintro b1 rfl
       unfold finF
       simp only [hk,if_true,hln]
      cases hnf : nameF p.name
      ·rw [hnf] at hnm hfinN
       repeat (first | refine nav ?_ | refine bo ?_)
       (refine wr fun K R hK hR=>?_;simp only [go_sem,hbx];(try go_ints);(try simp only [go_sem,hbx]);(repeat refine And.intro side ?_);(first|refine hK _ ?_|refine hR _ _ ?_);clear hK hR K R)
       refine RL_callF (hnm) rfl rfl rfl (by first | (simp only [go_sem]<;>first | exact LeA.refl _ | exact Le.refl _) | exact LeA.refl _) rfl rfl ?_
       (refine rr fun K R hK hR=>?_;simp only [go_sem,hw.k];(try go_ints);(try simp only [go_sem,hw.k]);(repeat refine And.intro side ?_);(first|refine hK _ ?_|refine hR _ _ ?_);clear hK hR K R)
       obtain ⟨hs6,hf6⟩:=hw.set n' true
       have hbx6:=(hf6.get B hBK hBM (List.getElem?_eq_some_iff.1 hbx).1).trans hbx
       generalize o'.set K (.cells 3 [[.i .i64 (n' : Int),.mp M,.b true]]) = o6 at *
       have hms:=mset_ents p.name p.width ws'
       obtain ⟨hs7,hf7⟩:=hs6.setM (setN p.name p.width ws')
       repeat (first | refine nav ?_ | refine bo ?_)
       (refine W_dreg (by decide +kernel) [] [0,1,2,3,4,5,6,7] [[],[0],[0,1],[1,0,2],[],[4],[],[6,4,5,2,0,1,3]] (by decide +kernel) rfl fun K R hK hR=>?_;simp only [List.filterMap_cons,List.filterMap_nil,List.getElem?_cons_zero,List.getElem?_cons_succ,List.cons_append,List.nil_append];simp only [go_sem,hs6.k,hs6.m,hbx6,hms];(try go_ints);(try simp only [go_sem,hs6.k,hs6.m,hbx6,hms]);(repeat refine And.intro side ?_);(first|refine hK _ ?_|refine hR _ _ ?_);clear hK hR K R)
       repeat (first | refine nav ?_ | refine bo ?_)
       exact joinQ_normal ⟨p.width,true,_,by simp only [go_sem],hs7,hf6.trans hf7,hfinN _ (by simp)⟩
      ·rw [hnf] at hnm hfinN
       repeat (first | refine nav ?_ | refine bo ?_)
       (refine wr fun K R hK hR=>?_;simp only [go_sem,hbx];(try go_ints);(try simp only [go_sem,hbx]);(repeat refine And.intro side ?_);(first|refine hK _ ?_|refine hR _ _ ?_);clear hK hR K R)
       refine RL_callF (hnm) rfl rfl rfl (by first | (simp only [go_sem]<;>first | exact LeA.refl _ | exact Le.refl _) | exact LeA.refl _) rfl rfl ?_
       (refine rr fun K R hK hR=>?_;simp only [go_sem,hw.k];(try go_ints);(try simp only [go_sem,hw.k]);(repeat refine And.intro side ?_);(first|refine hK _ ?_|refine hR _ _ ?_);clear hK hR K R)
       obtain ⟨hs6,hf6⟩:=hw.set n' (nn != p.width)
       have hbx6:=(hf6.get B hBK hBM (List.getElem?_eq_some_iff.1 hbx).1).trans hbx
       generalize o'.set K (.cells 3 [[.i .i64 (n' : Int),.mp M,.b (nn != p.width)]]) = o6 at *
       have hms:=mset_ents p.name p.width ws'
       obtain ⟨hs7,hf7⟩:=hs6.setM (setN p.name p.width ws')
       repeat (first | refine nav ?_ | refine bo ?_)
       (refine W_dreg (by decide +kernel) [] [0,1,2,3,4,5,6,7] [[],[0],[0,1],[1,0,2],[],[4],[],[6,4,5,2,0,1,3]] (by decide +kernel) rfl fun K R hK hR=>?_;simp only [List.filterMap_cons,List.filterMap_nil,List.getElem?_cons_zero,List.getElem?_cons_succ,List.cons_append,List.nil_append];simp only [go_sem,hs6.k,hs6.m,hbx6,hms];(try go_ints);(try simp only [go_sem,hs6.k,hs6.m,hbx6,hms]);(repeat refine And.intro side ?_);(first|refine hK _ ?_|refine hR _ _ ?_);clear hK hR K R)
       repeat (first | refine nav ?_ | refine bo ?_)
       exact joinQ_normal ⟨p.width,(nn != p.width),_,by simp only [go_sem],hs7,hf6.trans hf7,hfinN _ (by simp)⟩
    ·rw [hk] at hb2
     repeat (first | refine nav ?_ | refine bo ?_)
     (refine wr fun K R hK hR=>?_;simp only [go_sem];(try go_ints);(repeat refine And.intro side ?_);(first|refine hK _ ?_|refine hR _ _ ?_);clear hK hR K R)
     repeat (first | refine nav ?_ | refine bo ?_)
     refine W_cond (b:=false) (by simp only [go_sem,hk]<;>rfl) (fun hb=>by cases hb) (fun hb=>?_)
     repeat (first | refine nav ?_ | refine bo ?_)
     (refine wr fun K R hK hR=>?_;simp only [go_sem];(try go_ints);(repeat refine And.intro side ?_);(first|refine hK _ ?_|refine hR _ _ ?_);clear hK hR K R)
     repeat (first | refine nav ?_ | refine bo ?_)
     refine W_cond (b:=false) (by simp only [go_sem,hk]<;>rfl) (fun hb=>by cases hb) (fun hb=>?_)
     repeat (first | refine nav ?_ | refine bo ?_)
     (refine wr fun K R hK hR=>?_;simp only [go_sem];(try go_ints);(repeat refine And.intro side ?_);(first|refine hK _ ?_|refine hR _ _ ?_);clear hK hR K R)
     repeat (first | refine nav ?_ | refine bo ?_)
     refine W_cond (b:=false) (by simp only [go_sem,hk]<;>rfl) (fun hb=>by cases hb) (fun hb=>?_)
     repeat (first | refine nav ?_ | refine bo ?_)
     (refine wr fun K R hK hR=>?_;simp only [go_sem];(try go_ints);(repeat refine And.intro side ?_);(first|refine hK _ ?_|refine hR _ _ ?_);clear hK hR K R)
     repeat (first | refine nav ?_ | refine bo ?_)
     refine W_cond (b:=false) (by simp only [go_sem,hk]<;>rfl) (fun hb=>by cases hb) (fun hb=>?_)
     repeat (first | refine nav ?_ | refine bo ?_)
     (refine wr fun K R hK hR=>?_;simp only [go_sem];(try go_ints);(repeat refine And.intro side ?_);(first|refine hK _ ?_|refine hR _ _ ?_);clear hK hR K R)
     repeat (first | refine nav ?_ | refine bo ?_)
     refine W_cond (b:=false) (by simp only [go_sem,hk]<;>rfl) (fun hb=>by cases hb) (fun hb=>?_)
     repeat (first | refine nav ?_ | refine bo ?_)
     (refine wr fun K R hK hR=>?_;simp only [go_sem];(try go_ints);(repeat refine And.intro side ?_);(first|refine hK _ ?_|refine hR _ _ ?_);clear hK hR K R)
     repeat (first | refine nav ?_ | refine bo ?_)
     refine W_cond (b:=false) (by simp only [go_sem,hk]<;>rfl) (fun hb=>by cases hb) (fun hb=>?_)
     repeat (first | refine nav ?_ | refine bo ?_)
     (refine wr fun K R hK hR=>?_;simp only [go_sem];(try go_ints);(repeat refine And.intro side ?_);(first|refine hK _ ?_|refine hR _ _ ?_);clear hK hR K R)
     repeat (first | refine nav ?_ | refine bo ?_)
     refine W_cond (b:=false) (by simp only [go_sem,hk]<;>rfl) (fun hb=>by cases hb) (fun hb=>?_)
     repeat (first | refine nav ?_ | refine bo ?_)
     exact joinQ_normal ⟨p.width,false,ws',by simp only [go_sem],hw,Fr2.refl _ _ _,by unfold finF;simp [hk]⟩
    ·rw [hk] at hb2
     obtain ⟨a,rfl⟩ : ∃ a,of = [a]:=List.length_eq_one_iff.1 (by have h0 : kidsF 2 = 1:=rfl;omega)
     have hia : ints [a] = [[.i .i64 a]]:=rfl
     repeat (first | refine nav ?_ | refine bo ?_)
     (refine wr fun K R hK hR=>?_;simp only [go_sem];(try go_ints);(repeat refine And.intro side ?_);(first|refine hK _ ?_|refine hR _ _ ?_);clear hK hR K R)
     repeat (first | refine nav ?_ | refine bo ?_)
     refine W_cond (b:=false) (by simp only [go_sem,hk]<;>rfl) (fun hb=>by cases hb) (fun hb=>?_)
     repeat (first | refine nav ?_ | refine bo ?_)
     (refine wr fun K R hK hR=>?_;simp only [go_sem];(try go_ints);(repeat refine And.intro side ?_);(first|refine hK _ ?_|refine hR _ _ ?_);clear hK hR K R)
     repeat (first | refine nav ?_ | refine bo ?_)
     refine W_cond (b:=true) (by simp only [go_sem,hk]<;>rfl) (fun hb=>?_) (fun hb=>by cases hb)
     repeat (first | refine nav ?_ | refine bo ?_)
     refine W_cond (b:=true) (by simp only [go_sem,hk]<;>rfl) (fun hb=>?_) (fun hb=>by cases hb)
     have hin:=inside_spec a [p.i,p.j] (by simp)
     rw [show ints [p.i,p.j] = [[.i .i64 p.i],[.i .i64 p.j]] from rfl] at hin
     obtain ⟨hs6,hf6⟩:=hw.set n' (!insideF a [p.i,p.j])
     repeat (first | refine nav ?_ | refine bo ?_)
     (refine wr fun K R hK hR=>?_;simp only [go_sem,h7,hia];(try go_ints);(try simp only [go_sem,h7,hia]);(repeat refine And.intro side ?_);(first|refine hK _ ?_|refine hR _ _ ?_);clear hK hR K R)
     repeat (first | refine nav ?_ | refine bo ?_)
     (refine wr fun K R hK hR=>?_;simp only [go_sem,hbx];(try go_ints);(try simp only [go_sem,hbx]);(repeat refine And.intro side ?_);(first|refine hK _ ?_|refine hR _ _ ?_);clear hK hR K R)
     refine RL_callF (hin) rfl rfl rfl (by first | (simp only [go_sem]<;>first | exact LeA.refl _ | exact Le.refl _) | exact LeA.refl _) rfl rfl ?_
     (refine rr fun K R hK hR=>?_;simp only [go_sem,hw.k];(try go_ints);(try simp only [go_sem,hw.k]);(repeat refine And.intro side ?_);(first|refine hK _ ?_|refine hR _ _ ?_);clear hK hR K R)
     repeat (first | refine nav ?_ | refine bo ?_)
     exact joinQ_normal ⟨a,(!insideF a [p.i,p.j]),ws',by simp only [go_sem],hs6,hf6,by unfold finF;simp [hk]⟩
    ·rw [hk] at hb2
     obtain ⟨a,rfl⟩ : ∃ a,of = [a]:=List.length_eq_one_iff.1 (by have h0 : kidsF 3 = 1:=rfl;omega)
     have hia : ints [a] = [[.i .i64 a]]:=rfl
     repeat (first | refine nav ?_ | refine bo ?_)
     (refine wr fun K R hK hR=>?_;simp only [go_sem];(try go_ints);(repeat refine And.intro side ?_);(first|refine hK _ ?_|refine hR _ _ ?_);clear hK hR K R)
     repeat (first | refine nav ?_ | refine bo ?_)
     refine W_cond (b:=false) (by simp only [go_sem,hk]<;>rfl) (fun hb=>by cases hb) (fun hb=>?_)
     repeat (first | refine nav ?_ | refine bo ?_)
     (refine wr fun K R hK hR=>?_;simp only [go_sem];(try go_ints);(repeat refine And.intro side ?_);(first|refine hK _ ?_|refine hR _ _ ?_);clear hK hR K R)
     repeat (first | refine nav ?_ | refine bo ?_)
     refine W_cond (b:=false) (by simp only [go_sem,hk]<;>rfl) (fun hb=>by cases hb) (fun hb=>?_)
     repeat (first | refine nav ?_ | refine bo ?_)
     (refine wr fun K R hK hR=>?_;simp only [go_sem];(try go_ints);(repeat refine And.intro side ?_);(first|refine hK _ ?_|refine hR _ _ ?_);clear hK hR K R)
     repeat (first | refine nav ?_ | refine bo ?_)
     refine W_cond (b:=true) (by simp only [go_sem,hk]<;>rfl) (fun hb=>?_) (fun hb=>by cases hb)
     have hin:=inside_spec a [p.i,p.j] (by simp)
     rw [show ints [p.i,p.j] = [[.i .i64 p.i],[.i .i64 p.j]] from rfl] at hin
     obtain ⟨hs6,hf6⟩:=hw.set n' (!insideF a [p.i,p.j])
     repeat (first | refine nav ?_ | refine bo ?_)
     (refine wr fun K R hK hR=>?_;simp only [go_sem,h7,hia];(try go_ints);(try simp only [go_sem,h7,hia]);(repeat refine And.intro side ?_);(first|refine hK _ ?_|refine hR _ _ ?_);clear hK hR K R)
     repeat (first | refine nav ?_ | refine bo ?_)
     (refine wr fun K R hK hR=>?_;simp only [go_sem,hbx];(try go_ints);(try simp only [go_sem,hbx]);(repeat refine And.intro side ?_);(first|refine hK _ ?_|refine hR _ _ ?_);clear hK hR K R)
     refine RL_callF (hin) rfl rfl rfl (by first | (simp only [go_sem]<;>first | exact LeA.refl _ | exact Le.refl _) | exact LeA.refl _) rfl rfl ?_
     (refine rr fun K R hK hR=>?_;simp only [go_sem,hw.k];(try go_ints);(try simp only [go_sem,hw.k]);(repeat refine And.intro side ?_);(first|refine hK _ ?_|refine hR _ _ ?_);clear hK hR K R)
     repeat (first | refine nav ?_ | refine bo ?_)
     exact joinQ_normal ⟨a,(!insideF a [p.i,p.j]),ws',by simp only [go_sem],hs6,hf6,by unfold finF;simp [hk]⟩
    ·rw [hk] at hb2
     obtain ⟨a,b,rfl⟩ : ∃ a b,of = [a,b]:=by
      have h2 : of.length = 2:=by have h0 : kidsF 4 = 2:=rfl;omega
      match of,h2 with
      | [a,b],_=>exact ⟨a,b,rfl⟩
     have hia : ints [a,b] = [[.i .i64 a],[.i .i64 b]]:=rfl
     repeat (first | refine nav ?_ | refine bo ?_)
     (refine wr fun K R hK hR=>?_;simp only [go_sem];(try go_ints);(repeat refine And.intro side ?_);(first|refine hK _ ?_|refine hR _ _ ?_);clear hK hR K R)
     repeat (first | refine nav ?_ | refine bo ?_)
     refine W_cond (b:=false) (by simp only [go_sem,hk]<;>rfl) (fun hb=>by cases hb) (fun hb=>?_)
     repeat (first | refine nav ?_ | refine bo ?_)
     (refine wr fun K R hK hR=>?_;simp only [go_sem];(try go_ints);(repeat refine And.intro side ?_);(first|refine hK _ ?_|refine hR _ _ ?_);clear hK hR K R)
     repeat (first | refine nav ?_ | refine bo ?_)
     refine W_cond (b:=false) (by simp only [go_sem,hk]<;>rfl) (fun hb=>by cases hb) (fun hb=>?_)
     repeat (first | refine nav ?_ | refine bo ?_)
     (refine wr fun K R hK hR=>?_;simp only [go_sem];(try go_ints);(repeat refine And.intro side ?_);(first|refine hK _ ?_|refine hR _ _ ?_);clear hK hR K R)
     repeat (first | refine nav ?_ | refine bo ?_)
     refine W_cond (b:=false) (by simp only [go_sem,hk]<;>rfl) (fun hb=>by cases hb) (fun hb=>?_)
     repeat (first | refine nav ?_ | refine bo ?_)
     (refine wr fun K R hK hR=>?_;simp only [go_sem];(try go_ints);(repeat refine And.intro side ?_);(first|refine hK _ ?_|refine hR _ _ ?_);clear hK hR K R)
     repeat (first | refine nav ?_ | refine bo ?_)
     refine W_cond (b:=true) (by simp only [go_sem,hk]<;>rfl) (fun hb=>?_) (fun hb=>by cases hb)
     have ha4:=hofb a (by simp)
     have hb4:=hofb b (by simp)
     repeat (first | refine nav ?_ | refine bo ?_)
     (refine W_dreg (by decide +kernel) [] [0,1,2,3,4,5,6,7] [[],[0],[0,1],[],[3],[3,4],[4,3,5,1,0,2],[2,0,1,5,3,4,6]] (by decide +kernel) rfl fun K R hK hR=>?_;simp only [List.filterMap_cons,List.filterMap_nil,List.getElem?_cons_zero,List.getElem?_cons_succ,List.cons_append,List.nil_append];simp only [go_sem,h7,hia];(try go_ints);(try simp only [go_sem,h7,hia]);(repeat refine And.intro side ?_);(first|refine hK _ ?_|refine hR _ _ ?_);clear hK hR K R)
     repeat (first | refine nav ?_ | refine bo ?_)
     exact joinQ_normal ⟨(a + b),false,ws',by simp only [go_sem],hw,Fr2.refl _ _ _,by unfold finF;simp [hk]⟩
    ·rw [hk] at hb2
     obtain ⟨a,rfl⟩ : ∃ a,of = [a]:=List.length_eq_one_iff.1 (by have h0 : kidsF 5 = 1:=rfl;omega)
     have hia : ints [a] = [[.i .i64 a]]:=rfl
     repeat (first | refine nav ?_ | refine bo ?_)
     (refine wr fun K R hK hR=>?_;simp only [go_sem];(try go_ints);(repeat refine And.intro side ?_);(first|refine hK _ ?_|refine hR _ _ ?_);clear hK hR K R)
     repeat (first | refine nav ?_ | refine bo ?_)
     refine W_cond (b:=false) (by simp only [go_sem,hk]<;>rfl) (fun hb=>by cases hb) (fun hb=>?_)
     repeat (first | refine nav ?_ | refine bo ?_)
     (refine wr fun K R hK hR=>?_;simp only [go_sem];(try go_ints);(repeat refine And.intro side ?_);(first|refine hK _ ?_|refine hR _ _ ?_);clear hK hR K R)
     repeat (first | refine nav ?_ | refine bo ?_)
     refine W_cond (b:=false) (by simp only [go_sem,hk]<;>rfl) (fun hb=>by cases hb) (fun hb=>?_)
     repeat (first | refine nav ?_ | refine bo ?_)
     (refine wr fun K R hK hR=>?_;simp only [go_sem];(try go_ints);(repeat refine And.intro side ?_);(first|refine hK _ ?_|refine hR _ _ ?_);clear hK hR K R)
     repeat (first | refine nav ?_ | refine bo ?_)
     refine W_cond (b:=false) (by simp only [go_sem,hk]<;>rfl) (fun hb=>by cases hb) (fun hb=>?_)
     repeat (first | refine nav ?_ | refine bo ?_)
     (refine wr fun K R hK hR=>?_;simp only [go_sem];(try go_ints);(repeat refine And.intro side ?_);(first|refine hK _ ?_|refine hR _ _ ?_);clear hK hR K R)
     repeat (first | refine nav ?_ | refine bo ?_)
     refine W_cond (b:=false) (by simp only [go_sem,hk]<;>rfl) (fun hb=>by cases hb) (fun hb=>?_)
     repeat (first | refine nav ?_ | refine bo ?_)
     (refine wr fun K R hK hR=>?_;simp only [go_sem];(try go_ints);(repeat refine And.intro side ?_);(first|refine hK _ ?_|refine hR _ _ ?_);clear hK hR K R)
     repeat (first | refine nav ?_ | refine bo ?_)
     refine W_cond (b:=true) (by simp only [go_sem,hk]<;>rfl) (fun hb=>?_) (fun hb=>by cases hb)
     have hin:=inside_spec a p.cols (by omega)
     obtain ⟨hs6,hf6⟩:=hw.set n' (!insideF a p.cols)
     repeat (first | refine nav ?_ | refine bo ?_)
     (refine wr fun K R hK hR=>?_;simp only [go_sem,hbx];(try go_ints);(try simp only [go_sem,hbx]);(repeat refine And.intro side ?_);(first|refine hK _ ?_|refine hR _ _ ?_);clear hK hR K R)
     repeat (first | refine nav ?_ | refine bo ?_)
     (refine W_dreg (by decide +kernel) [] [0,1,2,3,4,5,6,7,8,9,10] [[],[],[1],[1,2],[],[4],[4,5,2,1,3],[3,1,2,5,4,6],[7,6,5,4,3,2,1,0],[0,1,2,3,4,5,6,7,8],[8,7,6,5,4,3,2,1,0,9]] (by decide +kernel) rfl fun K R hK hR=>?_;simp only [List.filterMap_cons,List.filterMap_nil,List.getElem?_cons_zero,List.getElem?_cons_succ,List.cons_append,List.nil_append];simp only [go_sem,h7,hia,hbx];(try go_ints);(try simp only [go_sem,h7,hia,hbx]);(repeat refine And.intro side ?_);(first|refine hK _ ?_|refine hR _ _ ?_);clear hK hR K R)
     refine D_callD (hin) rfl rfl rfl (by first | (simp only [go_sem]<;>first | exact LeA.refl _ | exact Le.refl _) | exact LeA.refl _) rfl rfl rfl rfl ?_
     (refine D_reg fun K R hK hR=>?_;simp only [go_sem,hw.k];(try go_ints);(try simp only [go_sem,hw.k]);(repeat refine And.intro side ?_);(first|refine hK _ ?_|refine hR _ _ ?_);clear hK hR K R)
     repeat (first | refine nav ?_ | refine bo ?_)
     exact joinQ_normal ⟨p.cols.length,(!insideF a p.cols),ws',by simp only [go_sem],hs6,hf6,by unfold finF;simp [hk]⟩
    ·rw [hk] at hb2
     obtain ⟨a,b,rfl⟩ : ∃ a b,of = [a,b]:=by
      have h2 : of.length = 2:=by have h0 : kidsF 6 = 2:=rfl;omega
      match of,h2 with
      | [a,b],_=>exact ⟨a,b,rfl⟩
     have hia : ints [a,b] = [[.i .i64 a],[.i .i64 b]]:=rfl
     repeat (first | refine nav ?_ | refine bo ?_)
     (refine wr fun K R hK hR=>?_;simp only [go_sem];(try go_ints);(repeat refine And.intro side ?_);(first|refine hK _ ?_|refine hR _ _ ?_);clear hK hR K R)
     repeat (first | refine nav ?_ | refine bo ?_)
     refine W_cond (b:=false) (by simp only [go_sem,hk]<;>rfl) (fun hb=>by cases hb) (fun hb=>?_)
     repeat (first | refine nav ?_ | refine bo ?_)
     (refine wr fun K R hK hR=>?_;simp only [go_sem];(try go_ints);(repeat refine And.intro side ?_);(first|refine hK _ ?_|refine hR _ _ ?_);clear hK hR K R)
     repeat (first | refine nav ?_ | refine bo ?_)
     refine W_cond (b:=false) (by simp only [go_sem,hk]<;>rfl) (fun hb=>by cases hb) (fun hb=>?_)
     repeat (first | refine nav ?_ | refine bo ?_)
     (refine wr fun K R hK hR=>?_;simp only [go_sem];(try go_ints);(repeat refine And.intro side ?_);(first|refine hK _ ?_|refine hR _ _ ?_);clear hK hR K R)
     repeat (first | refine nav ?_ | refine bo ?_)
     refine W_cond (b:=false) (by simp only [go_sem,hk]<;>rfl) (fun hb=>by cases hb) (fun hb=>?_)
     repeat (first | refine nav ?_ | refine bo ?_)
     (refine wr fun K R hK hR=>?_;simp only [go_sem];(try go_ints);(repeat refine And.intro side ?_);(first|refine hK _ ?_|refine hR _ _ ?_);clear hK hR K R)
     repeat (first | refine nav ?_ | refine bo ?_)
     refine W_cond (b:=false) (by simp only [go_sem,hk]<;>rfl) (fun hb=>by cases hb) (fun hb=>?_)
     repeat (first | refine nav ?_ | refine bo ?_)
     (refine wr fun K R hK hR=>?_;simp only [go_sem];(try go_ints);(repeat refine And.intro side ?_);(first|refine hK _ ?_|refine hR _ _ ?_);clear hK hR K R)
     repeat (first | refine nav ?_ | refine bo ?_)
     refine W_cond (b:=false) (by simp only [go_sem,hk]<;>rfl) (fun hb=>by cases hb) (fun hb=>?_)
     repeat (first | refine nav ?_ | refine bo ?_)
     (refine wr fun K R hK hR=>?_;simp only [go_sem];(try go_ints);(repeat refine And.intro side ?_);(first|refine hK _ ?_|refine hR _ _ ?_);clear hK hR K R)
     repeat (first | refine nav ?_ | refine bo ?_)
     refine W_cond (b:=true) (by simp only [go_sem,hk]<;>rfl) (fun hb=>?_) (fun hb=>by cases hb)
     repeat (first | refine nav ?_ | refine bo ?_)
     refine W_cond (b:=true) (by simp only [go_sem,hk]<;>rfl) (fun hb=>?_) (fun hb=>by cases hb)
     obtain ⟨hs6,hf6⟩:=hw.set n' (a != b)
     repeat (first | refine nav ?_ | refine bo ?_)
     (refine wr fun K R hK hR=>?_;simp only [go_sem,h7,hia];(try go_ints);(try simp only [go_sem,h7,hia]);(repeat refine And.intro side ?_);(first|refine hK _ ?_|refine hR _ _ ?_);clear hK hR K R)
     repeat (first | refine nav ?_ | refine bo ?_)
     (refine W_dreg (by decide +kernel) [] [0,1,2,3,4,5,6,7,8,9,10] [[],[],[1],[1,2],[],[4],[4,5],[5,4,6,2,1,3],[7,6,5,4,3,2,1,0],[0,1,2,3,4,5,6,7,8],[8,7,6,5,4,3,2,1,0,9]] (by decide +kernel) rfl fun K R hK hR=>?_;simp only [List.filterMap_cons,List.filterMap_nil,List.getElem?_cons_zero,List.getElem?_cons_succ,List.cons_append,List.nil_append];simp only [go_sem,h7,hia,hw.k];(try go_ints);(try simp only [go_sem,h7,hia,hw.k]);(repeat refine And.intro side ?_);(first|refine hK _ ?_|refine hR _ _ ?_);clear hK hR K R)
     repeat (first | refine nav ?_ | refine bo ?_)
     exact joinQ_normal ⟨a,(a != b),ws',by simp only [go_sem],hs6,hf6,by unfold finF;simp [hk]⟩
    ·rw [hk] at hb2
     obtain ⟨a,b,rfl⟩ : ∃ a b,of = [a,b]:=by
      have h2 : of.length = 2:=by have h0 : kidsF 7 = 2:=rfl;omega
      match of,h2 with
      | [a,b],_=>exact ⟨a,b,rfl⟩
     have hia : ints [a,b] = [[.i .i64 a],[.i .i64 b]]:=rfl
     repeat (first | refine nav ?_ | refine bo ?_)
     (refine wr fun K R hK hR=>?_;simp only [go_sem];(try go_ints);(repeat refine And.intro side ?_);(first|refine hK _ ?_|refine hR _ _ ?_);clear hK hR K R)
     repeat (first | refine nav ?_ | refine bo ?_)
     refine W_cond (b:=false) (by simp only [go_sem,hk]<;>rfl) (fun hb=>by cases hb) (fun hb=>?_)
     repeat (first | refine nav ?_ | refine bo ?_)
     (refine wr fun K R hK hR=>?_;simp only [go_sem];(try go_ints);(repeat refine And.intro side ?_);(first|refine hK _ ?_|refine hR _ _ ?_);clear hK hR K R)
     repeat (first | refine nav ?_ | refine bo ?_)
     refine W_cond (b:=false) (by simp only [go_sem,hk]<;>rfl) (fun hb=>by cases hb) (fun hb=>?_)
     repeat (first | refine nav ?_ | refine bo ?_)
     (refine wr fun K R hK hR=>?_;simp only [go_sem];(try go_ints);(repeat refine And.intro side ?_);(first|refine hK _ ?_|refine hR _ _ ?_);clear hK hR K R)
     repeat (first | refine nav ?_ | refine bo ?_)
     refine W_cond (b:=false) (by simp only [go_sem,hk]<;>rfl) (fun hb=>by cases hb) (fun hb=>?_)
     repeat (first | refine nav ?_ | refine bo ?_)
     (refine wr fun K R hK hR=>?_;simp only [go_sem];(try go_ints);(repeat refine And.intro side ?_);(first|refine hK _ ?_|refine hR _ _ ?_);clear hK hR K R)
     repeat (first | refine nav ?_ | refine bo ?_)
     refine W_cond (b:=false) (by simp only [go_sem,hk]<;>rfl) (fun hb=>by cases hb) (fun hb=>?_)
     repeat (first | refine nav ?_ | refine bo ?_)
     (refine wr fun K R hK hR=>?_;simp only [go_sem];(try go_ints);(repeat refine And.intro side ?_);(first|refine hK _ ?_|refine hR _ _ ?_);clear hK hR K R)
     repeat (first | refine nav ?_ | refine bo ?_)
     refine W_cond (b:=false) (by simp only [go_sem,hk]<;>rfl) (fun hb=>by cases hb) (fun hb=>?_)
     repeat (first | refine nav ?_ | refine bo ?_)
     (refine wr fun K R hK hR=>?_;simp only [go_sem];(try go_ints);(repeat refine And.intro side ?_);(first|refine hK _ ?_|refine hR _ _ ?_);clear hK hR K R)
     repeat (first | refine nav ?_ | refine bo ?_)
     refine W_cond (b:=false) (by simp only [go_sem,hk]<;>rfl) (fun hb=>by cases hb) (fun hb=>?_)
     repeat (first | refine nav ?_ | refine bo ?_)
     (refine wr fun K R hK hR=>?_;simp only [go_sem];(try go_ints);(repeat refine And.intro side ?_);(first|refine hK _ ?_|refine hR _ _ ?_);clear hK hR K R)
     repeat (first | refine nav ?_ | refine bo ?_)
     refine W_cond (b:=true) (by simp only [go_sem,hk]<;>rfl) (fun hb=>?_) (fun hb=>by cases hb)
     obtain ⟨hs6,hf6⟩:=hw.set n' (a != b)
     repeat (first | refine nav ?_ | refine bo ?_)
     (refine wr fun K R hK hR=>?_;simp only [go_sem,h7,hia];(try go_ints);(try simp only [go_sem,h7,hia]);(repeat refine And.intro side ?_);(first|refine hK _ ?_|refine hR _ _ ?_);clear hK hR K R)
     repeat (first | refine nav ?_ | refine bo ?_)
     (refine W_dreg (by decide +kernel) [] [0,1,2,3,4,5,6,7,8,9,10] [[],[],[1],[1,2],[],[4],[4,5],[5,4,6,2,1,3],[7,6,5,4,3,2,1,0],[0,1,2,3,4,5,6,7,8],[8,7,6,5,4,3,2,1,0,9]] (by decide +kernel) rfl fun K R hK hR=>?_;simp only [List.filterMap_cons,List.filterMap_nil,List.getElem?_cons_zero,List.getElem?_cons_succ,List.cons_append,List.nil_append];simp only [go_sem,h7,hia,hw.k];(try go_ints);(try simp only [go_sem,h7,hia,hw.k]);(repeat refine And.intro side ?_);(first|refine hK _ ?_|refine hR _ _ ?_);clear hK hR K R)
     repeat (first | refine nav ?_ | refine bo ?_)
     exact joinQ_normal ⟨a,(a != b),ws',by simp only [go_sem],hs6,hf6,by unfold finF;simp [hk]⟩
   ·rintro t2 o5 ⟨w,b1,ws5,h10,hw5,hf5,hfin⟩
    have hff:=(hf1.trans hfr).trans hf5
    rw [hfin] at hres
    obtain ⟨hs6,hf6⟩:=hw5.set n' (b1 || decide (w < 0) || decide (w > 12))
    repeat (first | refine nav ?_ | refine bo ?_)
    (refine wr fun K R hK hR=>?_;simp only [go_sem,h10,hw5.k];(try go_ints);(try simp only [go_sem,h10,hw5.k]);(repeat refine And.intro side ?_);(first|refine hK _ ?_|refine hR _ _ ?_);clear hK hR K R)
    generalize o5.set K (.cells 3 [[.i .i64 (n' : Int),.mp M,.b (b1 || decide (w < 0) || decide (w > 12))]]) = o6 at *
    repeat (first | refine nav ?_ | refine bo ?_)
    (refine wr fun K R hK hR=>?_;simp only [go_sem,h10];(try go_ints);(try simp only [go_sem,h10]);(repeat refine And.intro side ?_);(first|refine hK _ ?_|refine hR _ _ ?_);clear hK hR K R)
    repeat (first | refine nav ?_ | refine bo ?_)
    have hfg:=hff.trans hf6
    refine endQ_all (by simp only [go_sem]<;>exact rfl) (Le.refl _) (by have:=hfg.len;simp only;omega) hs6.ok rfl ⟨hfg,?_⟩
    cases hbb : (b1 || decide (w < 0) || decide (w > 12))
    ·rw [hbb] at hres hs6
     simp only [Bool.false_eq_true,if_false] at hres
     subst hres
     exact ⟨rfl,hs6⟩
    ·rw [hbb] at hres hs6
     simp only [if_true] at hres
     subst hres
     exact ⟨w,n',ws5,rfl,hs6⟩
end Go.AW
namespace Go.AW
open Go Go.Proofs TyTry Go.IntWalk
set_option linter.unusedSimpArgs false
set_option linter.unusedVariables false
set_option maxRecDepth 10000
set_option maxHeartbeats 4000000
def WalkedP (p : PlanD) (o : List Ob) (r : AV) (o' : List Ob) : Prop:=∃ (K M : Nat) (x : Int),r = .tup [.ptr K 0 0,.i .i64 x] ∧ o.length ≤ o'.length ∧ (∀ j < o.length,o'[j]? = o[j]?) ∧ match walkF p 1 0 [] with
 | some (w,n,ws)=>x = w ∧ WRep o' K M n false ws
 | none=>∃ (n : Nat) (ws : Names),WRep o' K M n true ws
theorem WalkedP.shape {p : PlanD} {o : List Ob} {r : AV} {o' : List Ob} (h : WalkedP p o r o') : o.length ≤ o'.length ∧ r.ltk o'.length = true ∧ okO o' = true:=by
 obtain ⟨K,M,x,rfl,h1,h2,h3⟩:=h
 have key : ∀ {n : Nat} {b : Bool} {ws : Names},WRep o' K M n b ws → o.length ≤ o'.length ∧ (AV.tup [.ptr K 0 0,.i .i64 x]).ltk o'.length = true ∧ okO o' = true:=by
  intro n b ws h
  have:=(List.getElem?_eq_some_iff.1 h.k).1
  exact ⟨h1,by simp [AV.ltk,AV.ltks,this],h.ok⟩
 revert h3
 cases walkF p 1 0 [] with
 | none=>rintro ⟨n,ws,h⟩;exact key h
 | some y=>obtain ⟨w,n,ws⟩:=y;rintro ⟨_,h⟩;exact key h
theorem walked_spec (p : PlanD) (hp : p.Sm) (o : List Ob) (ho : okO o = true) : ACalls Try.prog 27 [.agg p.cells] o (WalkedP p o):=by
 have hcx:=p.cells_eq
 refine ACalls_of' (n:=14) (rs:=[.tmp 2,.tmp 3]) (show Try.prog.funcs[27]? = some Try.f27 by kernel_rfl) rfl rfl rfl (by simp) (by decide +kernel) ?_
 rw [hcx]
 repeat (first | refine nav ?_ | refine bo ?_)
 (refine wr fun K R hK hR=>?_;simp only [go_sem];(try go_ints);(repeat refine And.intro side ?_);(first|refine hK _ ?_|refine hR _ _ ?_);clear hK hR K R)
 repeat (first | refine nav ?_ | refine bo ?_)
 (refine wr fun K R hK hR=>?_;simp only [go_sem];(try go_ints);(repeat refine And.intro side ?_);(first|refine hK _ ?_|refine hR _ _ ?_);clear hK hR K R)
 have hs : WRep (o ++ [boxP p,.mapo [],.cells 3 [[.i .i64 0,.mp (o.length + 1),.b false]]]) (o.length + 2) (o.length + 1) 0 false []:=by
  refine ⟨?_,?_,okO_app ho ?_⟩
  ·simp [List.getElem?_append_right]
  ·simp [List.getElem?_append_right,ents]
  ·simp [Ob.ltk,AV.ltk]
 have hbx : (o ++ [boxP p,.mapo [],.cells 3 [[.i .i64 0,.mp (o.length + 1),.b false]]])[o.length]? = some (boxP p):=by simp
 have hpre : ∀ j < o.length,(o ++ [boxP p,.mapo [],.cells 3 [[.i .i64 0,.mp (o.length + 1),.b false]]])[j]? = o[j]?:=fun j hj=>List.getElem?_append_left hj
 generalize hoo : o ++ [boxP p,.mapo [],.cells 3 [[.i .i64 0,.mp (o.length + 1),.b false]]] = o1 at *
 have hl1 : o.length ≤ o1.length:=by rw [← hoo];simp
 repeat (first | refine nav ?_ | refine bo ?_)
 (refine wr fun K R hK hR=>?_;simp only [go_sem,hbx];(try go_ints);(try simp only [go_sem,hbx]);(repeat refine And.intro side ?_);(first|refine hK _ ?_|refine hR _ _ ?_);clear hK hR K R)
 have hlK : o.length + 2 < o1.length:=by rw [← hoo];simp
 have hw:=walk_spec p hp 1 0 [] o1 (o.length + 2) (o.length + 1) (by omega) (by omega) hs
 rw [hcx,show ((1 : Nat) : Int) = 1 from rfl] at hw
 refine RL_callE hw (fun r o' h=>h.shape) (by simp only [go_sem]<;>exact rfl) rfl rfl (by simp) (by simp only [go_sem]<;>exact LeA.refl _) hs.ok (by simp [AV.ltk,AV.ltks,hlK]) ?_
 rintro r o2 ⟨hf,hres⟩
 have hpre2 : ∀ j < o.length,o2[j]? = o[j]?:=fun j hj=>(hf.get j (by omega) (by omega) (by omega)).trans (hpre j hj)
 have hl2:=hf.len
 cases hwx : walkF p 1 0 [] with
 | none =>
  rw [hwx] at hres
  obtain ⟨w,n,ws,rfl,hw2⟩:=hres
  (refine rr fun K R hK hR=>?_;simp only [go_sem];(try go_ints);(repeat refine And.intro side ?_);(first|refine hK _ ?_|refine hR _ _ ?_);clear hK hR K R)
  repeat (first | refine nav ?_ | refine bo ?_)
  (refine wr fun K R hK hR=>?_;simp only [go_sem];(try go_ints);(repeat refine And.intro side ?_);(first|refine hK _ ?_|refine hR _ _ ?_);clear hK hR K R)
  repeat (first | refine nav ?_ | refine bo ?_)
  refine endQ_all (by simp only [go_sem]<;>exact rfl) (Le.refl _) (by simp only;omega) hw2.ok (by simp [AV.ltk,AV.ltks];omega) ⟨o.length + 2,o.length + 1,w,rfl,by simp only;omega,hpre2,by rw [hwx];exact ⟨n,ws,hw2⟩⟩
 | some y =>
  obtain ⟨w,n,ws⟩:=y
  rw [hwx] at hres
  obtain ⟨rfl,hw2⟩:=hres
  (refine rr fun K R hK hR=>?_;simp only [go_sem];(try go_ints);(repeat refine And.intro side ?_);(first|refine hK _ ?_|refine hR _ _ ?_);clear hK hR K R)
  repeat (first | refine nav ?_ | refine bo ?_)
  (refine wr fun K R hK hR=>?_;simp only [go_sem];(try go_ints);(repeat refine And.intro side ?_);(first|refine hK _ ?_|refine hR _ _ ?_);clear hK hR K R)
  repeat (first | refine nav ?_ | refine bo ?_)
  refine endQ_all (by simp only [go_sem]<;>exact rfl) (Le.refl _) (by simp only;omega) hw2.ok (by simp [AV.ltk,AV.ltks];omega) ⟨o.length + 2,o.length + 1,w,rfl,by simp only;omega,hpre2,by rw [hwx];exact ⟨rfl,hw2⟩⟩
end Go.AW
namespace Go.AW
open Go Go.Proofs TyTry Go.IntWalk
set_option linter.unusedSimpArgs false
set_option linter.unusedVariables false
set_option maxRecDepth 10000
set_option maxHeartbeats 4000000
structure I12 (p : PlanD) (s : StrD) (out : List (List Int)) (o3 : List Ob) (d : Nat → Bool) (x : St) : Prop where
 t2 : x.t 2 = .ptr 0 0 0
 t3 : x.t 3 = .ptr 1 0 0
 t10 : x.t 10 = .own 1 []
 o : x.o = if d 1 = true then o3 ++ engObs s o3.length else o3
 k0 : d 0 = true → x.t 46 = .agg s.cells
 k1 : d 1 = true → x.t 47 = .ptr (o3.length + 1) 0 0
 k2 : d 2 = true → x.t 48 = .agg p.cells
 k3 : d 3 = true → x.t 49 = .sl 1 (tups out)
 k4 : d 4 = true → x.t 50 = .i .i64 out.length
 k5 : d 5 = true → x.t 51 = .i .i64 0
theorem engObs_ok {s : StrD} {o : List Ob} (h : okO o = true) : okO (o ++ engObs s o.length) = true:=okO_app h (by simp [engObs,StrD.cells,Ob.ltk,AV.ltk,AV.ltks,rels,engMap])
theorem engObs_eng (s : StrD) (o : List Ob) : Eng s (o.length + 1) (o ++ engObs s o.length) :=
 ⟨by rw [List.getElem?_append_right (by omega),show o.length + 1 - o.length = 1 by omega];rfl,by rw [List.getElem?_append_right (by omega),show o.length + 1 + 1 - o.length = 2 by omega];rfl⟩
def errA (k : Int) : AV:=.tup [.sl 1 [],.i .i64 k]
def runA (r : Option (Int × Nat × Names)) (bv : Bool) (ff : ByteArray → Int → Int) (lg : Bool) (out : List (List Int)) : AV :=
 match r with
 | none=>errA 1
 | some (_,_,ws)=>if bv = false then errA 1 else if (ws.any fun x=>decide (ff x.1 x.2 < 0)) = true then errA 4 else if lg = true then errA 5 else .tup [.sl 1 (tups out),.i .i64 0]
theorem prun_spec (p : PlanD) (hp : p.Sm) (s : StrD) (bv : Bool) (ff : ByteArray → Int → Int) (lg : Bool) (out : List (List Int)) (hv : ACallsD Try.prog 35 [.agg s.cells] (.b bv))
  (hf : bv = true → ∀ w n ws,walkF p 1 0 [] = some (w,n,ws) → ∀ x ∈ ws,ACallsD Try.prog 36 [.agg s.cells,.s x.1,.i .i64 x.2] (.i .i64 (ff x.1 x.2)))
  (hlg : bv = true → (walkF p 1 0 []).isSome = true → ACallsD Try.prog 37 [.agg p.cells,.i .i64 s.size] (.b lg))
  (hr : ∀ w n ws,walkF p 1 0 [] = some (w,n,ws) → bv = true → (ws.any fun x=>decide (ff x.1 x.2 < 0)) = false → lg = false → Runs s p out) (ho : out.length ≤ 1000000) (hcl : ∀ x ∈ out,ACallsD Try.prog 40 [.sl 1 (ints x)] (.sl 1 (ints x))) :
  ACallsD Try.prog 24 [.agg p.cells,.agg s.cells] (runA (walkF p 1 0 []) bv ff lg out):=by
 have hcx:=p.cells_eq
 have hsx : s.cells = [.i .i64 s.size,.sl 3 (rels s.rels)]:=rfl
 have hw:=walked_spec p hp [boxP p,.cells 2 [s.cells]] rfl
 rw [hcx] at hw ⊢
 rw [hsx] at hw ⊢ hv hf
 refine ACalls_of' (n:=62) (rs:=[.tmp 4,.tmp 5]) (show Try.prog.funcs[24]? = some Try.f24 by kernel_rfl) rfl rfl rfl (by simp) (by decide +kernel) ?_
 repeat (first | refine nav ?_ | refine bo ?_)
 (refine wr fun K R hK hR=>?_;simp only [go_sem];(try go_ints);(repeat refine And.intro side ?_);(first|refine hK _ ?_|refine hR _ _ ?_);clear hK hR K R)
 repeat (first | refine nav ?_ | refine bo ?_)
 (refine wr fun K R hK hR=>?_;simp only [go_sem];(try go_ints);(repeat refine And.intro side ?_);(first|refine hK _ ?_|refine hR _ _ ?_);clear hK hR K R)
 refine RL_callE hw (fun r o' h=>h.shape) (by simp only [go_sem]<;>exact rfl) rfl rfl (by simp) (by simp only [go_sem]<;>exact LeA.refl _) rfl (by rfl) ?_
 rintro r o2 h2
 have h2s:=h2.shape
 obtain ⟨K,M,x,rfl,hol,hpre,hres⟩:=h2
 have hK:=h2s.2.1
 have b0 : o2[0]? = some (boxP p):=(hpre 0 (by simp)).trans rfl
 have b1 : o2[1]? = some (.cells 2 [[.i .i64 s.size,.sl 3 (rels s.rels)]]):=(hpre 1 (by simp)).trans rfl
 have hok2:=h2s.2.2
 obtain ⟨bad,n,ws,hw2,hbad⟩ : ∃ bad n ws,WRep o2 K M n bad ws ∧ (bad = true ∧ walkF p 1 0 [] = none ∨ bad = false ∧ ∃ w,walkF p 1 0 [] = some (w,n,ws)):=by
  cases hwx : walkF p 1 0 [] with
  | none=>rw [hwx] at hres;obtain ⟨n,ws,h⟩:=hres;exact ⟨true,n,ws,h,.inl ⟨rfl,rfl⟩⟩
  | some y=>obtain ⟨w,n,ws⟩:=y;rw [hwx] at hres;exact ⟨false,n,ws,hres.2,.inr ⟨rfl,w,rfl⟩⟩
 clear hres
 (refine rr fun K R hK hR=>?_;simp only [go_sem];(try go_ints);(repeat refine And.intro side ?_);(first|refine hK _ ?_|refine hR _ _ ?_);clear hK hR K R)
 repeat (first | refine nav ?_ | refine bo ?_)
 (refine wr fun K R hK hR=>?_;simp only [go_sem,hw2.k,b1];(try go_ints);(try simp only [go_sem,hw2.k,b1]);(repeat refine And.intro side ?_);(first|refine hK _ ?_|refine hR _ _ ?_);clear hK hR K R)
 refine RL_callDg rfl (by simp only [go_sem]<;>exact rfl) (fun e=>hv) rfl rfl rfl (fun e=>by (try simp only [go_sem] at e);simp only [go_sem,e]<;>(try simp only [go_sem])<;>first | exact LeA.refl _ | exact Le.refl _) rfl rfl ?_
 (refine rr fun K R hK hR=>?_;simp only [go_sem];(try go_ints);(repeat refine And.intro side ?_);(first|refine hK _ ?_|refine hR _ _ ?_);clear hK hR K R)
 repeat (first | refine nav ?_ | refine bo ?_)
 refine W_cond (b:=bad || !bv) (by simp only [go_sem]<;>cases bad<;>cases bv<;>rfl) (fun hb=>?_) (fun hb=>?_)
 ·have hrr : runA (walkF p 1 0 []) bv ff lg out = errA 1:=by
   rcases hbad with ⟨rfl,h⟩ | ⟨rfl,w,h⟩
   ·rw [h];rfl
   ·rw [h]
    have : bv = false:=by simpa using hb
    simp [runA,this]
  rw [hrr]
  repeat (first | refine nav ?_ | refine bo ?_)
  (refine wr fun K R hK hR=>?_;simp only [go_sem];(try go_ints);(repeat refine And.intro side ?_);(first|refine hK _ ?_|refine hR _ _ ?_);clear hK hR K R)
  repeat (first | refine nav ?_ | refine bo ?_)
  refine endQ_data (by simp only [go_sem]<;>exact rfl) (Le.of_eq ?_) rfl
  rfl
 ·simp only [Bool.or_eq_false_iff,Bool.not_eq_eq_eq_not,Bool.not_false] at hb
  obtain ⟨hb1,rfl⟩:=hb
  obtain ⟨_,w,hwx⟩ : bad = false ∧ ∃ w,walkF p 1 0 [] = some (w,n,ws):=by
   rcases hbad with ⟨h,_⟩ | h
   ·rw [hb1] at h;cases h
   ·exact h
  subst hb1
  replace hf:=hf rfl w n ws hwx
  replace hlg:=hlg rfl (by rw [hwx];rfl)
  replace hr:=hr w n ws hwx rfl
  rw [hwx]
  refine nav ?_
  change W Try.prog 62 _ _ _
  refine W_seq ?_
  have hbM : M < o2.length:=(List.getElem?_eq_some_iff.1 hw2.m).1
  have hKM:=hw2.ne
  have hM2 : 2 ≤ M:=by
   rcases Nat.lt_or_ge M 2 with h | h
   ·have : M = 0 ∨ M = 1:=by omega
    rcases this with rfl | rfl
    ·have:=hw2.m.symm.trans b0;simp at this
    ·have:=hw2.m.symm.trans b1;simp at this
   ·exact h
  refine W_weak (s':=⟨tab [(2,.ptr 0 0 0),(3,.ptr 1 0 0),(6,.ptr K 0 0)],o2⟩) (tab_le fun y hy=>?_) rfl ?_
  ·simp only [List.mem_cons,List.not_mem_nil,or_false] at hy
   rcases hy with rfl | rfl | rfl<;>rfl
  have hd0 : (o2.set M Ob.dead ++ [Ob.dead]).set M (.mapo (ents ws)) = o2 ++ [Ob.dead]:=by
   rw [List.set_append_left _ _ (by simpa using hbM),List.set_set,set_of_get hw2.m]
  refine W_rangeMap (s1:=⟨upd (upd (upd (upd (tab [(2,.ptr 0 0 0),(3,.ptr 1 0 0),(6,.ptr K 0 0)]) 27 (.ptr K 0 0)) 28 (.ptr K 0 0)) 29 (.ptr K 0 1)) 30 (.mp M),o2⟩) (es:=ents ws) (im:=M) 4 rfl ?_ Try.underlying60 (by simp only [go_sem]<;>exact rfl) hw2.m ?_ (by decide)
   (fun l t o=>o = o2.set M .dead ++ [.dead] ∧ t 2 = .ptr 0 0 0 ∧ t 3 = .ptr 1 0 0 ∧ ∀ x ∈ ws,(AV.s x.1,AV.i .i64 x.2) ∈ l ∨ 0 ≤ ff x.1 x.2) ⟨rfl,by simp only [go_sem],by simp only [go_sem],fun x hx=>.inl (by unfold ents;exact List.mem_map.2 ⟨x,hx,rfl⟩)⟩ ?_ ?_
  ·(refine rr fun K R hK hR=>?_;simp only [go_sem,hw2.k];(try go_ints);(try simp only [go_sem,hw2.k]);(repeat refine And.intro side ?_);(first|refine hK _ ?_|refine hR _ _ ?_);clear hK hR K R)
   exact ⟨rfl,rfl⟩
  ·simp [litE,ents,AV.lit]
  ·rintro l l' k v t o ⟨rfl,h2,h3,hl⟩ h31 hperm hsub
   have hkv:=hsub (k,v) (hperm.mem_iff.2 (by simp))
   unfold ents at hkv
   obtain ⟨y,hy,e⟩:=List.mem_map.1 hkv
   simp only [Prod.mk.injEq] at e
   obtain ⟨rfl,rfl⟩:=e
   have b1' : (o2.set M Ob.dead ++ [Ob.dead])[1]? = some (.cells 2 [[.i .i64 s.size,.sl 3 (rels s.rels)]]):=app_get _ (by rw [List.getElem?_set_ne (by omega)];exact b1)
   (refine rr fun K R hK hR=>?_;simp only [go_sem];(try go_ints);(repeat refine And.intro side ?_);(first|refine hK _ ?_|refine hR _ _ ?_);clear hK hR K R)
   repeat (first | refine nav ?_ | refine bo ?_)
   (refine wr fun K R hK hR=>?_;simp only [go_sem,h3,b1'];(try go_ints);(try simp only [go_sem,h3,b1']);(repeat refine And.intro side ?_);(first|refine hK _ ?_|refine hR _ _ ?_);clear hK hR K R)
   refine RL_callF (hf y hy) rfl rfl rfl (by first | (simp only [go_sem]<;>first | exact LeA.refl _ | exact Le.refl _) | exact LeA.refl _) rfl rfl ?_
   (refine rr fun K R hK hR=>?_;simp only [go_sem];(try go_ints);(repeat refine And.intro side ?_);(first|refine hK _ ?_|refine hR _ _ ?_);clear hK hR K R)
   repeat (first | refine nav ?_ | refine bo ?_)
   refine W_cond (b:=decide (ff y.1 y.2 < 0)) (by simp only [go_sem]) (fun hc=>?_) (fun hc=>?_)
   ·have hrr : runA (some (w,n,ws)) true ff lg out = errA 4:=by
     have : (ws.any fun x=>decide (ff x.1 x.2 < 0)) = true:=List.any_eq_true.2 ⟨y,hy,hc⟩
     simp [runA,this]
    rw [hrr]
    repeat (first | refine nav ?_ | refine bo ?_)
    (refine wr fun K R hK hR=>?_;simp only [go_sem];(try go_ints);(repeat refine And.intro side ?_);(first|refine hK _ ?_|refine hR _ _ ?_);clear hK hR K R)
    repeat (first | refine nav ?_ | refine bo ?_)
    refine rangeQ_ret ?_
    trace_state
    refine endQ_data (by simp only [go_sem]<;>exact rfl) (Le.of_eq ?_) rfl
    rfl
   ·simp only [decide_eq_false_iff_not,Int.not_lt] at hc
    repeat (first | refine nav ?_ | refine bo ?_)
    refine rangeQ_normal ⟨⟨rfl,by simp only [go_sem,h2],by simp only [go_sem,h3],fun x hx=>?_⟩,by simp only [go_sem,h31]⟩
    rcases hl x hx with h | h
    ·rcases List.mem_cons.1 (hperm.mem_iff.1 h) with h | h
     ·simp only [Prod.mk.injEq,AV.s.injEq,AV.i.injEq,true_and] at h
      rw [h.1,h.2];exact .inr hc
     ·exact .inl h
    ·exact .inr h
  ·rintro t o ⟨rfl,h2,h3,hl⟩
   have hws : (ws.any fun x=>decide (ff x.1 x.2 < 0)) = false:=by
    rw [List.any_eq_false]
    intro x hx
    rcases hl x hx with h | h
    ·cases h
    ·simp;omega
   rw [hd0]
   change W Try.prog 62 _ _ _
   have hok3 : okO (o2 ++ [Ob.dead]) = true:=okO_app hok2 rfl
   replace hr:=hr hws
   have hrr : runA (some (w,n,ws)) true ff lg out = if lg = true then errA 5 else .tup [.sl 1 (tups out),.i .i64 0]:=by simp [runA,hws]
   rw [hrr]
   refine W_weak (s':=⟨tab [(2,.ptr 0 0 0),(3,.ptr 1 0 0)],o2 ++ [Ob.dead]⟩) (tab_le fun y hy=>?_) rfl ?_
   ·simp only [List.mem_cons,List.not_mem_nil,or_false] at hy
    rcases hy with rfl | rfl
    ·simp only [go_sem,h2]
    ·simp only [go_sem,h3]
   have b0':=fun l=>app_get l b0
   have b1':=fun l=>app_get l b1
   repeat (first | refine nav ?_ | refine bo ?_)
   (refine wr fun K R hK hR=>?_;simp only [go_sem,b0',b1'];(try go_ints);(try simp only [go_sem,b0',b1']);(repeat refine And.intro side ?_);(first|refine hK _ ?_|refine hR _ _ ?_);clear hK hR K R)
   rw [hcx] at hlg
   refine RL_callF (hlg) rfl rfl rfl (by first | (simp only [go_sem]<;>first | exact LeA.refl _ | exact Le.refl _) | exact LeA.refl _) rfl rfl ?_
   (refine rr fun K R hK hR=>?_;simp only [go_sem];(try go_ints);(repeat refine And.intro side ?_);(first|refine hK _ ?_|refine hR _ _ ?_);clear hK hR K R)
   repeat (first | refine nav ?_ | refine bo ?_)
   refine W_cond (b:=lg) (by simp only [go_sem]) (fun hc=>?_) (fun hc=>?_)
   ·rw [if_pos hc]
    repeat (first | refine nav ?_ | refine bo ?_)
    (refine wr fun K R hK hR=>?_;simp only [go_sem];(try go_ints);(repeat refine And.intro side ?_);(first|refine hK _ ?_|refine hR _ _ ?_);clear hK hR K R)
    repeat (first | refine nav ?_ | refine bo ?_)
    refine endQ_data (by simp only [go_sem]<;>exact rfl) (Le.of_eq ?_) rfl
    rfl
   rw [if_neg (by rw [hc];decide)]
   replace hr:=hr hc
   repeat (first | refine nav ?_ | refine bo ?_)
   (refine wr fun K R hK hR=>?_;simp only [go_sem];(try go_ints);(repeat refine And.intro side ?_);(first|refine hK _ ?_|refine hR _ _ ?_);clear hK hR K R)
   repeat (first | refine nav ?_ | refine bo ?_)
   generalize ho3 : o2 ++ [Ob.dead] = o3 at *
   have c0 : o3[0]? = some (boxP p):=by have:=b0' [Ob.dead];rwa [ho3] at this
   have c1 : o3[1]? = some (.cells 2 [[.i .i64 s.size,.sl 3 (rels s.rels)]]):=by have:=b1' [Ob.dead];rwa [ho3] at this
   refine W_drawInv (by decide +kernel) (fun d x=>I12 p s out o3 d x) (by decide +kernel) ?_ ?_ ?_
   ·exact ⟨by simp only [go_sem],by simp only [go_sem],by simp only [go_sem],by simp,fun h=>by simp at h,fun h=>by simp at h,fun h=>by simp at h,fun h=>by simp at h,fun h=>by simp at h,fun h=>by simp at h⟩
   ·intro d x i o ho hd hdep hI
    obtain ⟨t,ob⟩:=x
    obtain ⟨k2,k3,k10,ko,q0,q1,q2,q3,q4,q5⟩:=hI
    simp only at k2 k3 k10 ko q0 q1 q2 q3 q4 q5
    have up : ∀ (i : Nat) (y : Ob),o3[i]? = some y → ob[i]? = some y:=fun i y h=>by
     rw [ko];split
     ·exact app_get _ h
     ·exact h
    have hobok : okO ob = true:=by
     rw [ko];split
     ·exact engObs_ok hok3
     ·exact hok3
    have u0:=up _ _ c0
    have u1:=up _ _ c1
    have tl : (tups out).length = out.length:=by simp [tups]
    match i,ho with
    | 0,ho =>
     obtain rfl:=Option.some.inj ho
     refine ⟨rfl,OpW_run [] rfl rfl fun K' hK'=>?_⟩
     simp (maxSteps:=10000000) only [go_sem,k3,u1]
     (try go_ints)
     (repeat refine And.intro side ?_)
     refine hK' _ ?_
     clear hK' K' ho hdep
     refine ⟨by simpa [upd] using k2,by simpa [upd] using k3,by simpa [upd] using k10,by simpa using ko,fun h=>?_,fun h=>?_,fun h=>?_,fun h=>?_,fun h=>?_,fun h=>?_⟩
     all_goals first | (simp [upd];done) | (simp [upd,hsx,hcx];done) | (simp [upd];first | exact q0 (by simpa using h) | exact q1 (by simpa using h) | exact q2 (by simpa using h) | exact q3 (by simpa using h) | exact q4 (by simpa using h) | exact q5 (by simpa using h))
    | 1,ho =>
     obtain rfl:=Option.some.inj ho
     have h0:=q0 (hdep 0 (by decide +kernel))
     have e1 : ob = o3:=by rw [ko,hd];rfl
     subst e1
     refine ⟨rfl,OpW_callE (caps:=[]) rfl rfl rfl (newEngine_spec s hobok) (by rintro r o' ⟨rfl,rfl⟩;exact ⟨by simp,by simp [AV.ltk,engObs],engObs_ok hobok⟩) rfl rfl (Nat.le_refl _) (by show LeA (argVals [Operand.tmp 46] [AV.agg s.cells] t ++ []) [AV.agg s.cells];simp only [go_sem,h0]) hobok (by rfl) ?_⟩
     rintro r o' ⟨rfl,rfl⟩
     show I12 p s out ob _ ⟨upd (argDrop [Operand.tmp 46] [AV.agg s.cells] t) 47 (.ptr (ob.length + 1) 0 0),ob ++ engObs s ob.length⟩
     simp only [go_sem]
     clear ho hdep
     refine ⟨by simpa [upd] using k2,by simpa [upd] using k3,by simpa [upd] using k10,by simp,fun h=>?_,fun h=>?_,fun h=>?_,fun h=>?_,fun h=>?_,fun h=>?_⟩
     all_goals first | (simp [upd];done) | (simp [upd];first | exact q0 (by simpa using h) | exact q1 (by simpa using h) | exact q2 (by simpa using h) | exact q3 (by simpa using h) | exact q4 (by simpa using h) | exact q5 (by simpa using h))
    | 2,ho =>
     obtain rfl:=Option.some.inj ho
     refine ⟨rfl,OpW_run [] rfl rfl fun K' hK'=>?_⟩
     simp (maxSteps:=10000000) only [go_sem,k2,u0]
     (try go_ints)
     (repeat refine And.intro side ?_)
     refine hK' _ ?_
     clear hK' K' ho hdep
     refine ⟨by simpa [upd] using k2,by simpa [upd] using k3,by simpa [upd] using k10,by simpa using ko,fun h=>?_,fun h=>?_,fun h=>?_,fun h=>?_,fun h=>?_,fun h=>?_⟩
     all_goals first | (simp [upd];done) | (simp [upd,hsx,hcx];done) | (simp [upd];first | exact q0 (by simpa using h) | exact q1 (by simpa using h) | exact q2 (by simpa using h) | exact q3 (by simpa using h) | exact q4 (by simpa using h) | exact q5 (by simpa using h))
    | 3,ho =>
     obtain rfl:=Option.some.inj ho
     have h1:=q1 (hdep 1 (by decide +kernel))
     have h2:=q2 (hdep 2 (by decide +kernel))
     have e1 : ob = o3 ++ engObs s o3.length:=by rw [ko,if_pos (hdep 1 (by decide +kernel))]
     have hrun:=hr ob (o3.length + 1) hobok (by rw [e1];exact engObs_eng s o3)
     have hlt : o3.length + 1 < ob.length:=by rw [e1];simp [engObs]
     refine ⟨rfl,OpW_data (CallD.all rfl rfl rfl hrun rfl rfl (Nat.le_refl _) (by show LeA (argVals [Operand.tmp 47,Operand.tmp 48] [AV.ptr (o3.length + 1) 0 0,AV.agg p.cells] t ++ []) [AV.ptr (o3.length + 1) 0 0,AV.agg p.cells];simp only [go_sem,h1,h2]) hobok (by rw [hcx];simp [AV.ltk,AV.ltks,hlt]) rfl) ?_⟩
     show I12 p s out o3 _ ⟨upd (argDrop [Operand.tmp 47,Operand.tmp 48] [AV.ptr (o3.length + 1) 0 0,AV.agg p.cells] t) 49 _,ob⟩
     simp only [go_sem]
     clear ho hdep
     refine ⟨by simpa [upd] using k2,by simpa [upd] using k3,by simpa [upd] using k10,by simpa using ko,fun h=>?_,fun h=>?_,fun h=>?_,fun h=>?_,fun h=>?_,fun h=>?_⟩
     all_goals first | (simp [upd];done) | (simp [upd];first | exact q0 (by simpa using h) | exact q1 (by simpa using h) | exact q2 (by simpa using h) | exact q3 (by simpa using h) | exact q4 (by simpa using h) | exact q5 (by simpa using h))
    | 4,ho =>
     obtain rfl:=Option.some.inj ho
     refine ⟨rfl,OpW_run [] rfl rfl fun K' hK'=>?_⟩
     simp (maxSteps:=10000000) only [go_sem,q3 (hdep 3 (by decide +kernel)),tl]
     (try go_ints)
     (repeat refine And.intro side ?_)
     refine hK' _ ?_
     clear hK' K' ho hdep
     refine ⟨by simpa [upd] using k2,by simpa [upd] using k3,by simpa [upd] using k10,by simpa using ko,fun h=>?_,fun h=>?_,fun h=>?_,fun h=>?_,fun h=>?_,fun h=>?_⟩
     all_goals first | (simp [upd];done) | (simp [upd,hsx,hcx];done) | (simp [upd];first | exact q0 (by simpa using h) | exact q1 (by simpa using h) | exact q2 (by simpa using h) | exact q3 (by simpa using h) | exact q4 (by simpa using h) | exact q5 (by simpa using h))
    | 5,ho =>
     obtain rfl:=Option.some.inj ho
     refine ⟨rfl,OpW_run [] rfl rfl fun K' hK'=>?_⟩
     simp (maxSteps:=10000000) only [go_sem]
     (try go_ints)
     (repeat refine And.intro side ?_)
     refine hK' _ ?_
     clear hK' K' ho hdep
     refine ⟨by simpa [upd] using k2,by simpa [upd] using k3,by simpa [upd] using k10,by simpa using ko,fun h=>?_,fun h=>?_,fun h=>?_,fun h=>?_,fun h=>?_,fun h=>?_⟩
     all_goals first | (simp [upd];done) | (simp [upd,hsx,hcx];done) | (simp [upd];first | exact q0 (by simpa using h) | exact q1 (by simpa using h) | exact q2 (by simpa using h) | exact q3 (by simpa using h) | exact q4 (by simpa using h) | exact q5 (by simpa using h))
    | n + 6,ho=>simp at ho
   ·intro d x hd hI
    obtain ⟨t,ob⟩:=x
    obtain ⟨k2,k3,k10,ko,q0,q1,q2,q3,q4,q5⟩:=hI
    simp only at k10 ko q3 q4 q5
    replace q3:=q3 (hd 3 (by decide))
    replace q4:=q4 (hd 4 (by decide))
    replace q5:=q5 (hd 5 (by decide))
    rw [if_pos (hd 1 (by decide))] at ko
    have tl : (tups out).length = out.length:=by simp [tups]
    change W Try.prog 62 _ _ _
    refine W_weak (s':=⟨mix 51 61 [10,12] (tab [(10,.own 1 []),(51,.i .i64 0)]) (tab [(49,.sl 1 (tups out)),(50,.i .i64 out.length)]),ob⟩) (tab_mix (fun y hy=>?_) (fun y hy=>?_)) rfl ?_
    ·simp only [List.mem_cons,List.not_mem_nil,or_false] at hy
     rcases hy with rfl | rfl
     ·exact k10
     ·exact q5
    ·simp only [List.mem_cons,List.not_mem_nil,or_false] at hy
     rcases hy with rfl | rfl
     ·exact q3
     ·exact q4
    repeat (first | refine nav ?_ | refine bo ?_)
    refine W_forM 51 61 [10,12] (fun m t o=>∃ k : Nat,o = ob ∧ t 51 = .i .i64 k ∧ t 10 = .own 1 (tups (out.take k)) ∧ m = out.length - k ∧ k ≤ out.length) out.length ⟨0,rfl,by simp only [go_sem]<;>rfl,by simp only [go_sem]<;>rfl,by omega,by omega⟩ ?_
    rintro m t o ⟨k,rfl,h51,h10,rfl,hk⟩
    repeat (first | refine nav ?_ | refine bo ?_)
    (refine wr fun K R hK hR=>?_;simp only [go_sem,h51];(try go_ints);(try simp only [go_sem,h51]);(repeat refine And.intro side ?_);(first|refine hK _ ?_|refine hR _ _ ?_);clear hK hR K R)
    repeat (first | refine nav ?_ | refine bo ?_)
    refine W_cond (by simp only [go_sem]<;>exact rfl) (fun hb=>?_) (fun hb=>?_)
    ·simp at hb
     have hb0 : k + 1 ≤ out.length:=hb
     obtain ⟨x,hx⟩ : ∃ x,out[k]? = some x:=⟨_,List.getElem?_eq_getElem hb⟩
     have hcx2:=hcl x (List.mem_of_getElem? hx)
     obtain ⟨acc,hacc⟩ : ∃ acc,acc = out.take k:=⟨_,rfl⟩
     have hal : (tups acc).length = k:=by rw [hacc];simp [tups];omega
     rw [← hacc] at h10
     repeat (first | refine nav ?_ | refine bo ?_)
     (refine wr fun K R hK hR=>?_;simp only [go_sem,h51,tups_get hx,tl];(try go_ints);(try simp only [go_sem,h51,tups_get hx,tl]);(repeat refine And.intro side ?_);(first|refine hK _ ?_|refine hR _ _ ?_);clear hK hR K R)
     repeat (first | refine nav ?_ | refine bo ?_)
     (refine W_reg [55] fun K R hK hR=>?_;simp only [go_sem,h10];(try go_ints);(try simp only [go_sem,h10]);(repeat refine And.intro side ?_);(first|refine hK _ ?_|refine hR _ _ ?_);clear hK hR K R)
     refine RL_callF (hcx2) rfl rfl rfl (by first | (simp only [go_sem]<;>first | exact LeA.refl _ | exact Le.refl _) | exact LeA.refl _) rfl rfl ?_
     (refine RL_reg [55] fun K R hK hR=>?_;simp only [go_sem,hal];(try go_ints);(repeat refine And.intro (by first|exact side|(omega)) ?_);(first|refine hK _ ?_|refine hR _ _ ?_);clear hK hR K R)
     repeat (first | refine nav ?_ | refine bo ?_)
     (refine wr fun K R hK hR=>?_;simp only [go_sem,h51];(try go_ints);(try simp only [go_sem,h51]);(repeat refine And.intro side ?_);(first|refine hK _ ?_|refine hR _ _ ?_);clear hK hR K R)
     refine forQ_normal (out.length - (k + 1)) (by omega) ⟨k + 1,rfl,by simp only [go_sem]<;>rfl,?_,rfl,hb0⟩
     simp only [go_sem,List.take_add_one,hx,← hacc]
     simp [tups]
    ·simp at hb
     obtain rfl : k = out.length:=by omega
     rw [List.take_length] at h10
     repeat (first | refine nav ?_ | refine bo ?_)
     (refine wr fun K R hK hR=>?_;simp only [go_sem,h10];(try go_ints);(try simp only [go_sem,h10]);(repeat refine And.intro side ?_);(first|refine hK _ ?_|refine hR _ _ ?_);clear hK hR K R)
     repeat (first | refine nav ?_ | refine bo ?_)
     refine endQ_data (by simp only [go_sem]<;>exact rfl) (Le.of_eq ?_) rfl
     rfl
end Go.AW
