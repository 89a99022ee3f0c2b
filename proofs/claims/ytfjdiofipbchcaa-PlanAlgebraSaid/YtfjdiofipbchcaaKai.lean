/-
AW, part Zz: a slice of slices is turned in place by a function of the library that asks a function of plain data.
-/
import Derived.Test.YtfjdiofipbchcaaKaf
import Derived.Test.YtfjdiofipbchcaaKae
import Derived.Shelf.SlSortCmp.Kit1
import Derived.Test.YtfjdiofipbchcaaKah
import Derived.Shelf.SlSortCmp.Whole1
import Derived.Shelf.SlCmpFuncs.BinarySearchFunc
import Derived.Test.YtfjdiofipbchcaaProg
import Derived.KernelRfl
import Derived.Test.YtfjdiofipbchcaaKag
namespace Go.AW
open Go
set_option linter.unusedSimpArgs false
set_option linter.unusedVariables false
theorem calls_of_dataE {P : Program} {f : FuncId} {ac : List AV} {r : AV} (h : ACallsD P f ac r) (ho : ac.all (fun c=>!c.isOwn) = true) {w : World} {vs : List Value} (hv : Vs w YN [] ac vs) :
  Calls P f vs.toArray w fun e w'=>∃ v,e = .returned v ∧ V w' YN [] r v ∧ Evol w (fun _ _=>False) w':=by
 have hX : ∀ b x,¬ XS ([] : List MB) (fun _=>none) [] b x:=by
  rintro b x (⟨id,ob,mb,h1,_⟩ | ⟨p,r,h1,_⟩)
  ·simp at h1
  ·cases h1
 have hlen:=Vs.length hv
 have hget : ∀ {l : List AV} {us : List Value},Vs w YN [] l us → ∀ k,V w YN [] (l.getD k .any) (us.getD k undef):=by
  intro l
  induction l with
  | nil=>intro us _ k;simp [V]
  | cons a l ih =>
   intro us hu k
   simp only [Vs] at hu
   obtain ⟨v,t,rfl,h1,h2⟩:=hu
   cases k with
   | zero=>simpa using h1
   | succ k=>simpa using ih h2 k
 have hrel:=Rel.begin (w:=w) (t:=fun k=>ac.getD k .any) (u:=fun k=>vs.getD k undef) (hget hv) (fun k=>by
  rw [List.all_eq_true] at ho
  cases hk : ac[k]? with
  | none=>simp [List.getD_eq_getElem?_getD,hk,AV.isOwn]
  | some a=>simpa [List.getD_eq_getElem?_getD,hk] using ho a (List.mem_of_getElem? hk))
 refine Calls.mono (h.2 w YN [] (fun _=>none) vs hlen.symm hrel) ?_
 rintro e w' ⟨v,r',o',m',reg',rfl,⟨rfl,rfl⟩,h1,h2,h3,h4⟩
 refine ⟨v,rfl,?_,h2.mono fun b x k=>absurd k (hX b x)⟩
 have:=h1.tv 0
 simp only [if_true] at this
 have hm : m' = []:=List.eq_nil_of_length_eq_zero (by rw [h1.len];rfl)
 subst hm
 exact V.keep (Keeps.sub [] fun b x k=>(k : False).elim) _ _ this
theorem evol_grow {w w' : World} (h : Evol w (fun _ _=>False) w') : ∃ q os,w' = Go.Sort.grow (w.drewN q) os:=by
 refine ⟨w'.drawn - w.drawn,(w'.heap.toList.drop w.heap.size).toArray,?_⟩
 obtain ⟨h1,h2,h3,h4,h5,h6,h7⟩:=h
 cases w with
 | mk heap tape drawn os output =>
  cases w' with
  | mk heap' tape' drawn' os' output' =>
   simp only at h1 h2 h3 h4 h5 h6
   subst h1 h2 h3
   simp only [Go.Sort.grow,World.drewN,World.mk.injEq,true_and,and_true]
   refine ⟨?_,by omega⟩
   apply Array.ext_getElem?
   intro i
   rw [Array.getElem?_append]
   split
   ·rename_i hi
    exact h6 i hi fun _ k=>k
   ·rename_i hi
    simp only [List.getElem?_toArray,List.getElem?_drop]
    rw [show heap.size + (i - heap.size) = i by omega,Array.getElem?_toList]
theorem putRow_heapA {α : Type} [Inhabited α] (enc : α → Value) (w : World) (blk off : Nat) (d : Array α) (b : Nat) : (Go.Sort.putRow enc w blk off d).heap[b]? = if blk = b then (w.heap[b]?).map (Go.Sort.onCells (Go.Sort.putCells enc off d)) else w.heap[b]?:=by
 unfold Go.Sort.putRow Go.Sort.mapBlock
 simp only [Array.getElem?_modify]
theorem putCells_atA {α : Type} [Inhabited α] (enc : α → Value) (off : Nat) (d : Array α) (c : Array Value) (r : Nat) (h1 : r < d.size) (h2 : off + r < c.size) : (Go.Sort.putCells enc off d c)[off + r]? = some (enc d[r]!):=by
 unfold Go.Sort.putCells
 rw [Array.getElem?_mapIdx,Array.getElem?_eq_getElem h2]
 simp only [Option.map_some]
 rw [if_pos (by omega),Nat.add_sub_cancel_left]
theorem V_sl_to {w w' : World} {Y : CS} {m : List MB} {sz : Nat} {rs : List (List AV)} {v : Value} (hv : V w Y m (.sl sz rs) v) (h : ∀ b x u,w.cell? ⟨b,x,none⟩ = some u → ¬ Y b x → w'.cell? ⟨b,x,none⟩ = some u) : V w' YN [] (.sl sz rs) v:=by
 have h0 : V w Y [] (.sl sz rs) v:=by simpa only [V] using hv
 exact V.keep ⟨fun b x u hc hy=>⟨h b x u hc hy,fun k=>k⟩,nil_obj⟩ _ _ h0
theorem ACalls_sort {P : Program} {f g : FuncId} {oc : List Ob} {id : Nat} {rows : List (Nat × List (List AV))} {cf : Nat → Nat → Int} (hok : callOk P f = true) (hokg : callOk P g = true) (ho : oc[id]? = some (.cells 1 (rows.map fun a=>[.sl a.1 a.2]))) (hn : 0 < rows.length)
  (hpl : ∀ a ∈ rows,(AV.sl a.1 a.2).ltk 0 = true)
  (hcmp : ∀ (i j : Nat) (hi : i < rows.length) (hj : j < rows.length),ACallsD P g [.sl rows[i].1 rows[i].2,.sl rows[j].1 rows[j].2] (.i .i64 (cf i j)))
  (hsort : ∀ [Inhabited (_root_.Fin rows.length)] (enc : _root_.Fin rows.length → Value) (blk off cap : Nat) (d : Array (_root_.Fin rows.length)) (w : World),d.size = rows.length → Go.Proofs.OneCell enc → Go.Proofs.CmpLays1 P g #[] enc (fun x y=>cf x.val y.val) blk off d.size w → Go.Sort.Holds enc w blk off d → blk < w.heap.size →
   Calls P f #[.slice (some ⟨blk,off,none⟩) d.size cap,.func (.func g) #[] #[]] w fun e w'=>e = .returned (.tuple #[]) ∧ ∃ d' n os,Go.Sort.PermIn 0 d.size d d' ∧ Go.Sort.SortedIn (Go.Proofs.ltOf fun x y=>cf x.val y.val) 0 d.size d' ∧ w' = Go.Proofs.sortWorld enc w blk off n d' os) :
  ACalls P f [.ref id 0 rows.length,.fn g []] oc fun r' o'=>r' = .tup [] ∧ ∃ π : List Nat,π.Perm (List.range rows.length) ∧ (∀ i j,i < j → j < rows.length → ¬ cf (π.getD j 0) (π.getD i 0) < 0) ∧
   o' = oc.set id (.cells 1 (π.map fun k=>[.sl (rows.getD k (0,[])).1 (rows.getD k (0,[])).2])):=by
 refine ⟨hok,fun w Z m reg vs hlen hrel=>?_⟩
 obtain ⟨v0,v1,rfl⟩ : ∃ v0 v1,vs = [v0,v1]:=by
  match vs,hlen with
  | [a,b],_=>exact ⟨a,b,rfl⟩
 have tv0 : V w (YS Z m reg oc) m (.ref id 0 rows.length) v0:=hrel.tv 0
 have tv1 : V w (YS Z m reg oc) m (.fn g []) v1:=hrel.tv 1
 simp only [V,Vs] at tv0 tv1
 obtain ⟨cs1,rfl,hcs1⟩:=tv1
 obtain rfl : cs1 = #[]:=by apply Array.ext';simpa using hcs1
 obtain ⟨mb,a,cap,hm,rfl,hc1,hc2,hc3⟩:=tv0
 have hob:=hrel.ob id _ mb ho hm
 obtain ⟨hsz,⟨c,e,hheap,hfit,hrl⟩,hrow,hcell⟩:=hob
 rcases hc3 with ⟨h0,_⟩ | ⟨rfl,hlim⟩
 ·omega
 simp only [Nat.zero_mul,Nat.add_zero]
 rw [Nat.zero_add] at hlim
 have hcj : ∀ j (hj : j < rows.length),∃ v,w.cell? ⟨mb.blk,mb.base + j,none⟩ = some v ∧ V w (YS Z m reg oc) m (.sl rows[j].1 rows[j].2) v:=by
  intro j hj
  obtain ⟨v,h1,h2⟩:=hcell j [.sl rows[j].1 rows[j].2] 0 (.sl rows[j].1 rows[j].2) (by simp [hj]) rfl
  exact ⟨v,by rw [← h1];congr 2;omega,h2⟩
 have henc : ∃ enc : _root_.Fin rows.length → Value,∀ i : _root_.Fin rows.length,w.cell? ⟨mb.blk,mb.base + i.val,none⟩ = some (enc i) ∧ V w (YS Z m reg oc) m (.sl rows[i.val].1 rows[i.val].2) (enc i) :=
  ⟨fun i=>(hcj i.val i.isLt).choose,fun i=>(hcj i.val i.isLt).choose_spec⟩
 obtain ⟨enc,henc⟩:=henc
 haveI : Inhabited (_root_.Fin rows.length):=⟨⟨0,hn⟩⟩
 have h1c : Go.Proofs.OneCell enc:=by
  intro x
  have:=(henc x).2
  simp only [V] at this
  obtain ⟨a,cap,h1,_⟩:=this
  rw [h1];rfl
 obtain ⟨d,hd⟩ : ∃ d : Array (_root_.Fin rows.length),d = Array.ofFn (fun i : _root_.Fin rows.length=>i):=⟨_,rfl⟩
 have hds : d.size = rows.length:=by rw [hd];simp
 have hdg : ∀ (j : Nat) (hj : j < d.size),d[j]! = ⟨j,by omega⟩:=fun j hj=>by
  rw [getElem!_pos d j hj];simp [hd]
 have hH : Go.Sort.Holds enc w mb.blk mb.base d:=by
  intro j hj
  rw [hdg j hj]
  refine ⟨(henc ⟨j,by omega⟩).1,?_⟩
  unfold World.frozen?
  rw [hheap]
  simp
 have hlt : mb.blk < w.heap.size:=hrel.blk ho trivial hm
 have hY : ∀ x,YS Z m reg oc mb.blk x:=fun x=>.inl (.inl ⟨id,_,mb,ho,trivial,hm,rfl⟩)
 -- what stays where it was in the worlds that the sort goes through
 have hstay : ∀ (n : Nat) (dk : Array (_root_.Fin rows.length)) (os : Array Obj) (b x : Nat) (u : Value),w.cell? ⟨b,x,none⟩ = some u → ¬ YS Z m reg oc b x → (Go.Proofs.sortWorld enc w mb.blk mb.base n dk os).cell? ⟨b,x,none⟩ = some u:=by
  intro n dk os b x u hc hy
  have hb:=cell_lt hc
  have hne : ¬ mb.blk = b:=fun e=>hy (e ▸ hY x)
  unfold World.cell? at hc ⊢
  have hsz2 : (Go.Sort.putRow enc (Go.Sort.ahead w n) mb.blk mb.base dk).heap.size = w.heap.size:=by
   unfold Go.Sort.putRow Go.Sort.mapBlock;simp [Go.Sort.ahead]
  have : (Go.Proofs.sortWorld enc w mb.blk mb.base n dk os).heap[b]? = w.heap[b]?:=by
   unfold Go.Proofs.sortWorld Go.Sort.grow
   simp only
   rw [Array.getElem?_append_left (by rw [hsz2];exact hb),putRow_heapA,if_neg hne]
   rfl
  simp only at this ⊢
  rw [this];exact hc
 have hC : Go.Proofs.CmpLays1 P g #[] enc (fun x y=>cf x.val y.val) mb.blk mb.base d.size w:=by
  intro n os dk _ x y
  have hvx:=V_sl_to (henc x).2 (hstay n dk os)
  have hvy:=V_sl_to (henc y).2 (hstay n dk os)
  have hv : Vs (Go.Proofs.sortWorld enc w mb.blk mb.base n dk os) YN [] [.sl rows[x.val].1 rows[x.val].2,.sl rows[y.val].1 rows[y.val].2] [enc x,enc y]:=by
   simp only [Vs]
   exact ⟨_,_,rfl,hvx,_,_,rfl,hvy,rfl⟩
  have hcall:=calls_of_dataE (hcmp x.val y.val x.isLt y.isLt) rfl hv
  rw [show (#[enc x,enc y] ++ #[] : Array Value) = [enc x,enc y].toArray from rfl]
  refine Calls.mono hcall ?_
  rintro e w' ⟨v,rfl,hv,hE⟩
  simp only [V] at hv
  subst hv
  exact ⟨rfl,evol_grow hE⟩
 have hcall:=hsort enc mb.blk mb.base cap d w hds h1c hC hH hlt
 rw [hds] at hcall
 refine Calls.mono hcall ?_
 rintro e' w' ⟨rfl,d',n,os,hp,hs,rfl⟩
 have hd's : d'.size = rows.length:=by rw [hp.1,hds]
 obtain ⟨π,hπ⟩ : ∃ π : List Nat,π = d'.toList.map _root_.Fin.val:=⟨_,rfl⟩
 have hπl : π.length = rows.length:=by rw [hπ];simp [hd's]
 have hπp : π.Perm (List.range rows.length):=by
  have hp2:=hp.2.2
  rw [Array.extract_eq_self_of_le (by omega),Array.extract_eq_self_of_le (by omega)] at hp2
  rw [hπ]
  refine (hp2.map _).trans ?_
  rw [hd]
  have : (Array.ofFn fun i : _root_.Fin rows.length=>i).toList.map _root_.Fin.val = List.range rows.length:=by
   apply List.ext_getElem
   ·simp
   ·intro i h1 h2
    simp
  rw [this]
 have hπg : ∀ (j : Nat) (hj : j < rows.length),∃ k : _root_.Fin rows.length,d'[j]! = k ∧ π[j]? = some k.val:=fun j hj=>by
  have hj' : j < d'.size:=hd's.symm ▸ hj
  have h9 : (d'.toList.map _root_.Fin.val)[j]? = some (d'[j]'hj').val:=by
   rw [List.getElem?_map,Array.getElem?_toList,Array.getElem?_eq_getElem hj'];rfl
  exact ⟨d'[j]'hj',getElem!_pos d' j hj',by rw [← hπ] at h9;exact h9⟩
 have hsize : (Go.Sort.putRow enc (Go.Sort.ahead w n) mb.blk mb.base d').heap.size = w.heap.size:=by
  unfold Go.Sort.putRow Go.Sort.mapBlock
  simp [Go.Sort.ahead]
 have hhp : ∀ b,(Go.Sort.putRow enc (Go.Sort.ahead w n) mb.blk mb.base d').heap[b]? = if mb.blk = b then (w.heap[b]?).map (Go.Sort.onCells (Go.Sort.putCells enc mb.base d')) else w.heap[b]?:=fun b=>putRow_heapA _ _ _ _ _ b
 have hrl2 : rows.length ≤ mb.lim:=by simpa using hrl
 have hcs : mb.base + rows.length ≤ c.size:=by omega
 obtain ⟨R1,E1,X1⟩:=hrel.objSet (w':=Go.Sort.putRow enc (Go.Sort.ahead w n) mb.blk mb.base d') ho trivial hm rfl rfl rfl (Nat.le_add_right _ _) hsize (fun b hb=>by rw [hhp,if_neg (fun e=>hb e.symm)])
  (.cells 1 (π.map fun k=>[.sl (rows.getD k (0,[])).1 (rows.getD k (0,[])).2])) trivial (fun Y' K=>by
   refine ⟨hsz,⟨_,e,by rw [hhp,if_pos rfl,hheap];rfl,by simpa [Go.Sort.putCells] using hfit,by simpa [hπl] using hrl2⟩,fun r row hr=>?_,fun r row k av hr hk=>?_⟩
   ·rw [List.getElem?_map] at hr
    cases hq : π[r]? with
    | none=>rw [hq] at hr;cases hr
    | some x=>rw [hq] at hr;simp at hr;subst hr;rfl
   ·rw [List.getElem?_map] at hr
    cases hq : π[r]? with
    | none=>rw [hq] at hr;cases hr
    | some x =>
     rw [hq] at hr
     simp at hr
     subst hr
     have hrl' : r < rows.length:=by rw [← hπl];exact (List.getElem?_eq_some_iff.1 hq).1
     obtain ⟨kk,hk1,hk2⟩:=hπg r hrl'
     rw [hq] at hk2
     obtain rfl:=Option.some.inj hk2
     cases k with
     | succ k=>simp at hk
     | zero =>
      simp at hk
      subst hk
      refine ⟨enc kk,?_,?_⟩
      ·unfold World.cell?
       rw [hhp,if_pos rfl,hheap]
       simp only [Option.map_some,Go.Sort.onCells]
       have e3:=putCells_atA enc mb.base d' c r (by omega) (by omega)
       rw [show mb.base + r * 1 + 0 = mb.base + r by omega]
       rw [e3,hk1]
       rfl
      ·have:=(henc kk).2
       refine V.keep ?_ _ _ this
       exact K)
  (fun r k sz rs hlf=>by
   simp only [leaf,List.getElem?_cons_zero,List.getElem?_map] at hlf
   cases hq : π[r]? with
   | none=>rw [hq] at hlf;simp at hlf
   | some x =>
    rw [hq] at hlf
    cases k with
    | zero=>simp at hlf
    | succ k=>simp at hlf)
 have G : Grow (Go.Sort.putRow enc (Go.Sort.ahead w n) mb.blk mb.base d') (Go.Proofs.sortWorld enc w mb.blk mb.base n d' os):=by
  refine ⟨rfl,rfl,rfl,Nat.le_refl _,by simp [Go.Proofs.sortWorld,Go.Sort.grow],fun b hb=>?_⟩
  unfold Go.Proofs.sortWorld Go.Sort.grow
  simp only
  rw [Array.getElem?_append_left hb]
 have R2:=R1.grow G
 have R3:=R2.put 2 (av:=.tup []) (v:=.tuple #[]) (by simp only [V,Vs];exact ⟨_,rfl,rfl⟩) (.inl rfl)
 obtain ⟨R4,X4⟩:=R3.one 2
 simp only [upd,if_true] at R4
 refine ⟨.tuple #[],.tup [],_,m,_,rfl,⟨rfl,π,hπp,fun i j hij hj=>?_,rfl⟩,R4,?_,?_,fun _ _ h=>h⟩
 ·have h1:=hs i j (Nat.zero_le _) hij (by omega)
  obtain ⟨ki,hi1,hi2⟩:=hπg i (by omega)
  obtain ⟨kj,hj1,hj2⟩:=hπg j hj
  rw [hi1,hj1] at h1
  simp only [Go.Proofs.ltOf,decide_eq_false_iff_not] at h1
  rw [List.getD_eq_getElem?_getD,List.getD_eq_getElem?_getD,hi2,hj2]
  exact h1
 ·exact E1.trans (G.evol (fun _ _=>False)) (fun _ _ h=>h.elim)
 ·intro b x hb
  have h4:=X4 b x hb
  left
  refine X1 b x ?_
  rcases h4 with h4 | ⟨p,rg,h1,h2⟩
  ·exact .inl h4
  ·refine .inr ⟨p,rg,?_,h2⟩
   simp only at h1
   by_cases hp : p = .t 2
   ·rw [if_pos hp] at h1;cases h1
   ·rw [if_neg hp] at h1;exact h1
theorem OpW_clear {P : Program} {n : Nat} {s : St} {o : Oper} {c : Call} {t1 e : TypeId} {x J a n1 : Nat} {rows : List (List AV)} {K : St → Prop} (hop : o.op = .call c) (hb : c.callee = .builtin .clear) (ha : c.args = #[.tmp x]) (hat : c.argTypes = #[t1])
  (hu : ukOf P t1 = .slice e) (hz : ∀ w : World,(zeroValue e).run P w = .ok (.slice none 0 0) w) (hd : o.dst = none) (hx : s.t x = .ref J a n1) (hJ : s.o[J]? = some (.cells 1 rows)) (hba : a + n1 ≤ rows.length) (hr1 : ∀ r ∈ rows,r.length = 1)
  (hK : K ⟨s.t,s.o.set J (.cells 1 (putRows rows a (List.replicate n1 .nsl)))⟩) : OpW P n o s K:=by
 intro g ac w hn hat0
 subst hn
 obtain ⟨⟨m,reg,h1,h2,h3⟩,h4,h5,h6⟩:=hat0
 have vx:=h1.tv x
 rw [hx] at vx
 simp only [V] at vx
 obtain ⟨mb,ax,cx,hm,hux,hlx,hcx,hax⟩:=vx
 obtain ⟨hs1,⟨ca,el,hblk,hsize,hlim⟩,hrl,hcell⟩:=h1.ob J _ mb hJ hm
 have hexec : ∀ (w' : World),(Builtin.clear_ #[t1] o.type #[ac.tmps.getD x undef]).run P w = .ok (.tuple #[]) w' → (execOp ac.eval o).run P w = .ok (.value (.tuple #[])) w':=by
  intro w' hr
  unfold execOp
  rw [hop]
  simp only
  unfold resolve
  simp only [hb,ha,hat]
  rw [srun_bind_ok (srun_pure _)]
  simp only [invoke,builtin,List.map_toArray,List.map_cons,List.map_nil]
  show Sem.run P (do pure (Next.value (← Builtin.clear_ #[t1] o.type #[ac.tmps.getD x undef]))) w = _
  rw [srun_bind_ok hr];rfl
 have e1 : ac.tmps.getD x undef = .slice ax n1 cx:=hux
 have hvs : Vs w (YS g.Z m reg s.o) m (List.replicate n1 AV.nsl) (List.replicate n1 (.slice none 0 0)):=by
  clear hlx hba hax hK hux e1 hx
  induction n1 with
  | zero=>simp only [List.replicate_zero,Vs]
  | succ k ih=>simp only [List.replicate_succ,Vs];exact ⟨_,_,rfl,by simp only [V],ih⟩
 obtain ⟨reg',r1,r2,r3⟩:=Rel.storeRows (u:=fun k=>ac.tmps.getD k undef) (t:=s.t) g.n (undef_at h5) _ _ w reg s.o J a rows mb h1 hvs (fun z hz=>by rw [List.eq_of_mem_replicate hz];rfl) hJ hm hs1 hr1 (by rw [List.length_replicate];omega)
 have hrun : (Builtin.clear_ #[t1] o.type #[ac.tmps.getD x undef]).run P w = .ok (.tuple #[]) (putCells w mb.blk (mb.base + a) (List.replicate n1 (.slice none 0 0))):=by
  rw [e1]
  unfold Builtin.clear_
  simp only [List.getElem?_toArray,List.getElem?_cons_zero]
  rw [srun_bind_ok (run_und (uk_slice hu))]
  by_cases h0 : n1 = 0
  ·subst h0
   cases ax with
   | none=>rfl
   | some ad=>rfl
  ·have hax2 : ax = some ⟨mb.blk,mb.base + a * mb.sz,none⟩:=by
    rcases hax with ⟨q,_⟩ | ⟨q,_⟩
    ·omega
    ·exact q
   rw [hs1,Nat.mul_one] at hax2
   rw [hax2]
   obtain ⟨k,rfl⟩ : ∃ k,n1 = k + 1:=⟨n1 - 1,by omega⟩
   simp only
   have hzc : (Builtin.zeroCells (Value.slice none 0 0).cells (k + 1)).toList = List.replicate (k + 1) (.slice none 0 0):=by
    apply List.ext_getElem
    ·simp [size_zeroCells,Value.cells]
    ·intro i h1 h2
     simp [Builtin.zeroCells,Value.cells,Nat.mod_one]
   have hst:=run_storeCells (P:=P) (List.replicate (k + 1) (.slice none 0 0)) w mb.blk (mb.base + a) 0 ca el hblk (by rw [List.length_replicate];omega) (by intro v hv;rw [List.eq_of_mem_replicate hv];rfl)
   rw [srun_bind_ok (hz w),hzc]
   rw [srun_bind_ok (by simpa using hst)]
   rfl
 refine Oper.wp_mono (fun a' w' h=>h) ((Does.wp (s':=⟨s.t,s.o.set J (.cells 1 (putRows rows a (List.replicate n1 .nsl)))⟩) (.inl ⟨_,_,hexec _ hrun,?_⟩)) (fun a' w' h'=>⟨_,hK,h'⟩))
 rw [hd]
 exact At.mk' (m:=m) r1 (fun b x k=>h2 b x (r3 b x k)) h3 (h4.trans r2 h2) h5 h6
theorem OpW_appNil {P : Program} {n : Nat} {s : St} {o : Oper} {c : Call} {t1 t2 e : TypeId} {d x y J off len sz : Nat} {K : St → Prop} (hop : o.op = .call c) (hb : c.callee = .builtin .append) (ha : c.args = #[.tmp x,.tmp y]) (hat : c.argTypes = #[t1,t2]) (hty : o.type = t1)
  (hu : ukOf P t1 = .slice e) (hu2 : ukOf P t2 = .slice e) (hue : ukOf P e ≠ .other) (hd : o.dst = some d) (hdn : d < n) (hx : s.t x = .ref J off len) (hy : s.t y = .sl sz []) (hK : K ⟨upd s.t d (.ref J off len),s.o⟩) : OpW P n o s K:=by
 intro g ac w hn hat0
 subst hn
 obtain ⟨⟨m,reg,h1,h2,h3⟩,h4,h5,h6⟩:=hat0
 have vx:=h1.tv x
 have vy:=h1.tv y
 have vx0:=vx
 rw [hx] at vx vx0
 rw [hy] at vy
 simp only [V] at vx vy
 obtain ⟨mb,ax,cx,hm,hux,hlx,hcx,hax⟩:=vx
 obtain ⟨ay,cy,huy,_⟩:=vy
 obtain ⟨de,hde⟩:=uk_some hue
 obtain ⟨i,hi⟩:=und_info hde
 have hexec : (execOp ac.eval o).run P w = .ok (.value (.slice ax len cx)) w:=by
  unfold execOp
  rw [hop]
  simp only
  unfold resolve
  simp only [hb,ha,hat,hty]
  rw [srun_bind_ok (srun_pure _)]
  simp only [invoke,builtin,List.map_toArray,List.map_cons,List.map_nil]
  show Sem.run P (do pure (Next.value (← Builtin.append_ #[t1,t2] t1 #[ac.tmps.getD x undef,ac.tmps.getD y undef]))) w = _
  have e1 : ac.tmps.getD x undef = .slice ax len cx:=hux
  have e2 : ac.tmps.getD y undef = .slice ay 0 cy:=huy
  rw [e1,e2,srun_bind_ok (run_append_same hu hu2 hi hlx)];rfl
 refine Oper.wp_mono (fun a' w' h=>h) ((Does.wp (s':=⟨upd s.t d (.ref J off len),s.o⟩) (.inl ⟨_,_,hexec,?_⟩)) (fun a' w' h'=>⟨_,hK,h'⟩))
 rw [hd]
 rw [show ac.tmps.getD x undef = .slice ax len cx from hux] at vx0
 exact At.put (d:=some d) (av:=.ref J off len) (s:=⟨s.t,_⟩) h1 h2 h3 h4 h5 h6 (by simpa [dstOk] using hdn) vx0 (.inl rfl)
theorem ACalls_roomO {P : Program} {f : FuncId} {sz n : Nat} (hok : callOk P f = true)
  (h : ∀ w : World,Calls P f #[.slice none 0 0,.int .i64 n] w fun e w'=>∃ (cap : Nat) (cs : Array Value) (ty : TypeId),e = .returned (.slice (some ⟨w.heap.size,0,none⟩) 0 cap) ∧ w' = w.drew.alloc (.cells cs ty (0,0)) ∧ cap * sz ≤ cs.size ∧ cap ≤ maxLen) (oc : List Ob) :
  ACalls P f [.nsl,.i .i64 n] oc fun r o'=>r = .ref oc.length 0 0 ∧ o' = oc ++ [.cells sz []]:=by
 refine ⟨hok,fun w Z m reg vs hlen hrel=>?_⟩
 obtain ⟨v0,v1,rfl⟩ : ∃ v0 v1,vs = [v0,v1]:=by
  match vs,hlen with
  | [a,b],_=>exact ⟨a,b,rfl⟩
 have t0:=hrel.tv 0
 have t1:=hrel.tv 1
 simp only [List.getD_cons_zero,List.getD_cons_succ,V] at t0 t1
 subst t0 t1
 refine Calls.mono (h w) ?_
 rintro e w' ⟨cap,cs,ty,rfl,rfl,hcs,hmx⟩
 have g : Grow w w.drew:=⟨rfl,rfl,rfl,Nat.le_succ _,Nat.le_refl _,fun _ _=>rfl⟩
 have h1:=hrel.grow g
 have h2:=h1.new (.cells cs ty (0,0)) (.cells sz []) sz cap trivial (fun w' Y' m' hw' K=>⟨rfl,⟨cs,ty,by
  subst hw'
  show (w.heap.push (.cells cs ty (0,0)))[w.heap.size]? = _
  simp,by simp only;omega,by simp⟩,fun r row hr=>by simp at hr,fun r row c av hr=>by simp at hr⟩)
  (fun r c sz' rows hlf=>by simp [leaf] at hlf)
 have hml : m.length = oc.length:=hrel.len
 have h3:=h2.put 2 (av:=.ref oc.length 0 0) (v:=.slice (some ⟨w.heap.size,0,none⟩) 0 cap) (by
  simp only [V]
  exact ⟨⟨w.heap.size,0,sz,cap⟩,_,cap,by rw [List.getElem?_append_right (by omega),hml,Nat.sub_self];rfl,rfl,Nat.zero_le _,hmx,.inr ⟨by simp,by simp⟩⟩) (.inl rfl)
 obtain ⟨h4,x4⟩:=h3.one 2
 simp only [upd,if_true] at h4
 refine ⟨_,.ref oc.length 0 0,_,_,_,rfl,⟨rfl,rfl⟩,h4,?_,?_,fun id mb hid=>by rw [List.getElem?_append_left (List.getElem?_eq_some_iff.1 hid).1];exact hid⟩
 ·exact (g.evol _).trans ((Grow.push w.drew (.cells cs ty (0,0))).evol (XS m reg oc)) (fun b x k=>.inl k)
 ·intro b x hx
  rcases x4 b x hx with ⟨j,ob,mb',k1,k2,k3,k4⟩ | ⟨p,rg,k1,k2⟩
  ·rcases Nat.lt_or_ge j oc.length with hj | hj
   ·rw [List.getElem?_append_left hj] at k1
    rw [List.getElem?_append_left (by omega)] at k3
    exact .inl (.inl ⟨j,ob,mb',k1,k2,k3,k4⟩)
   ·have hj2 : j = oc.length:=by
     have:=(List.getElem?_eq_some_iff.1 k1).1
     simp at this;omega
    subst hj2
    rw [List.getElem?_append_right (by omega),hml,Nat.sub_self] at k3
    simp only [List.getElem?_cons_zero,Option.some.injEq] at k3
    subst k3
    exact .inr (Nat.le_of_eq k4)
  ·simp only at k1
   split at k1
   ·cases k1
   ·refine .inl (.inr ⟨p,rg,?_,k2⟩)
    split at k1
    ·split at k1
     ·cases k1
     ·exact k1
    ·exact k1
end Go.AW
namespace Go.AW
open Go Go.Proofs TyTry Go.IntWalk
set_option linter.unusedSimpArgs false
set_option linter.unusedVariables false
set_option maxRecDepth 10000
set_option maxHeartbeats 1000000
theorem equalI_spec (a b : List Int) (ha : a.length ≤ 1099511627776) (hbl : b.length ≤ 1099511627776) : ACallsD Try.prog 85 [.sl 1 (ints a),.sl 1 (ints b)] (.b (decide (a = b))):=by
 have il : ∀ l : List Int,(ints l).length = l.length:=fun l=>by simp [ints]
 refine ACalls_of' (n:=26) (rs:=[.tmp 4]) (show Try.prog.funcs[85]? = some Try.f85 by kernel_rfl) rfl rfl rfl (by simp) (by decide +kernel) ?_
 repeat (first | refine nav ?_ | refine bo ?_)
 (refine wr fun K R hK hR=>?_;simp only [go_sem];(try go_ints);(repeat refine And.intro side ?_);(first|refine hK _ ?_|refine hR _ _ ?_);clear hK hR K R)
 repeat (first | refine nav ?_ | refine bo ?_)
 (refine wr fun K R hK hR=>?_;simp only [go_sem,il];(try go_ints);(try simp only [go_sem,il]);(repeat refine And.intro side ?_);(first|refine hK _ ?_|refine hR _ _ ?_);clear hK hR K R)
 repeat (first | refine nav ?_ | refine bo ?_)
 by_cases hl : a.length = b.length
 ·have hl' : ((a.length : Int) != (b.length : Int)) = false:=by simp [hl]
  refine W_cond (b:=false) (by simp only [go_sem,il];exact hl') (fun hb=>by cases hb) (fun _=>?_)
  repeat (first | refine nav ?_ | refine bo ?_)
  (refine wr fun K R hK hR=>?_;simp only [go_sem,il];(try go_ints);(try simp only [go_sem,il]);(repeat refine And.intro side ?_);(first|refine hK _ ?_|refine hR _ _ ?_);clear hK hR K R)
  repeat (first | refine nav ?_ | refine bo ?_)
  refine W_for 13 26 [5] (fun m t o=>∃ k : Nat,[] = o ∧ t 13 = .i .i64 k ∧ m = a.length - k ∧ k ≤ a.length ∧ a.take k = b.take k) a.length ⟨0,rfl,by simp only [go_sem]<;>rfl,by omega,by omega,by simp⟩ ?_
  rintro m t o ⟨k,rfl,h13,rfl,hk,hi⟩
  repeat (first | refine nav ?_ | refine bo ?_)
  (refine wr fun K R hK hR=>?_;simp only [go_sem,h13];(try go_ints);(try simp only [go_sem,h13]);(repeat refine And.intro side ?_);(first|refine hK _ ?_|refine hR _ _ ?_);clear hK hR K R)
  repeat (first | refine nav ?_ | refine bo ?_)
  refine W_cond (by simp only [go_sem]<;>exact rfl) (fun hb=>?_) (fun hb=>?_)
  ·simp at hb
   have hb0 : k + 1 ≤ a.length:=hb
   obtain ⟨x,hx⟩ : ∃ x,a[k]? = some x:=⟨_,List.getElem?_eq_getElem hb⟩
   obtain ⟨y,hy⟩ : ∃ y,b[k]? = some y:=⟨_,List.getElem?_eq_getElem (by omega)⟩
   repeat (first | refine nav ?_ | refine bo ?_)
   (refine wr fun K R hK hR=>?_;simp only [go_sem,h13];(try go_ints);(try simp only [go_sem,h13]);(repeat refine And.intro side ?_);(first|refine hK _ ?_|refine hR _ _ ?_);clear hK hR K R)
   repeat (first | refine nav ?_ | refine bo ?_)
   (refine W_dreg (by decide +kernel) [] [0,1,2,3,4,5,6,7,8] [[],[],[1,0],[0,1,2],[],[],[5,4],[4,5,6],[6,5,4,7,2,1,0,3]] (by decide +kernel) rfl fun K R hK hR=>?_;simp only [List.filterMap_cons,List.filterMap_nil,List.getElem?_cons_zero,List.getElem?_cons_succ,List.cons_append,List.nil_append];simp only [go_sem,il,ints_get hx,ints_get hy];(try go_ints);(try simp only [go_sem,il,ints_get hx,ints_get hy]);(repeat refine And.intro side ?_);(first|refine hK _ ?_|refine hR _ _ ?_);clear hK hR K R)
   repeat (first | refine nav ?_ | refine bo ?_)
   refine W_cond (b:=x != y) (by simp only [go_sem]) (fun hc=>?_) (fun hc=>?_)
   ·have : decide (a = b) = false:=by
     simp only [decide_eq_false_iff_not]
     rintro rfl
     rw [hx] at hy
     simp only [Option.some.injEq] at hy
     simp [hy] at hc
    rw [this]
    repeat (first | refine nav ?_ | refine bo ?_)
    (refine wr fun K R hK hR=>?_;simp only [go_sem];(try go_ints);(repeat refine And.intro side ?_);(first|refine hK _ ?_|refine hR _ _ ?_);clear hK hR K R)
    repeat (first | refine nav ?_ | refine bo ?_)
    refine endQ_data (by simp only [go_sem]<;>exact rfl) (Le.of_eq ?_) rfl
    rfl
   ·have hxy : x = y:=by simpa using hc
    repeat (first | refine nav ?_ | refine bo ?_)
    (refine wr fun K R hK hR=>?_;simp only [go_sem,h13];(try go_ints);(try simp only [go_sem,h13]);(repeat refine And.intro side ?_);(first|refine hK _ ?_|refine hR _ _ ?_);clear hK hR K R)
    refine forQ_normal (a.length - (k + 1)) (by omega) ⟨k + 1,rfl,by simp only [go_sem]<;>rfl,rfl,hb0,?_⟩
    rw [List.take_add_one,List.take_add_one,hi,hx,hy,hxy]
  ·simp at hb
   obtain rfl : k = a.length:=by omega
   have : decide (a = b) = true:=by
    rw [List.take_length,List.take_of_length_le (by omega)] at hi
    simp [hi]
   rw [this]
   repeat (first | refine nav ?_ | refine bo ?_)
   (refine wr fun K R hK hR=>?_;simp only [go_sem];(try go_ints);(repeat refine And.intro side ?_);(first|refine hK _ ?_|refine hR _ _ ?_);clear hK hR K R)
   repeat (first | refine nav ?_ | refine bo ?_)
   refine endQ_data (by simp only [go_sem]<;>exact rfl) (Le.of_eq ?_) rfl
   rfl
 ·have hl' : ((a.length : Int) != (b.length : Int)) = true:=by simp;omega
  refine W_cond (b:=true) (by simp only [go_sem,il];exact hl') (fun _=>?_) (fun hb=>by cases hb)
  have : decide (a = b) = false:=by simp;intro e;exact hl (by rw [e])
  rw [this]
  repeat (first | refine nav ?_ | refine bo ?_)
  (refine wr fun K R hK hR=>?_;simp only [go_sem];(try go_ints);(repeat refine And.intro side ?_);(first|refine hK _ ?_|refine hR _ _ ?_);clear hK hR K R)
  repeat (first | refine nav ?_ | refine bo ?_)
  refine endQ_data (by simp only [go_sem]<;>exact rfl) (Le.of_eq ?_) rfl
  rfl
def ddN (l : List (List Int)) : Nat → List (List Int)
 | 0=>[]
 | m + 1=>if 0 < m ∧ l.getD m [] = l.getD (m - 1) [] then ddN l m else ddN l m ++ [l.getD m []]
theorem tups_len' (l : List (List Int)) : (tups l).length = l.length:=by simp [tups]
theorem modify_get {rows : List (List AV)} {i : Nat} {v : AV} {r : List AV} (h : rows[i]? = some r) (h1 : r.length = 1) : rows.modify i (fun row=>row.set 0 v) = rows.set i [v]:=by
 apply List.ext_getElem?
 intro j
 rw [List.getElem?_modify,List.getElem?_set]
 by_cases hj : i = j
 ·subst hj
  have:=(List.getElem?_eq_some_iff.1 h).1
  rw [h]
  match r,h1 with
  | [z],_=>simp [this]
 ·simp [hj]
theorem putRows_eq : ∀ (l : List AV) (rows : List (List AV)) (r : Nat),(∀ x ∈ rows,x.length = 1) → r + l.length ≤ rows.length → putRows rows r l = rows.take r ++ l.map (fun a=>[a]) ++ rows.drop (r + l.length)
 | [],rows,r,_,h=>by simp [putRows]
 | a :: l,rows,r,h1,h=>by
  simp only [List.length_cons] at h
  obtain ⟨z,hz⟩ : ∃ z,rows[r]? = some z:=⟨_,List.getElem?_eq_getElem (by omega)⟩
  have hr : r < rows.length:=by omega
  have e1 : rset rows r 0 a = rows.set r [a]:=modify_get hz (h1 z (List.mem_of_getElem? hz))
  rw [putRows,e1,putRows_eq l (rows.set r [a]) (r + 1) (fun x hx=>by
   rcases List.mem_or_eq_of_mem_set hx with hx | rfl
   ·exact h1 x hx
   ·rfl) (by rw [List.length_set];omega)]
  rw [List.take_add_one,List.drop_set_of_lt (by omega)]
  have e3 : (rows.set r [a]).take r = rows.take r:=by rw [List.take_set];exact List.set_eq_of_length_le (by simp;omega)
  rw [e3]
  simp [hr,List.length_cons,show r + 1 + l.length = r + (l.length + 1) by omega]
theorem compact_spec (l : List (List Int)) (hl : l.length ≤ 1000000) (hll : ∀ x ∈ l,x.length ≤ 1000000) {oc : List Ob} {id : Nat} (ho : okO oc = true) (hi : oc[id]? = some (.cells 1 (tups l))) :
  ACalls Try.prog 84 [.ref id 0 l.length,.fn 85 []] oc fun x o'=>∃ k rows,x = .ref id 0 k ∧ o' = oc.set id (.cells 1 rows) ∧ k ≤ rows.length ∧ rows.take k = tups (ddN l l.length) ∧ (rows.all fun r=>r.all fun c=>c.dat.ltk 0 && c.dat.plain) = true ∧ okO o' = true:=by
 have hlt:=(List.getElem?_eq_some_iff.1 hi).1
 have tl:=tups_len'
 have hpl : ∀ l : List (List Int),((tups l).all fun r=>r.all fun c=>c.dat.ltk 0 && c.dat.plain) = true:=fun l=>by simp [tups,AV.dat,AV.ltk,AV.plain]
 have hself : oc.set id (.cells 1 (tups l)) = oc:=set_of_get hi
 refine ACalls_of' (n:=66) (rs:=[.tmp 4]) (show Try.prog.funcs[84]? = some Try.f84 by kernel_rfl) rfl rfl rfl (by simp) (by decide +kernel) ?_
 repeat (first | refine nav ?_ | refine bo ?_)
 (refine wr fun K R hK hR=>?_;simp only [go_sem];(try go_ints);(repeat refine And.intro side ?_);(first|refine hK _ ?_|refine hR _ _ ?_);clear hK hR K R)
 repeat (first | refine nav ?_ | refine bo ?_)
 (refine wr fun K R hK hR=>?_;simp only [go_sem];(try go_ints);(repeat refine And.intro side ?_);(first|refine hK _ ?_|refine hR _ _ ?_);clear hK hR K R)
 repeat (first | refine nav ?_ | refine bo ?_)
 refine W_cond (by simp only [go_sem]<;>exact rfl) (fun hb=>?_) (fun hb=>?_)
 ·simp at hb
  repeat (first | refine nav ?_ | refine bo ?_)
  (refine wr fun K R hK hR=>?_;simp only [go_sem];(try go_ints);(repeat refine And.intro side ?_);(first|refine hK _ ?_|refine hR _ _ ?_);clear hK hR K R)
  repeat (first | refine nav ?_ | refine bo ?_)
  refine endQ_all (by simp only [go_sem]<;>exact rfl) (Le.refl _) (by simp) ho (by simp [AV.ltk];omega) ⟨l.length,tups l,rfl,hself.symm,Nat.le_of_eq (tl l).symm,?_,hpl l,ho⟩
  rw [List.take_of_length_le (Nat.le_of_eq (tl l))]
  match l,hb with
  | [],_=>rfl
  | [x],_=>simp [ddN,tups]
 ·simp at hb
  repeat (first | refine nav ?_ | refine bo ?_)
  (refine wr fun K R hK hR=>?_;simp only [go_sem];(try go_ints);(repeat refine And.intro side ?_);(first|refine hK _ ?_|refine hR _ _ ?_);clear hK hR K R)
  repeat (first | refine nav ?_ | refine bo ?_)
  refine W_for 6 66 [4,5] (fun m t o=>∃ k : Nat,oc = o ∧ t 5 = .i .i64 k ∧ m = l.length - k ∧ 1 ≤ k ∧ k ≤ l.length ∧ ddN l k = l.take k) (l.length - 1) ⟨1,rfl,by simp only [go_sem]<;>rfl,by omega,by omega,by omega,?_⟩ ?_
  ·match l,hb with
   | x :: r,_=>simp [ddN]
  rintro m t o ⟨k,rfl,h5,rfl,hk1,hk,hd⟩
  repeat (first | refine nav ?_ | refine bo ?_)
  (refine wr fun K R hK hR=>?_;simp only [go_sem,h5];(try go_ints);(try simp only [go_sem,h5]);(repeat refine And.intro side ?_);(first|refine hK _ ?_|refine hR _ _ ?_);clear hK hR K R)
  repeat (first | refine nav ?_ | refine bo ?_)
  refine W_cond (by simp only [go_sem]<;>exact rfl) (fun hb=>?_) (fun hb=>?_)
  ·simp at hb
   have hb0 : k + 1 ≤ l.length:=hb
   obtain ⟨x,hx⟩ : ∃ x,l[k]? = some x:=⟨_,List.getElem?_eq_getElem hb⟩
   obtain ⟨y,hy⟩ : ∃ y,l[k - 1]? = some y:=⟨_,List.getElem?_eq_getElem (by omega)⟩
   have hxl:=hll x (List.mem_of_getElem? hx)
   have hyl:=hll y (List.mem_of_getElem? hy)
   have e1 : ((k : Int) - 1).toNat = k - 1:=by omega
   have hddk : ddN l (k + 1) = if x = y then ddN l k else ddN l k ++ [x]:=by
    simp only [ddN,List.getD_eq_getElem?_getD,hx,hy,Option.getD_some]
    by_cases hxy : x = y
    ·simp [hxy];omega
    ·simp [hxy]
   repeat (first | refine nav ?_ | refine bo ?_)
   (refine W_dreg (by decide +kernel) [] [0,1,2,3,4,5,6,7,8,9,10] [[],[],[],[2,1],[1,2,3],[],[],[6],[6,7,5],[5,7,6,8],[8,6,7,5,9,3,2,1,4,0]] (by decide +kernel) rfl fun K R hK hR=>?_;simp only [List.filterMap_cons,List.filterMap_nil,List.getElem?_cons_zero,List.getElem?_cons_succ,List.cons_append,List.nil_append];simp only [go_sem,h5,hi,tl,tups_get hx,tups_get hy,e1];(try go_ints);(try simp only [go_sem,h5,hi,tl,tups_get hx,tups_get hy,e1]);(repeat refine And.intro side ?_);(first|refine hK _ ?_|refine hR _ _ ?_);clear hK hR K R)
   refine D_callQ ((equalI_spec x y (by omega) (by omega)).frame rfl rfl oc) (by simp only [go_sem]<;>exact rfl) rfl rfl (by simp) (by simp only [go_sem]<;>exact LeA.refl _) ho rfl rfl rfl rfl ?_
   (refine D_reg fun K R hK hR=>?_;simp only [go_sem];(try go_ints);(repeat refine And.intro side ?_);(first|refine hK _ ?_|refine hR _ _ ?_);clear hK hR K R)
   repeat (first | refine nav ?_ | refine bo ?_)
   refine W_cond (b:=decide (x = y)) (by simp only [go_sem]) (fun hc=>?_) (fun hc=>?_)
   ·have hxy : x = y:=by simpa using hc
    repeat (first | refine nav ?_ | refine bo ?_)
    (refine wr fun K R hK hR=>?_;simp only [go_sem,h5,hi,tl];(try go_ints);(try simp only [go_sem,h5,hi,tl]);(repeat refine And.intro side ?_);(first|refine hK _ ?_|refine hR _ _ ?_);clear hK hR K R)
    repeat (first | refine nav ?_ | refine bo ?_)
    (refine wr fun K R hK hR=>?_;simp only [go_sem];(try go_ints);(repeat refine And.intro side ?_);(first|refine hK _ ?_|refine hR _ _ ?_);clear hK hR K R)
    repeat (first | refine nav ?_ | refine bo ?_)
    refine W_for 7 66 [4,5] (fun m t o=>∃ (j i : Nat) (L : List (List Int)),o = oc.set id (.cells 1 (tups L)) ∧ t 6 = .ref id k (l.length - k) ∧ t 7 = .i .i64 j ∧ t 5 = .i .i64 i ∧ m = l.length - k - j ∧ 1 ≤ j ∧ j ≤ l.length - k ∧
     L.length = l.length ∧ L.drop (k + j - 1) = l.drop (k + j - 1) ∧ i = (ddN l (k + j)).length ∧ L.take i = ddN l (k + j) ∧ i ≤ k + j - 1) (l.length - k - 1)
     ⟨1,k,l,hself.symm,by simp only [go_sem],by simp only [go_sem]<;>rfl,by simp only [go_sem,h5],by omega,by omega,by omega,rfl,rfl,?_,?_,by omega⟩ ?_
    ·rw [hddk,if_pos hxy,hd];simp;omega
    ·rw [hddk,if_pos hxy,hd]
    rintro m t2 o ⟨j,i,L,rfl,h6,h7,h5',rfl,hj1,hj,hLl,hdr,hil,htk,hik⟩
    have hoi : (oc.set id (.cells 1 (tups L)))[id]? = some (.cells 1 (tups L)):=by simp [hlt]
    have hok2 : ∀ L,okO (oc.set id (.cells 1 (tups L))) = true:=fun L=>okO_set' ho (by simp [Ob.ltk,tups,AV.ltk])
    repeat (first | refine nav ?_ | refine bo ?_)
    (refine wr fun K R hK hR=>?_;simp only [go_sem,h6,h7,hoi];(try go_ints);(try simp only [go_sem,h6,h7,hoi]);(repeat refine And.intro side ?_);(first|refine hK _ ?_|refine hR _ _ ?_);clear hK hR K R)
    repeat (first | refine nav ?_ | refine bo ?_)
    refine W_cond (by simp only [go_sem]<;>exact rfl) (fun hb=>?_) (fun hb=>?_)
    ·simp at hb
     have hb1 : k + (j + 1) ≤ l.length:=by omega
     obtain ⟨u,hu⟩ : ∃ u,l[k + j]? = some u:=⟨_,List.getElem?_eq_getElem (by omega)⟩
     obtain ⟨v,hv⟩ : ∃ v,l[k + (j - 1)]? = some v:=⟨_,List.getElem?_eq_getElem (by omega)⟩
     have hul:=hll u (List.mem_of_getElem? hu)
     have hvl:=hll v (List.mem_of_getElem? hv)
     have hLu : L[k + j]? = some u:=by
      have:=congrArg (fun z=>z[1]?) hdr
      simp only [List.getElem?_drop] at this
      rw [show k + j - 1 + 1 = k + j by omega] at this
      rw [this];exact hu
     have hLv : L[k + (j - 1)]? = some v:=by
      have:=congrArg (fun z=>z[0]?) hdr
      simp only [List.getElem?_drop] at this
      rw [show k + j - 1 + 0 = k + (j - 1) by omega] at this
      rw [this];exact hv
     have e2 : ((j : Int) - 1).toNat = j - 1:=by omega
     have hddj : ddN l (k + (j + 1)) = if u = v then ddN l (k + j) else ddN l (k + j) ++ [u]:=by
      rw [show k + (j + 1) = k + j + 1 by omega]
      simp only [ddN,List.getD_eq_getElem?_getD,show k + j - 1 = k + (j - 1) by omega,hu,hv,Option.getD_some]
      by_cases huv : u = v
      ·simp [huv];omega
      ·simp [huv]
     repeat (first | refine nav ?_ | refine bo ?_)
     (refine W_dreg (by decide +kernel) [] [0,1,2,3,4,5,6,7,8,9,10,11] [[],[],[],[2,1],[1,2,3],[],[],[6],[6,7,5],[5,7,6,8],[8,6,7,5,9,3,2,1,4,0],[0,4,1,2,3,9,5,7,6,8,10]] (by decide +kernel) rfl fun K R hK hR=>?_;simp only [List.filterMap_cons,List.filterMap_nil,List.getElem?_cons_zero,List.getElem?_cons_succ,List.cons_append,List.nil_append];simp only [go_sem,h6,h7,hoi,tl,hLl,tups_get hLu,tups_get hLv,e2];(try go_ints);(try simp only [go_sem,h6,h7,hoi,tl,hLl,tups_get hLu,tups_get hLv,e2]);(repeat refine And.intro side ?_);(first|refine hK _ ?_|refine hR _ _ ?_);clear hK hR K R)
     refine D_callQ ((equalI_spec u v (by omega) (by omega)).frame rfl rfl _) (by simp only [go_sem]<;>exact rfl) rfl rfl (by simp) (by simp only [go_sem]<;>exact LeA.refl _) (hok2 L) rfl rfl rfl rfl ?_
     (refine D_reg fun K R hK hR=>?_;simp only [go_sem];(try go_ints);(repeat refine And.intro side ?_);(first|refine hK _ ?_|refine hR _ _ ?_);clear hK hR K R)
     repeat (first | refine nav ?_ | refine bo ?_)
     refine W_cond (b:=!decide (u = v)) (by simp only [go_sem]) (fun hc=>?_) (fun hc=>?_)
     ·have huv : ¬ u = v:=by simpa using hc
      have hiL : i < L.length:=by omega
      obtain ⟨z,hz⟩ : ∃ z,L[i]? = some z:=⟨_,List.getElem?_eq_getElem hiL⟩
      have hset : (tups L).modify i (fun row=>row.set 0 (.sl 1 (ints u))) = tups (L.set i u):=by
       rw [modify_get (r:=[.sl 1 (ints z)]) (by simp [tups,hz]) rfl]
       simp [tups,List.map_set]
      repeat (first | refine nav ?_ | refine bo ?_)
      (refine wr fun K R hK hR=>?_;simp only [go_sem,h6,h7,h5',hoi,tl,hLl,tups_get hLu,tups_get hz,hset,List.set_set];(try go_ints);(try simp only [go_sem,h6,h7,h5',hoi,tl,hLl,tups_get hLu,tups_get hz,hset,List.set_set]);(repeat refine And.intro side ?_);(first|refine hK _ ?_|refine hR _ _ ?_);clear hK hR K R)
      repeat (first | refine nav ?_ | refine bo ?_)
      (refine wr fun K R hK hR=>?_;simp only [go_sem,h5'];(try go_ints);(try simp only [go_sem,h5']);(repeat refine And.intro side ?_);(first|refine hK _ ?_|refine hR _ _ ?_);clear hK hR K R)
      repeat (first | refine nav ?_ | refine bo ?_)
      (refine wr fun K R hK hR=>?_;simp only [go_sem,h7];(try go_ints);(try simp only [go_sem,h7]);(repeat refine And.intro side ?_);(first|refine hK _ ?_|refine hR _ _ ?_);clear hK hR K R)
      refine forQ_normal (l.length - k - (j + 1)) (by omega) ⟨j + 1,i + 1,L.set i u,rfl,by simp only [go_sem,h6],by simp only [go_sem]<;>rfl,by simp only [go_sem]<;>rfl,rfl,by omega,by omega,by rw [List.length_set,hLl],?_,?_,?_,by omega⟩
      ·have:=congrArg (fun z=>z.drop 1) hdr
       simp only [List.drop_drop] at this
       rw [show k + (j + 1) - 1 = k + j - 1 + 1 by omega,List.drop_set_of_lt (by omega)]
       exact this
      ·rw [hddj,if_neg huv,List.length_append,hil];rfl
      ·rw [hddj,if_neg huv,← htk,List.take_add_one]
       simp [hiL,List.take_set]
       exact List.set_eq_of_length_le (by simp;omega)
     ·have huv : u = v:=by simpa using hc
      repeat (first | refine nav ?_ | refine bo ?_)
      (refine wr fun K R hK hR=>?_;simp only [go_sem,h7];(try go_ints);(try simp only [go_sem,h7]);(repeat refine And.intro side ?_);(first|refine hK _ ?_|refine hR _ _ ?_);clear hK hR K R)
      refine forQ_normal (l.length - k - (j + 1)) (by omega) ⟨j + 1,i,L,rfl,by simp only [go_sem,h6],by simp only [go_sem]<;>rfl,by simp only [go_sem,h5'],rfl,by omega,by omega,hLl,?_,?_,?_,by omega⟩
      ·have:=congrArg (fun z=>z.drop 1) hdr
       simp only [List.drop_drop] at this
       rw [show k + (j + 1) - 1 = k + j - 1 + 1 by omega]
       exact this
      ·rw [hddj,if_pos huv];exact hil
      ·rw [hddj,if_pos huv];exact htk
    ·simp at hb
     obtain rfl : j = l.length - k:=by omega
     have ekj : k + (l.length - k) = l.length:=by omega
     rw [ekj] at hil htk hik
     repeat (first | refine nav ?_ | refine bo ?_)
     (refine W_part [] 3 fun R hR=>?_;simp only [go_sem,h5',hoi,tl,hLl];(try go_ints);(try simp only [go_sem,h5',hoi,tl,hLl]);(repeat refine And.intro side ?_);refine hR _ _ ?_;clear hR R)
     refine RL_cons rfl (OpW_clear (rows:=tups L) (a:=i) (n1:=l.length - i) rfl rfl rfl rfl (by simp only [go_sem]) Try.zeroValue32 rfl (by simp only [go_sem]<;>rfl) hoi (by rw [tl];omega) (fun r hr=>by obtain ⟨z,_,rfl⟩:=List.mem_map.1 hr;rfl) ?_)
     have hoi2 : (oc.set id (.cells 1 (putRows (tups L) i (List.replicate (l.length - i) .nsl))))[id]? = some (.cells 1 (putRows (tups L) i (List.replicate (l.length - i) .nsl))):=by simp [hlt]
     have hpe:=putRows_eq (List.replicate (l.length - i) .nsl) (tups L) i (fun r hr=>by obtain ⟨z,_,rfl⟩:=List.mem_map.1 hr;rfl) (by rw [List.length_replicate,tl];omega)
     rw [List.length_replicate,List.drop_eq_nil_of_le (by rw [tl];omega),List.append_nil] at hpe
     have htl2 : (tups L).take i = tups (L.take i):=by simp [tups]
     rw [htl2,htk] at hpe
     have hdl : (tups (ddN l l.length)).length = i:=by rw [tl];exact hil.symm
     generalize hrr : putRows (tups L) i (List.replicate (l.length - i) .nsl) = RR at *
     have hRl : RR.length = l.length:=by rw [hpe];simp [hdl];omega
     have hRp : (RR.all fun r=>r.all fun c=>c.dat.ltk 0 && c.dat.plain) = true:=by
      rw [hpe,List.all_append,hpl,List.map_replicate]
      simp [AV.dat,AV.ltk,AV.plain]
     have hRk : (Ob.cells 1 RR).ltk oc.length = true:=by
      rw [hpe]
      simp [Ob.ltk,tups,AV.ltk]
     have hok3 : okO (oc.set id (.cells 1 RR)) = true:=okO_set' ho hRk
     (refine rr fun K R hK hR=>?_;simp only [go_sem,List.set_set];(try go_ints);(try simp only [go_sem,List.set_set]);(repeat refine And.intro side ?_);(first|refine hK _ ?_|refine hR _ _ ?_);clear hK hR K R)
     repeat (first | refine nav ?_ | refine bo ?_)
     (refine wr fun K R hK hR=>?_;simp only [go_sem,h5',hoi2,hRl,List.set_set];(try go_ints);(try simp only [go_sem,h5',hoi2,hRl,List.set_set]);(repeat refine And.intro side ?_);(first|refine hK _ ?_|refine hR _ _ ?_);clear hK hR K R)
     repeat (first | refine nav ?_ | refine bo ?_)
     refine endQ_all (by simp only [go_sem]<;>exact rfl) (Le.refl _) (by simp) hok3 (by simp [AV.ltk];omega) ⟨i,RR,rfl,rfl,by rw [hRl];omega,?_,hRp,hok3⟩
     rw [hpe,List.take_left' hdl]
   ·have hxy : ¬ x = y:=by simpa using hc
    repeat (first | refine nav ?_ | refine bo ?_)
    (refine wr fun K R hK hR=>?_;simp only [go_sem,h5];(try go_ints);(try simp only [go_sem,h5]);(repeat refine And.intro side ?_);(first|refine hK _ ?_|refine hR _ _ ?_);clear hK hR K R)
    refine forQ_normal (l.length - (k + 1)) (by omega) ⟨k + 1,rfl,by simp only [go_sem]<;>rfl,rfl,by omega,hb0,?_⟩
    rw [hddk,if_neg hxy,hd,List.take_add_one,hx];rfl
  ·simp at hb
   obtain rfl : k = l.length:=by omega
   rw [List.take_length] at hd
   repeat (first | refine nav ?_ | refine bo ?_)
   (refine wr fun K R hK hR=>?_;simp only [go_sem,h5];(try go_ints);(try simp only [go_sem,h5]);(repeat refine And.intro side ?_);(first|refine hK _ ?_|refine hR _ _ ?_);clear hK hR K R)
   repeat (first | refine nav ?_ | refine bo ?_)
   refine endQ_all (by simp only [go_sem]<;>exact rfl) (Le.refl _) (by simp) ho (by simp [AV.ltk];omega) ⟨l.length,tups l,rfl,hself.symm,Nat.le_of_eq (tl l).symm,?_,hpl l,ho⟩
   rw [List.take_of_length_le (Nat.le_of_eq (tl l)),hd]
end Go.AW
namespace Go.Proofs
open Go.Shelf
def Try.sortT_ren : Go.Shelf.Ren:=⟨fun | 6=>83 | 15=>90 | 14=>89 | 28=>99 | 29=>100 | 20=>91 | 21=>92 | 22=>93 | 23=>94 | 24=>95 | 25=>96 | 26=>97 | 27=>98 | 46=>101 | 47=>102 | 48=>103 | 49=>104 | 50=>105 | 57=>106 | n=>n,fun | 22=>49 | 24=>32 | 25=>96 | 3=>3 | 39=>110 | 0=>0 | 53=>122 | 55=>124 | 4=>4 | 46=>116 | 45=>115 | 50=>94 | 5=>5 | 9=>9 | 66=>125 | 70=>129 | 76=>131 | 77=>45 | n=>n,fun | n=>n⟩
theorem Try.sortT : Go.Proofs.SlLaysF.n6 Try.prog Try.sortT_ren:={
 mixed:=by kernel_rfl
 f6:=by first | exact ⟨Try.f83.name,by kernel_rfl,Try.func83.trans (congrArg some (by kernel_rfl))⟩ | exact Try.func83.trans (congrArg some (by kernel_rfl))
 f14:=by first | exact ⟨Try.f89.name,by kernel_rfl,Try.func89.trans (congrArg some (by kernel_rfl))⟩ | exact Try.func89.trans (congrArg some (by kernel_rfl))
 f15:=by first | exact ⟨Try.f90.name,by kernel_rfl,Try.func90.trans (congrArg some (by kernel_rfl))⟩ | exact Try.func90.trans (congrArg some (by kernel_rfl))
 f20:=by first | exact ⟨Try.f91.name,by kernel_rfl,Try.func91.trans (congrArg some (by kernel_rfl))⟩ | exact Try.func91.trans (congrArg some (by kernel_rfl))
 f21:=by first | exact ⟨Try.f92.name,by kernel_rfl,Try.func92.trans (congrArg some (by kernel_rfl))⟩ | exact Try.func92.trans (congrArg some (by kernel_rfl))
 f22:=by first | exact ⟨Try.f93.name,by kernel_rfl,Try.func93.trans (congrArg some (by kernel_rfl))⟩ | exact Try.func93.trans (congrArg some (by kernel_rfl))
 f23:=by first | exact ⟨Try.f94.name,by kernel_rfl,Try.func94.trans (congrArg some (by kernel_rfl))⟩ | exact Try.func94.trans (congrArg some (by kernel_rfl))
 f24:=by first | exact ⟨Try.f95.name,by kernel_rfl,Try.func95.trans (congrArg some (by kernel_rfl))⟩ | exact Try.func95.trans (congrArg some (by kernel_rfl))
 f25:=by first | exact ⟨Try.f96.name,by kernel_rfl,Try.func96.trans (congrArg some (by kernel_rfl))⟩ | exact Try.func96.trans (congrArg some (by kernel_rfl))
 f26:=by first | exact ⟨Try.f97.name,by kernel_rfl,Try.func97.trans (congrArg some (by kernel_rfl))⟩ | exact Try.func97.trans (congrArg some (by kernel_rfl))
 f27:=by first | exact ⟨Try.f98.name,by kernel_rfl,Try.func98.trans (congrArg some (by kernel_rfl))⟩ | exact Try.func98.trans (congrArg some (by kernel_rfl))
 f28:=by first | exact ⟨Try.f99.name,by kernel_rfl,Try.func99.trans (congrArg some (by kernel_rfl))⟩ | exact Try.func99.trans (congrArg some (by kernel_rfl))
 f29:=by first | exact ⟨Try.f100.name,by kernel_rfl,Try.func100.trans (congrArg some (by kernel_rfl))⟩ | exact Try.func100.trans (congrArg some (by kernel_rfl))
 f46:=by first | exact ⟨Try.f101.name,by kernel_rfl,Try.func101.trans (congrArg some (by kernel_rfl))⟩ | exact Try.func101.trans (congrArg some (by kernel_rfl))
 f47:=by first | exact ⟨Try.f102.name,by kernel_rfl,Try.func102.trans (congrArg some (by kernel_rfl))⟩ | exact Try.func102.trans (congrArg some (by kernel_rfl))
 f48:=by first | exact ⟨Try.f103.name,by kernel_rfl,Try.func103.trans (congrArg some (by kernel_rfl))⟩ | exact Try.func103.trans (congrArg some (by kernel_rfl))
 f49:=by first | exact ⟨Try.f104.name,by kernel_rfl,Try.func104.trans (congrArg some (by kernel_rfl))⟩ | exact Try.func104.trans (congrArg some (by kernel_rfl))
 f50:=by first | exact ⟨Try.f105.name,by kernel_rfl,Try.func105.trans (congrArg some (by kernel_rfl))⟩ | exact Try.func105.trans (congrArg some (by kernel_rfl))
 f57:=by first | exact ⟨Try.f106.name,by kernel_rfl,Try.func106.trans (congrArg some (by kernel_rfl))⟩ | exact Try.func106.trans (congrArg some (by kernel_rfl))
 t0:=Try.underlying0
 a0:=Try.isAgg0
 z0:=Try.sizeOf0
 v0:=Try.zeroValue0
 t3:=Try.underlying3
 a3:=Try.isAgg3
 z3:=Try.sizeOf3
 v3:=Try.zeroValue3
 t4:=Try.underlying4
 a4:=Try.isAgg4
 z4:=Try.sizeOf4
 v4:=Try.zeroValue4
 t5:=Try.underlying5
 a5:=Try.isAgg5
 z5:=Try.sizeOf5
 v5:=Try.zeroValue5
 t9:=Try.underlying9
 a9:=Try.isAgg9
 z9:=Try.sizeOf9
 v9:=Try.zeroValue9
 t22:=Try.underlying49
 a22:=Try.isAgg49
 z22:=Try.sizeOf49
 v22:=Try.zeroValue49
 a24:=Try.isAgg32
 z24:=Try.sizeOf32
 t25:=Try.underlying96
 a25:=Try.isAgg96
 z25:=Try.sizeOf96
 v25:=Try.zeroValue96
 t39:=Try.underlying110
 a39:=Try.isAgg110
 z39:=Try.sizeOf110
 v39:=Try.zeroValue110
 t45:=Try.underlying115
 a45:=Try.isAgg115
 z45:=Try.sizeOf115
 v45:=Try.zeroValue115
 t46:=Try.underlying116
 a46:=Try.isAgg116
 z46:=Try.sizeOf116
 v46:=Try.zeroValue116
 t50:=Try.underlying94
 a50:=Try.isAgg94
 z50:=Try.sizeOf94
 v50:=Try.zeroValue94
 t53:=Try.underlying122
 a53:=Try.isAgg122
 z53:=Try.sizeOf122
 v53:=Try.zeroValue122
 t55:=Try.underlying124
 a55:=Try.isAgg124
 z55:=Try.sizeOf124
 v55:=Try.zeroValue124
 t66:=Try.underlying125
 a66:=Try.isAgg125
 z66:=Try.sizeOf125
 v66:=Try.zeroValue125
 t70:=Try.underlying129
 a70:=Try.isAgg129
 z70:=Try.sizeOf129
 v70:=Try.zeroValue129
 t76:=Try.underlying131
 a76:=Try.isAgg131
 z76:=Try.sizeOf131
 v76:=Try.zeroValue131
 t77:=Try.underlying45
 a77:=Try.isAgg45
 z77:=Try.sizeOf45
 v77:=Try.zeroValue45 }
end Go.Proofs
namespace Go.AW
open Go Go.Proofs TyTry Go.IntWalk
set_option linter.unusedSimpArgs false
set_option linter.unusedVariables false
set_option maxRecDepth 10000
set_option maxHeartbeats 1000000
theorem cmpF_swap (a b : Int) : cmpF b a = - cmpF a b:=by
 unfold cmpF
 split<;>split<;>(try split)<;>(try split)<;>omega
theorem cmpF_zero {a b : Int} (h : cmpF a b = 0) : a = b:=by
 unfold cmpF at h
 split at h
 ·omega
 ·split at h<;>omega
theorem cmpL_swap : ∀ (a b : List Int),cmpL b a = - cmpL a b
 | [],[]=>rfl
 | [],_ :: _=>rfl
 | _ :: _,[]=>rfl
 | a :: l,b :: r=>by
  have h:=cmpF_swap a b
  simp only [cmpL]
  by_cases h0 : cmpF a b = 0
  ·rw [if_neg (by omega),if_neg (by omega)];exact cmpL_swap l r
  ·rw [if_pos (by omega),if_pos (by omega)];exact h
theorem cmpL_self : ∀ (a : List Int),cmpL a a = 0
 | []=>rfl
 | a :: l=>by simp only [cmpL];rw [if_neg (by unfold cmpF;simp)];exact cmpL_self l
theorem cmpL_zero : ∀ {a b : List Int},cmpL a b = 0 → a = b
 | [],[],_=>rfl
 | [],_ :: _,h=>by cases h
 | _ :: _,[],h=>by cases h
 | a :: l,b :: r,h=>by
  simp only [cmpL] at h
  by_cases h0 : cmpF a b = 0
  ·rw [if_neg (by omega)] at h
   rw [cmpF_zero h0,cmpL_zero h]
  ·rw [if_pos h0] at h;exact absurd h h0
theorem cmpL_trans : ∀ {a b c : List Int},cmpL a b < 0 → cmpL b c < 0 → cmpL a c < 0
 | [],[],_,h,_=>by cases h
 | [],_ :: _,[],_,h=>by cases h
 | [],_ :: _,_ :: _,_,_=>by simp [cmpL]
 | _ :: _,[],_,h,_=>by simp [cmpL] at h
 | _ :: _,_ :: _,[],_,h=>by simp [cmpL] at h
 | a :: l,b :: r,c :: q,h,k=>by
  simp only [cmpL] at h k ⊢
  unfold cmpF at h k ⊢
  by_cases h1 : a < b
  ·by_cases h2 : b < c
   ·have : a < c:=by omega
    simp [this]
   ·by_cases h3 : c < b
    ·simp [h2,h3] at k
    ·have : b = c:=by omega
     subst this
     simp [h1]
  ·by_cases h1' : b < a
   ·simp [h1,h1'] at h
   ·have : a = b:=by omega
    subst this
    by_cases h2 : a < c
    ·simp [h2]
    ·by_cases h3 : c < a
     ·simp [h2,h3] at k
     ·have : a = c:=by omega
      subst this
      simp at h k ⊢
      exact cmpL_trans h k
theorem cmpL_le_trans {a b c : List Int} (h : cmpL a b ≤ 0) (k : cmpL b c ≤ 0) : cmpL a c ≤ 0:=by
 rcases Int.lt_or_eq_of_le h with h | h
 ·rcases Int.lt_or_eq_of_le k with k | k
  ·exact Int.le_of_lt (cmpL_trans h k)
  ·rw [← cmpL_zero k];exact Int.le_of_lt h
 ·rw [cmpL_zero h];exact k
def leL (a b : List Int) : Bool:=decide (cmpL a b ≤ 0)
def sortL (l : List (List Int)) : List (List Int):=l.mergeSort leL
def sortT (l : List (List Int)) : List (List Int):=ddN (sortL l) (sortL l).length
theorem sortL_pw (l : List (List Int)) : (sortL l).Pairwise fun a b=>cmpL a b ≤ 0:=by
 have:=List.pairwise_mergeSort (le:=leL) (fun a b c h k=>by unfold leL at *;simp only [decide_eq_true_eq] at *;exact cmpL_le_trans h k)
  (fun a b=>by
   unfold leL
   have:=cmpL_swap a b
   simp only [Bool.or_eq_true,decide_eq_true_eq];omega) l
 unfold sortL
 exact this.imp fun h=>by simpa [leL] using h
theorem sortL_perm (l : List (List Int)) : (sortL l).Perm l:=List.mergeSort_perm l leL
theorem sortL_len (l : List (List Int)) : (sortL l).length = l.length:=(sortL_perm l).length_eq
theorem sortL_uniq {l l' : List (List Int)} (hp : l'.Perm l) (hs : ∀ i j,i < j → j < l'.length → ¬ cmpL (l'.getD j []) (l'.getD i []) < 0) : l' = sortL l:=by
 refine List.Perm.eq_of_pairwise (le:=fun a b=>cmpL a b ≤ 0) (fun a b _ _ h k=>?_) ?_ (sortL_pw l) (hp.trans (sortL_perm l).symm)
 ·have:=cmpL_swap a b
  exact cmpL_zero (by omega)
 ·rw [List.pairwise_iff_getElem]
  intro i j hi hj hij
  have h:=hs i j hij hj
  rw [List.getD_eq_getElem?_getD,List.getD_eq_getElem?_getD,List.getElem?_eq_getElem hi,List.getElem?_eq_getElem hj] at h
  have:=cmpL_swap l'[i] l'[j]
  simp only [Option.getD_some] at h
  omega
theorem sortF_spec (l : List (List Int)) (hn : 0 < l.length) (hl : l.length ≤ 1000000) (hll : ∀ x ∈ l,x.length ≤ 1000000) {oc : List Ob} {id : Nat} (hi : oc[id]? = some (.cells 1 (tups l))) :
  ACalls Try.prog 83 [.ref id 0 l.length,.fn 71 []] oc fun r o'=>r = .tup [] ∧ o' = oc.set id (.cells 1 (tups (sortL l))):=by
 obtain ⟨rows,hrows⟩ : ∃ rows : List (Nat × List (List AV)),rows = l.map fun x=>(1,ints x):=⟨_,rfl⟩
 have hrl : rows.length = l.length:=by rw [hrows];simp
 have hcr : (rows.map fun a=>[AV.sl a.1 a.2]) = tups l:=by rw [hrows];simp [tups,Function.comp_def]
 have hrg : ∀ k,k < l.length → rows.getD k (0,[]) = (1,ints (l.getD k [])):=fun k hk=>by
  rw [hrows,List.getD_eq_getElem?_getD,List.getElem?_map,List.getElem?_eq_getElem hk]
  simp [hk]
 have h:=ACalls_sort (P:=Try.prog) (f:=83) (g:=71) (oc:=oc) (id:=id) (rows:=rows) (cf:=fun i j=>cmpL (l.getD i []) (l.getD j [])) (by decide +kernel) (by decide +kernel) (by rw [hcr];exact hi) (by omega)
  (fun a ha=>by rw [hrows] at ha;obtain ⟨x,_,rfl⟩:=List.mem_map.1 ha;rfl)
  (fun i j hi hj=>by
   have e1 : rows[i] = (1,ints (l.getD i [])):=by rw [← hrg i (by omega)];simp [hi]
   have e2 : rows[j] = (1,ints (l.getD j [])):=by rw [← hrg j (by omega)];simp [hj]
   rw [e1,e2]
   have q : ∀ k,k < l.length → (l.getD k []).length ≤ 1000000:=fun k hk=>by
    rw [List.getD_eq_getElem?_getD,List.getElem?_eq_getElem hk]
    exact hll _ (List.getElem_mem hk)
   have q1:=q i (by omega)
   have q2:=q j (by omega)
   exact compare_spec _ _ (by omega) (by omega))
  (fun enc blk off cap d w hd h1 hC hH hb=>by
   refine Any.slices_SortFunc Try.sortT enc h1 (fun x y=>cmpL (l.getD x.val []) (l.getD y.val [])) ⟨fun x=>?_,fun x y z hx hy=>?_,fun x y z hx hy=>?_⟩ 71 #[] blk off cap d w (fun args w=>callOk_run (by decide +kernel) args w) hC hH hb (by omega)
   ·simp only [Go.Proofs.ltOf,cmpL_self];rfl
   ·simp only [Go.Proofs.ltOf,decide_eq_true_eq] at *
    exact cmpL_trans hx hy
   ·simp only [Go.Proofs.ltOf,decide_eq_false_iff_not] at *
    have s1:=cmpL_swap (l.getD x.val []) (l.getD y.val [])
    have s2:=cmpL_swap (l.getD y.val []) (l.getD z.val [])
    have s3:=cmpL_swap (l.getD x.val []) (l.getD z.val [])
    have:=cmpL_le_trans (a:=l.getD z.val []) (b:=l.getD y.val []) (c:=l.getD x.val []) (by omega) (by omega)
    omega)
 rw [hrl] at h
 refine h.mono ?_
 rintro r o' ⟨rfl,π,hp,hs,rfl⟩
 refine ⟨rfl,?_⟩
 have hπl : π.length = l.length:=by rw [hp.length_eq];simp
 have hmem : ∀ k ∈ π,k < l.length:=fun k hk=>by simpa using hp.mem_iff.1 hk
 have e1 : (π.map fun k=>[AV.sl (rows.getD k (0,[])).1 (rows.getD k (0,[])).2]) = tups (π.map fun k=>l.getD k []):=by
  unfold tups
  rw [List.map_map]
  exact List.map_congr_left fun k hk=>by rw [hrg k (hmem k hk)];rfl
 rw [e1,sortL_uniq (l:=l) (l':=π.map fun k=>l.getD k []) ?_ ?_]
 ·have:=hp.map fun k=>l.getD k []
  refine this.trans ?_
  have : (List.range l.length).map (fun k=>l.getD k []) = l:=by
   apply List.ext_getElem?
   intro i
   rw [List.getElem?_map]
   by_cases hi : i < l.length
   ·rw [List.getElem?_range hi,List.getElem?_eq_getElem hi];simp [hi]
   ·rw [List.getElem?_eq_none (by simp;omega),List.getElem?_eq_none (by omega)];rfl
  rw [this]
 ·intro i j hij hj
  rw [List.length_map] at hj
  have:=hs i j hij (by omega)
  have g : ∀ k,k < π.length → (π.map fun k=>l.getD k []).getD k [] = l.getD (π.getD k 0) []:=fun k hk=>by
   simp [hk]
  rw [g j hj,g i (by omega)]
  exact this
theorem sorted_spec (l : List (List Int)) (hn : l ≠ []) (hl : l.length ≤ 1000000) (hll : ∀ x ∈ l,x.length ≤ 1000000) : SortedP l (sortT l):=by
 intro oc id ho hi
 have hlt:=(List.getElem?_eq_some_iff.1 hi).1
 have hn' : 0 < l.length:=List.length_pos_iff.2 hn
 have hok2 : okO (oc.set id (.cells 1 (tups (sortL l)))) = true:=okO_set' ho (by simp [Ob.ltk,tups,AV.ltk])
 have hi2 : (oc.set id (.cells 1 (tups (sortL l))))[id]? = some (.cells 1 (tups (sortL l))):=by simp [hlt]
 have hc:=compact_spec (sortL l) (by rw [sortL_len];exact hl) (fun x hx=>hll x ((sortL_perm l).mem_iff.1 hx)) hok2 hi2
 rw [sortL_len] at hc
 refine ACalls_of' (n:=7) (rs:=[.tmp 2]) (show Try.prog.funcs[75]? = some Try.f75 by kernel_rfl) rfl rfl rfl (by simp) (by decide +kernel) ?_
 repeat (first | refine nav ?_ | refine bo ?_)
 (refine W_reg [1000000] fun K R hK hR=>?_;simp only [go_sem];(try go_ints);(repeat refine And.intro side ?_);(first|refine hK _ ?_|refine hR _ _ ?_);clear hK hR K R)
 repeat (first | refine nav ?_ | refine bo ?_)
 (refine W_reg [1000000] fun K R hK hR=>?_;simp only [go_sem];(try go_ints);(repeat refine And.intro side ?_);(first|refine hK _ ?_|refine hR _ _ ?_);clear hK hR K R)
 refine RL_callE (caps:=[]) (sortF_spec l hn' hl hll hi) (by rintro r o' ⟨rfl,rfl⟩;exact ⟨by simp,rfl,hok2⟩) rfl rfl rfl (by simp) (by simp only [go_sem]<;>exact LeA.refl _) ho (by simp [AV.ltk,AV.ltks];omega) ?_
 rintro r o' ⟨rfl,rfl⟩
 (refine RL_reg [1000000] fun K R hK hR=>?_;simp only [go_sem];(try go_ints);(repeat refine And.intro (by first|exact side|(omega)) ?_);(first|refine hK _ ?_|refine hR _ _ ?_);clear hK hR K R)
 repeat (first | refine nav ?_ | refine bo ?_)
 (refine W_reg [1000000] fun K R hK hR=>?_;simp only [go_sem];(try go_ints);(repeat refine And.intro side ?_);(first|refine hK _ ?_|refine hR _ _ ?_);clear hK hR K R)
 refine RL_callE (caps:=[]) hc ?_ rfl rfl rfl (by simp) (by simp only [go_sem]<;>exact LeA.refl _) hok2 (by simp [AV.ltk,AV.ltks];omega) ?_
 ·rintro r o' ⟨k,rows,rfl,rfl,h1,h2,h3,h4⟩
  exact ⟨by simp,by simp [AV.ltk];omega,h4⟩
 rintro r o' ⟨k,rows,rfl,rfl,h1,h2,h3,h4⟩
 (refine RL_reg [1000000] fun K R hK hR=>?_;simp only [go_sem];(try go_ints);(repeat refine And.intro (by first|exact side|(omega)) ?_);(first|refine hK _ ?_|refine hR _ _ ?_);clear hK hR K R)
 repeat (first | refine nav ?_ | refine bo ?_)
 refine endQ_all (by simp only [go_sem]<;>exact rfl) (Le.refl _) (by simp) h4 (by simp [AV.ltk];omega) ⟨k,rows,rfl,by simp,h1,?_,h3,h4⟩
 rw [h2];unfold sortT;rw [sortL_len]
end Go.AW
namespace Go.AW
open Go Go.Proofs TyTry Go.IntWalk
set_option linter.unusedSimpArgs false
set_option linter.unusedVariables false
set_option maxRecDepth 10000
set_option maxHeartbeats 2000000
def pickF (q : PlanD) (t : List Int) : Bool:=if q.kind = 2 then t.getD q.i.toNat 0 == t.getD q.j.toNat 0 else decide (t.getD q.i.toNat 0 < t.getD q.j.toNat 0)
theorem pick_spec (q : PlanD) (l : List (List Int)) (hk : q.kind = 2 ∨ q.kind = 3) (hl : l.length ≤ 1000000) (hll : ∀ x ∈ l,x.length ≤ 1000000) (hij : ∀ x ∈ l,0 ≤ q.i ∧ q.i < x.length ∧ 0 ≤ q.j ∧ q.j < x.length) :
  ACallsD Try.prog 59 [.any,.agg q.cells,.sl 1 (kid3 [l])] (.sl 1 (tups (l.filter (pickF q)))):=by
 have hq:=q.cells_eq
 rw [hq]
 have k0 : (kid3 [l]).getD 0 [] = [.sl 1 (tups l)]:=rfl
 have kl : (kid3 [l]).length = 1:=rfl
 have tl:=tups_len'
 have il : ∀ l : List Int,(ints l).length = l.length:=fun l=>by simp [ints]
 refine ACalls_of' (n:=58) (rs:=[.tmp 6]) (show Try.prog.funcs[59]? = some Try.f59 by kernel_rfl) rfl rfl rfl (by simp) (by decide +kernel) ?_
 repeat (first | refine nav ?_ | refine bo ?_)
 (refine wr fun K R hK hR=>?_;simp only [go_sem];(try go_ints);(repeat refine And.intro side ?_);(first|refine hK _ ?_|refine hR _ _ ?_);clear hK hR K R)
 repeat (first | refine nav ?_ | refine bo ?_)
 (refine wr fun K R hK hR=>?_;simp only [go_sem];(try go_ints);(repeat refine And.intro side ?_);(first|refine hK _ ?_|refine hR _ _ ?_);clear hK hR K R)
 repeat (first | refine nav ?_ | refine bo ?_)
 (refine wr fun K R hK hR=>?_;simp only [go_sem,k0,kl,tl];(try go_ints);(try simp only [go_sem,k0,kl,tl]);(repeat refine And.intro side ?_);(first|refine hK _ ?_|refine hR _ _ ?_);clear hK hR K R)
 repeat (first | refine nav ?_ | refine bo ?_)
 refine W_weak (s':=⟨mix 14 58 [7,9] (tab [(7,.own 1 []),(14,.i .i64 0)]) (tab [(4,.ptr 0 0 0),(12,.sl 1 (tups l)),(13,.i .i64 l.length)]),[boxQ q]⟩) (tab_mix (fun x hx=>?_) (fun x hx=>?_)) rfl ?_
 ·simp only [List.mem_cons,List.not_mem_nil,or_false] at hx
  rcases hx with rfl | rfl<;>rfl
 ·simp only [List.mem_cons,List.not_mem_nil,or_false] at hx
  rcases hx with rfl | rfl | rfl<;>rfl
 refine W_forM 14 58 [7,9] (fun m t o=>∃ k : Nat,[boxQ q] = o ∧ t 14 = .i .i64 k ∧ t 7 = .own 1 (tups ((l.take k).filter (pickF q))) ∧ m = l.length - k ∧ k ≤ l.length) l.length ⟨0,rfl,by simp only [go_sem]<;>rfl,by simp only [go_sem]<;>rfl,by omega,by omega⟩ ?_
 rintro m t o ⟨k,rfl,h14,h7,rfl,hkl⟩
 repeat (first | refine nav ?_ | refine bo ?_)
 (refine wr fun K R hK hR=>?_;simp only [go_sem,h14];(try go_ints);(try simp only [go_sem,h14]);(repeat refine And.intro side ?_);(first|refine hK _ ?_|refine hR _ _ ?_);clear hK hR K R)
 repeat (first | refine nav ?_ | refine bo ?_)
 refine W_cond (by simp only [go_sem]<;>exact rfl) (fun hb=>?_) (fun hb=>?_)
 ·simp at hb
  have hb0 : k + 1 ≤ l.length:=hb
  obtain ⟨x,hx⟩ : ∃ x,l[k]? = some x:=⟨_,List.getElem?_eq_getElem hb⟩
  have hxm:=List.mem_of_getElem? hx
  have hxl:=hll x hxm
  obtain ⟨i0,i1,j0,j1⟩:=hij x hxm
  obtain ⟨u,hu⟩ : ∃ u,x[q.i.toNat]? = some u:=⟨_,List.getElem?_eq_getElem (by omega)⟩
  obtain ⟨v,hv⟩ : ∃ v,x[q.j.toNat]? = some v:=⟨_,List.getElem?_eq_getElem (by omega)⟩
  have hgu : x.getD q.i.toNat 0 = u:=by simp [hu]
  have hgv : x.getD q.j.toNat 0 = v:=by simp [hv]
  obtain ⟨acc,hacc⟩ : ∃ acc,acc = (l.take k).filter (pickF q):=⟨_,rfl⟩
  have hal : acc.length ≤ k:=by rw [hacc];exact Nat.le_trans (List.length_filter_le _ _) (List.length_take_le _ _)
  have hnx : (l.take (k + 1)).filter (pickF q) = if pickF q x = true then acc ++ [x] else acc:=by
   rw [List.take_add_one,hx,List.filter_append,← hacc]
   simp only [Option.toList,List.filter_cons,List.filter_nil]
   split<;>simp
  rw [← hacc] at h7
  have hla : (tups acc).length ≤ 1000000:=by rw [tl];omega
  repeat (first | refine nav ?_ | refine bo ?_)
  (refine wr fun K R hK hR=>?_;simp only [go_sem,h14,tups_get hx,tl];(try go_ints);(try simp only [go_sem,h14,tups_get hx,tl]);(repeat refine And.intro side ?_);(first|refine hK _ ?_|refine hR _ _ ?_);clear hK hR K R)
  repeat (first | refine nav ?_ | refine bo ?_)
  rcases hk with hk | hk
  ·have hpf : pickF q x = (u == v):=by unfold pickF;rw [if_pos hk,hgu,hgv]
   (refine W_dreg (by decide +kernel) [] [0,1,2,3,4,5,6,7,8,9,10,11,12,13,14,15,16,17,18,19,20,21,22,23,24,25,26,27,28,29,30,31,32,33] [[],[0],[0,1],[1,0,2],[2,0,1,3],[2,0,1,3],[3,1,0,2,5],[5,6,3,1,0,2,4],[4,2,0,1,3,6,5,7],[2,0,1,3],[2,0,1,3],[3,1,0,2,10],[10,11,3,1,0,2,9],[9,2,0,1,3,11,10,12],[12,10,11,9,13,7,5,6,3,1,0,2,4,8],[8,4,6,5,7,13,9,11,10,12,14,2,0,1,3],[3,1,0,2,14,12,10,11,9,13,7,5,6,4,8,15],[15,8,4,6,5,7,13,9,11,10,12,14,2,0,1,3,16],[16,3,1,0,2,14,12,10,11,9,13,7,5,6,4,8,15,17],[17,15,8,4,6,5,7,13,9,11,10,12,14,2,0,1,3,16,18],[18,16,3,1,0,2,14,12,10,11,9,13,7,5,6,4,8,15,17,19],[19,17,15,8,4,6,5,7,13,9,11,10,12,14,2,0,1,3,16,18,20],[19,17,15,8,4,6,5,7,13,9,11,10,12,14,2,0,1,3,16,18,20],[20,18,16,3,1,0,2,14,12,10,11,9,13,7,5,6,4,8,15,17,19,22],[22,23,20,18,16,3,1,0,2,14,12,10,11,9,13,7,5,6,4,8,15,17,19,21],[21,19,17,15,8,4,6,5,7,13,9,11,10,12,14,2,0,1,3,16,18,20,23,22,24],[19,17,15,8,4,6,5,7,13,9,11,10,12,14,2,0,1,3,16,18,20],[19,17,15,8,4,6,5,7,13,9,11,10,12,14,2,0,1,3,16,18,20],[20,18,16,3,1,0,2,14,12,10,11,9,13,7,5,6,4,8,15,17,19,27],[27,28,20,18,16,3,1,0,2,14,12,10,11,9,13,7,5,6,4,8,15,17,19,26],[26,19,17,15,8,4,6,5,7,13,9,11,10,12,14,2,0,1,3,16,18,20,28,27,29],[29,27,28,26,30,24,22,23,20,18,16,3,1,0,2,14,12,10,11,9,13,7,5,6,4,8,15,17,19,21,25],[25,21,23,22,24,30,26,28,27,29,31,19,17,15,8,4,6,5,7,13,9,11,10,12,14,2,0,1,3,16,18,20],[20,18,17,19,31,29,27,28,26,30,24,22,23,21,25,32,15,8,4,6,5,7,13,9,11,10,12,14,2,0,1,3,16]] (by decide +kernel) rfl fun K R hK hR=>?_;simp only [List.filterMap_cons,List.filterMap_nil,List.getElem?_cons_zero,List.getElem?_cons_succ,List.cons_append,List.nil_append];simp only [go_sem,hk,il,ints_get hu,ints_get hv];(try go_ints);(try simp only [go_sem,hk,il,ints_get hu,ints_get hv]);(repeat refine And.intro side ?_);(first|refine hK _ ?_|refine hR _ _ ?_);clear hK hR K R)
   repeat (first | refine nav ?_ | refine bo ?_)
   refine W_weak (s':=⟨mix 14 58 [7,9] (tab [(7,.own 1 (tups acc)),(9,.sl 1 (ints x)),(14,.i .i64 k),(51,.b (pickF q x))]) (tab [(4,.ptr 0 0 0),(12,.sl 1 (tups l)),(13,.i .i64 l.length)]),[boxQ q]⟩) (tab_mix (fun y hy=>?_) (fun y hy=>?_)) rfl ?_
   ·simp only [List.mem_cons,List.not_mem_nil,or_false] at hy
    rcases hy with rfl | rfl | rfl | rfl
    ·simp only [go_sem,h7]
    ·simp only [go_sem]
    ·simp only [go_sem,h14]
    ·rw [hpf];simp only [go_sem]<;>cases (u == v)<;>rfl
   ·simp only [List.mem_cons,List.not_mem_nil,or_false] at hy
    rcases hy with rfl | rfl | rfl<;>rfl
   refine W_cond (b:=pickF q x) (by simp only [go_sem]) (fun hc=>?_) (fun hc=>?_)
   ·rw [if_pos hc] at hnx
    repeat (first | refine nav ?_ | refine bo ?_)
    (refine W_reg [52] fun K R hK hR=>?_;simp only [go_sem,hla];(try go_ints);(try simp only [go_sem,hla]);(repeat refine And.intro side ?_);(first|refine hK _ ?_|refine hR _ _ ?_);clear hK hR K R)
    repeat (first | refine nav ?_ | refine bo ?_)
    (refine wr fun K R hK hR=>?_;simp only [go_sem];(try go_ints);(repeat refine And.intro side ?_);(first|refine hK _ ?_|refine hR _ _ ?_);clear hK hR K R)
    refine forQ_normal (l.length - (k + 1)) (by omega) ⟨k + 1,rfl,by simp only [go_sem]<;>rfl,?_,rfl,hb0⟩
    rw [hnx,← tups_app]
    simp only [go_sem]
   ·rw [if_neg (by rw [hc];decide)] at hnx
    repeat (first | refine nav ?_ | refine bo ?_)
    (refine wr fun K R hK hR=>?_;simp only [go_sem];(try go_ints);(repeat refine And.intro side ?_);(first|refine hK _ ?_|refine hR _ _ ?_);clear hK hR K R)
    refine forQ_normal (l.length - (k + 1)) (by omega) ⟨k + 1,rfl,by simp only [go_sem]<;>rfl,?_,rfl,hb0⟩
    rw [hnx]
    simp only [go_sem]
  ·have hpf : pickF q x = decide (u < v):=by unfold pickF;rw [if_neg (by omega),hgu,hgv]
   (refine W_dreg (by decide +kernel) [] [0,1,2,3,4,5,6,7,8,9,10,11,12,13,14,15,16,17,18,19,20,21,22,23,24,25,26,27,28,29,30,31,32,33] [[],[0],[0,1],[1,0,2],[2,0,1,3],[2,0,1,3],[3,1,0,2,5],[5,6,3,1,0,2,4],[4,2,0,1,3,6,5,7],[2,0,1,3],[2,0,1,3],[3,1,0,2,10],[10,11,3,1,0,2,9],[9,2,0,1,3,11,10,12],[12,10,11,9,13,7,5,6,3,1,0,2,4,8],[8,4,6,5,7,13,9,11,10,12,14,2,0,1,3],[3,1,0,2,14,12,10,11,9,13,7,5,6,4,8,15],[15,8,4,6,5,7,13,9,11,10,12,14,2,0,1,3,16],[16,3,1,0,2,14,12,10,11,9,13,7,5,6,4,8,15,17],[17,15,8,4,6,5,7,13,9,11,10,12,14,2,0,1,3,16,18],[18,16,3,1,0,2,14,12,10,11,9,13,7,5,6,4,8,15,17,19],[19,17,15,8,4,6,5,7,13,9,11,10,12,14,2,0,1,3,16,18,20],[19,17,15,8,4,6,5,7,13,9,11,10,12,14,2,0,1,3,16,18,20],[20,18,16,3,1,0,2,14,12,10,11,9,13,7,5,6,4,8,15,17,19,22],[22,23,20,18,16,3,1,0,2,14,12,10,11,9,13,7,5,6,4,8,15,17,19,21],[21,19,17,15,8,4,6,5,7,13,9,11,10,12,14,2,0,1,3,16,18,20,23,22,24],[19,17,15,8,4,6,5,7,13,9,11,10,12,14,2,0,1,3,16,18,20],[19,17,15,8,4,6,5,7,13,9,11,10,12,14,2,0,1,3,16,18,20],[20,18,16,3,1,0,2,14,12,10,11,9,13,7,5,6,4,8,15,17,19,27],[27,28,20,18,16,3,1,0,2,14,12,10,11,9,13,7,5,6,4,8,15,17,19,26],[26,19,17,15,8,4,6,5,7,13,9,11,10,12,14,2,0,1,3,16,18,20,28,27,29],[29,27,28,26,30,24,22,23,20,18,16,3,1,0,2,14,12,10,11,9,13,7,5,6,4,8,15,17,19,21,25],[25,21,23,22,24,30,26,28,27,29,31,19,17,15,8,4,6,5,7,13,9,11,10,12,14,2,0,1,3,16,18,20],[20,18,17,19,31,29,27,28,26,30,24,22,23,21,25,32,15,8,4,6,5,7,13,9,11,10,12,14,2,0,1,3,16]] (by decide +kernel) rfl fun K R hK hR=>?_;simp only [List.filterMap_cons,List.filterMap_nil,List.getElem?_cons_zero,List.getElem?_cons_succ,List.cons_append,List.nil_append];simp only [go_sem,hk,il,ints_get hu,ints_get hv];(try go_ints);(try simp only [go_sem,hk,il,ints_get hu,ints_get hv]);(repeat refine And.intro side ?_);(first|refine hK _ ?_|refine hR _ _ ?_);clear hK hR K R)
   repeat (first | refine nav ?_ | refine bo ?_)
   refine W_weak (s':=⟨mix 14 58 [7,9] (tab [(7,.own 1 (tups acc)),(9,.sl 1 (ints x)),(14,.i .i64 k),(51,.b (pickF q x))]) (tab [(4,.ptr 0 0 0),(12,.sl 1 (tups l)),(13,.i .i64 l.length)]),[boxQ q]⟩) (tab_mix (fun y hy=>?_) (fun y hy=>?_)) rfl ?_
   ·simp only [List.mem_cons,List.not_mem_nil,or_false] at hy
    rcases hy with rfl | rfl | rfl | rfl
    ·simp only [go_sem,h7]
    ·simp only [go_sem]
    ·simp only [go_sem,h14]
    ·rw [hpf];simp only [go_sem]<;>cases decide (u < v)<;>rfl
   ·simp only [List.mem_cons,List.not_mem_nil,or_false] at hy
    rcases hy with rfl | rfl | rfl<;>rfl
   refine W_cond (b:=pickF q x) (by simp only [go_sem]) (fun hc=>?_) (fun hc=>?_)
   ·rw [if_pos hc] at hnx
    repeat (first | refine nav ?_ | refine bo ?_)
    (refine W_reg [52] fun K R hK hR=>?_;simp only [go_sem,hla];(try go_ints);(try simp only [go_sem,hla]);(repeat refine And.intro side ?_);(first|refine hK _ ?_|refine hR _ _ ?_);clear hK hR K R)
    repeat (first | refine nav ?_ | refine bo ?_)
    (refine wr fun K R hK hR=>?_;simp only [go_sem];(try go_ints);(repeat refine And.intro side ?_);(first|refine hK _ ?_|refine hR _ _ ?_);clear hK hR K R)
    refine forQ_normal (l.length - (k + 1)) (by omega) ⟨k + 1,rfl,by simp only [go_sem]<;>rfl,?_,rfl,hb0⟩
    rw [hnx,← tups_app]
    simp only [go_sem]
   ·rw [if_neg (by rw [hc];decide)] at hnx
    repeat (first | refine nav ?_ | refine bo ?_)
    (refine wr fun K R hK hR=>?_;simp only [go_sem];(try go_ints);(repeat refine And.intro side ?_);(first|refine hK _ ?_|refine hR _ _ ?_);clear hK hR K R)
    refine forQ_normal (l.length - (k + 1)) (by omega) ⟨k + 1,rfl,by simp only [go_sem]<;>rfl,?_,rfl,hb0⟩
    rw [hnx]
    simp only [go_sem]
 ·simp at hb
  obtain rfl : k = l.length:=by omega
  rw [List.take_length] at h7
  repeat (first | refine nav ?_ | refine bo ?_)
  (refine wr fun K R hK hR=>?_;simp only [go_sem,h7];(try go_ints);(try simp only [go_sem,h7]);(repeat refine And.intro side ?_);(first|refine hK _ ?_|refine hR _ _ ?_);clear hK hR K R)
  repeat (first | refine nav ?_ | refine bo ?_)
  refine endQ_data (by simp only [go_sem]<;>exact rfl) (Le.of_eq ?_) rfl
  rfl
end Go.AW
namespace Go.AW
open Go Go.Proofs TyTry Go.IntWalk
set_option linter.unusedSimpArgs false
set_option linter.unusedVariables false
set_option maxRecDepth 10000
set_option maxHeartbeats 2000000
def posF (b : List (List Int)) (t : List Int) : Nat:=(b.takeWhile fun x=>decide (cmpL x t < 0)).length
theorem posF_eq {b : List (List Int)} {t : List Int} {i : Nat} (hi : i ≤ b.length) (h1 : ∀ x ∈ b.take i,cmpL x t < 0) (h2 : ∀ x ∈ b.drop i,¬ cmpL x t < 0) : posF b t = i:=by
 have e : b = b.take i ++ b.drop i:=(List.take_append_drop i b).symm
 unfold posF
 rw [e,List.takeWhile_append_of_pos (fun x hx=>by simpa using h1 x hx)]
 have : (b.drop i).takeWhile (fun x=>decide (cmpL x t < 0)) = []:=by
  cases hd : b.drop i with
  | nil=>rfl
  | cons y r =>
   have:=h2 y (by rw [hd];simp)
   simp [this]
 rw [this]
 simp [hi]
def Rise (b : List (List Int)) : Prop:=b.Pairwise fun x y=>cmpL x y ≤ 0
theorem Rise.get {b : List (List Int)} (h : Rise b) {i j : Nat} {x y : List Int} (hij : i ≤ j) (hx : b[i]? = some x) (hy : b[j]? = some y) : cmpL x y ≤ 0:=by
 obtain ⟨h1,rfl⟩:=List.getElem?_eq_some_iff.1 hx
 obtain ⟨h2,rfl⟩:=List.getElem?_eq_some_iff.1 hy
 rcases Nat.lt_or_eq_of_le hij with hlt | rfl
 ·exact (List.pairwise_iff_getElem.1 h) i j h1 h2 hlt
 ·rw [cmpL_self];exact Int.le_refl _
theorem mem_take_ex {α : Type} {b : List α} {i : Nat} {x : α} (h : x ∈ b.take i) : ∃ m,m < i ∧ b[m]? = some x:=by
 obtain ⟨m,hm⟩:=List.mem_iff_getElem?.1 h
 rw [List.getElem?_take] at hm
 split at hm
 ·exact ⟨m,by assumption,hm⟩
 ·cases hm
theorem mem_drop_ex {α : Type} {b : List α} {i : Nat} {x : α} (h : x ∈ b.drop i) : ∃ m,i ≤ m ∧ b[m]? = some x:=by
 obtain ⟨m,hm⟩:=List.mem_iff_getElem?.1 h
 rw [List.getElem?_drop] at hm
 exact ⟨i + m,by omega,hm⟩
theorem cmpL_lt_of {x y t : List Int} (h : cmpL x y ≤ 0) (k : cmpL y t < 0) : cmpL x t < 0:=by
 rcases Int.lt_or_eq_of_le h with h | h
 ·exact cmpL_trans h k
 ·rw [cmpL_zero h];exact k
theorem RL_skip' {P : Program} {n : Nat} {gd : List (Option Nat)} {Q : Exit → St → Prop} {s : St} {o : Oper} {r : List Oper} {j t : Nat} {want h0 x : Bool} (hg : o.guard = some (j,want)) (hj : gd.getD j none = some t) (hx : gv (s.t t) = some (h0,x)) (ht : (h0 && x == want) = false) (hd : dstOk n o.dst = true)
  (h : RL P n gd r Q (s.put o.dst (.gd false .any))) : RL P n gd (o :: r) Q s :=
 RL_gd hg hj hx hd (fun e=>by rw [ht] at e;cases e) (fun _=>⟨.gd false .any,(gdF_undef _).1,(gdF_undef _).2,h⟩)
theorem bsearch_spec (b : List (List Int)) (t : List Int) (hrise : Rise b) (hl : b.length ≤ 1000000) (hbl : ∀ x ∈ b,x.length ≤ 1000000) (ht : t.length ≤ 1000000) :
  ACallsD Try.prog 77 [.sl 1 (tups b),.sl 1 (ints t),.fn 71 []] (.tup [.i .i64 (posF b t),.b (decide (t ∈ b))]):=by
 have tl:=tups_len'
 refine ACalls_of' (n:=49) (rs:=[.tmp 6,.tmp 7]) (show Try.prog.funcs[77]? = some Try.f77 by kernel_rfl) rfl rfl rfl (by simp) (by decide +kernel) ?_
 repeat (first | refine nav ?_ | refine bo ?_)
 (refine wr fun K R hK hR=>?_;simp only [go_sem];(try go_ints);(repeat refine And.intro side ?_);(first|refine hK _ ?_|refine hR _ _ ?_);clear hK hR K R)
 repeat (first | refine nav ?_ | refine bo ?_)
 (refine wr fun K R hK hR=>?_;simp only [go_sem,tl];(try go_ints);(try simp only [go_sem,tl]);(repeat refine And.intro side ?_);(first|refine hK _ ?_|refine hR _ _ ?_);clear hK hR K R)
 repeat (first | refine nav ?_ | refine bo ?_)
 (refine wr fun K R hK hR=>?_;simp only [go_sem];(try go_ints);(repeat refine And.intro side ?_);(first|refine hK _ ?_|refine hR _ _ ?_);clear hK hR K R)
 repeat (first | refine nav ?_ | refine bo ?_)
 refine W_for 15 35 [9,10,11] (fun m t' o=>∃ i j : Nat,[] = o ∧ t' 9 = .i .i64 i ∧ t' 10 = .i .i64 j ∧ m = j - i ∧ i ≤ j ∧ j ≤ b.length ∧ (∀ x ∈ b.take i,cmpL x t < 0) ∧ (∀ x ∈ b.drop j,¬ cmpL x t < 0)) b.length ⟨0,b.length,rfl,by simp only [go_sem]<;>rfl,by simp only [go_sem]<;>rfl,by omega,by omega,Nat.le_refl _,by simp,by simp⟩ ?_
 rintro m t' o ⟨i,j,rfl,h9,h10,rfl,hij,hj,hlo,hhi⟩
 repeat (first | refine nav ?_ | refine bo ?_)
 (refine wr fun K R hK hR=>?_;simp only [go_sem,h9,h10];(try go_ints);(try simp only [go_sem,h9,h10]);(repeat refine And.intro side ?_);(first|refine hK _ ?_|refine hR _ _ ?_);clear hK hR K R)
 repeat (first | refine nav ?_ | refine bo ?_)
 refine W_cond (by simp only [go_sem]<;>exact rfl) (fun hb=>?_) (fun hb=>?_)
 ·simp at hb
  obtain ⟨h,hh⟩ : ∃ h,h = (i + j) / 2:=⟨_,rfl⟩
  have hih : i ≤ h ∧ h < j:=by omega
  have hmid : Go.RowKit.wrap64 (((i : Int) + (j : Int)).fdiv (2 ^ min 1 64)) = (h : Int):=by
   have e : ((i : Int) + (j : Int)).fdiv (2 ^ min 1 64) = (h : Int):=by
    rw [show (2 : Int) ^ min 1 64 = 2 from rfl,Int.fdiv_eq_ediv_of_nonneg _ (by omega)];omega
   rw [e];unfold Go.RowKit.wrap64;omega
  obtain ⟨x,hx⟩ : ∃ x,b[h]? = some x:=⟨_,List.getElem?_eq_getElem (by omega)⟩
  have hxl:=hbl x (List.mem_of_getElem? hx)
  repeat (first | refine nav ?_ | refine bo ?_)
  (refine wr fun K R hK hR=>?_;simp only [go_sem,h9,h10,hmid];(try go_ints);(try simp only [go_sem,h9,h10,hmid]);(repeat refine And.intro side ?_);(first|refine hK _ ?_|refine hR _ _ ?_);clear hK hR K R)
  repeat (first | refine nav ?_ | refine bo ?_)
  (refine wr fun K R hK hR=>?_;simp only [go_sem,tl,tups_get hx];(try go_ints);(try simp only [go_sem,tl,tups_get hx]);(repeat refine And.intro side ?_);(first|refine hK _ ?_|refine hR _ _ ?_);clear hK hR K R)
  refine RL_callQ ((compare_spec x t (by omega) (by omega)).frame rfl rfl []) (by simp only [go_sem]<;>exact rfl) rfl rfl (by simp) (by simp only [go_sem]<;>exact LeA.refl _) rfl rfl rfl ?_
  (refine rr fun K R hK hR=>?_;simp only [go_sem];(try go_ints);(repeat refine And.intro side ?_);(first|refine hK _ ?_|refine hR _ _ ?_);clear hK hR K R)
  repeat (first | refine nav ?_ | refine bo ?_)
  refine W_cond (b:=decide (cmpL x t < 0)) (by simp only [go_sem]) (fun hc=>?_) (fun hc=>?_)
  ·have hc : cmpL x t < 0:=by simpa using hc
   repeat (first | refine nav ?_ | refine bo ?_)
   (refine wr fun K R hK hR=>?_;simp only [go_sem];(try go_ints);(repeat refine And.intro side ?_);(first|refine hK _ ?_|refine hR _ _ ?_);clear hK hR K R)
   repeat (first | refine nav ?_ | refine bo ?_)
   refine forQ_normal (j - (h + 1)) (by omega) ⟨h + 1,j,rfl,by simp only [go_sem]<;>rfl,by simp only [go_sem,h10],rfl,by omega,hj,fun y hy=>?_,hhi⟩
   obtain ⟨m,hm,hy⟩:=mem_take_ex hy
   exact cmpL_lt_of (hrise.get (by omega) hy hx) hc
  ·have hc : ¬ cmpL x t < 0:=by simpa using hc
   repeat (first | refine nav ?_ | refine bo ?_)
   (refine wr fun K R hK hR=>?_;simp only [go_sem];(try go_ints);(repeat refine And.intro side ?_);(first|refine hK _ ?_|refine hR _ _ ?_);clear hK hR K R)
   repeat (first | refine nav ?_ | refine bo ?_)
   refine forQ_normal (h - i) (by omega) ⟨i,h,rfl,by simp only [go_sem,h9],by simp only [go_sem]<;>rfl,rfl,hih.1,by omega,hlo,fun y hy=>?_⟩
   obtain ⟨m,hm,hy⟩:=mem_drop_ex hy
   intro k
   exact hc (cmpL_lt_of (hrise.get hm hx hy) k)
 ·simp at hb
  obtain rfl : i = j:=by omega
  have hpos:=posF_eq hj hlo hhi
  have key : ∀ x,b[i]? = some x → (decide (cmpL x t = 0)) = decide (t ∈ b):=by
   intro x hx
   by_cases hm : t ∈ b
   ·obtain ⟨m,hm2⟩:=List.mem_iff_getElem?.1 hm
    have him : i ≤ m:=by
     rcases Nat.lt_or_ge m i with h | h
     ·have:=hlo t (List.mem_iff_getElem?.2 ⟨m,by rw [List.getElem?_take,if_pos h];exact hm2⟩)
      rw [cmpL_self] at this;omega
     ·exact h
    have h1:=hrise.get him hx hm2
    have h2:=hhi x (List.mem_iff_getElem?.2 ⟨0,by rw [List.getElem?_drop];exact hx⟩)
    have : cmpL x t = 0:=by omega
    simp [this,hm]
   ·have : cmpL x t ≠ 0:=fun h=>hm (by rw [← cmpL_zero h];exact List.mem_of_getElem? hx)
    simp [this,hm]
  repeat (first | refine nav ?_ | refine bo ?_)
  by_cases hin : i < b.length
  ·obtain ⟨x,hx⟩ : ∃ x,b[i]? = some x:=⟨_,List.getElem?_eq_getElem hin⟩
   have hxl:=hbl x (List.mem_of_getElem? hx)
   have hin2 : decide ((i : Int) < (b.length : Int)) = true:=by simp [hin]
   (refine wr fun K R hK hR=>?_;simp only [go_sem,h9,hin2,tl,tups_get hx];(try go_ints);(try simp only [go_sem,h9,hin2,tl,tups_get hx]);(repeat refine And.intro side ?_);(first|refine hK _ ?_|refine hR _ _ ?_);clear hK hR K R)
   refine RL_callQg rfl (by simp only [go_sem,hin2]<;>exact rfl) (fun _=>(compare_spec x t (by omega) (by omega)).frame rfl rfl []) (fun _=>by simp only [go_sem,hin2]<;>exact rfl) rfl rfl (by simp) (fun _=>by simp only [go_sem,hin2]<;>exact LeA.refl _) rfl rfl rfl ?_
   (refine rr fun K R hK hR=>?_;simp only [go_sem];(try go_ints);(repeat refine And.intro side ?_);(first|refine hK _ ?_|refine hR _ _ ?_);clear hK hR K R)
   repeat (first | refine nav ?_ | refine bo ?_)
   refine endQ_data (by simp only [go_sem]<;>exact rfl) (Le.of_eq ?_) rfl
   have hk:=key x hx
   rw [hpos,← hk]
   congr 3
  ·have hm : ¬ t ∈ b:=by
    intro hm
    obtain ⟨m,hm2⟩:=List.mem_iff_getElem?.1 hm
    have:=(List.getElem?_eq_some_iff.1 hm2).1
    have:=hlo t (List.mem_iff_getElem?.2 ⟨m,by rw [List.getElem?_take,if_pos (by omega)];exact hm2⟩)
    rw [cmpL_self] at this;omega
   have hin2 : decide ((i : Int) < (b.length : Int)) = false:=by simp;omega
   (refine wr fun K R hK hR=>?_;simp only [go_sem,h9,hin2];(try go_ints);(try simp only [go_sem,h9,hin2]);(repeat refine And.intro side ?_);(first|refine hK _ ?_|refine hR _ _ ?_);clear hK hR K R)
   refine RL_skip' (j:=4) (t:=39) (want:=true) (h0:=true) (x:=false) rfl rfl (by simp only [go_sem,hin2]<;>rfl) rfl rfl ?_
   (refine rr fun K R hK hR=>?_;simp only [go_sem];(try go_ints);(repeat refine And.intro side ?_);(first|refine hK _ ?_|refine hR _ _ ?_);clear hK hR K R)
   repeat (first | refine nav ?_ | refine bo ?_)
   refine endQ_data (by simp only [go_sem]<;>exact rfl) (Le.of_eq ?_) rfl
   rw [hpos]
   simp [hm]
def minusF (a b : List (List Int)) : List (List Int):=a.filter fun t=>!decide (t ∈ b)
theorem minus_spec (q : PlanD) (a b : List (List Int)) (hrise : Rise b) (hl : a.length ≤ 1000000) (hbl : b.length ≤ 1000000) (hll : ∀ x ∈ a,x.length ≤ 1000000) (hlb : ∀ x ∈ b,x.length ≤ 1000000) :
  ACallsD Try.prog 63 [.any,.agg q.cells,.sl 1 (kid3 [a,b])] (.sl 1 (tups (minusF a b))):=by
 have hq:=q.cells_eq
 rw [hq]
 have k0 : (kid3 [a,b]).getD 0 [] = [.sl 1 (tups a)]:=rfl
 have k1 : (kid3 [a,b]).getD 1 [] = [.sl 1 (tups b)]:=rfl
 have kl : (kid3 [a,b]).length = 2:=rfl
 have tl:=tups_len'
 refine ACalls_of' (n:=36) (rs:=[.tmp 6]) (show Try.prog.funcs[63]? = some Try.f63 by kernel_rfl) rfl rfl rfl (by simp) (by decide +kernel) ?_
 repeat (first | refine nav ?_ | refine bo ?_)
 (refine wr fun K R hK hR=>?_;simp only [go_sem];(try go_ints);(repeat refine And.intro side ?_);(first|refine hK _ ?_|refine hR _ _ ?_);clear hK hR K R)
 repeat (first | refine nav ?_ | refine bo ?_)
 (refine wr fun K R hK hR=>?_;simp only [go_sem];(try go_ints);(repeat refine And.intro side ?_);(first|refine hK _ ?_|refine hR _ _ ?_);clear hK hR K R)
 repeat (first | refine nav ?_ | refine bo ?_)
 (refine wr fun K R hK hR=>?_;simp only [go_sem,k0,kl,tl];(try go_ints);(try simp only [go_sem,k0,kl,tl]);(repeat refine And.intro side ?_);(first|refine hK _ ?_|refine hR _ _ ?_);clear hK hR K R)
 repeat (first | refine nav ?_ | refine bo ?_)
 refine W_weak (s':=⟨mix 16 36 [7,9,10,11] (tab [(7,.own 1 []),(16,.i .i64 0)]) (tab [(2,.sl 1 (kid3 [a,b])),(4,.ptr 0 0 0),(14,.sl 1 (tups a)),(15,.i .i64 a.length)]),[boxQ q]⟩) (tab_mix (fun x hx=>?_) (fun x hx=>?_)) rfl ?_
 ·simp only [List.mem_cons,List.not_mem_nil,or_false] at hx
  rcases hx with rfl | rfl<;>rfl
 ·simp only [List.mem_cons,List.not_mem_nil,or_false] at hx
  rcases hx with rfl | rfl | rfl | rfl<;>rfl
 refine W_forM 16 36 [7,9,10,11] (fun m t o=>∃ k : Nat,[boxQ q] = o ∧ t 16 = .i .i64 k ∧ t 7 = .own 1 (tups (minusF (a.take k) b)) ∧ m = a.length - k ∧ k ≤ a.length) a.length ⟨0,rfl,by simp only [go_sem]<;>rfl,by simp only [go_sem]<;>rfl,by omega,by omega⟩ ?_
 rintro m t o ⟨k,rfl,h16,h7,rfl,hkl⟩
 repeat (first | refine nav ?_ | refine bo ?_)
 (refine wr fun K R hK hR=>?_;simp only [go_sem,h16];(try go_ints);(try simp only [go_sem,h16]);(repeat refine And.intro side ?_);(first|refine hK _ ?_|refine hR _ _ ?_);clear hK hR K R)
 repeat (first | refine nav ?_ | refine bo ?_)
 refine W_cond (by simp only [go_sem]<;>exact rfl) (fun hb=>?_) (fun hb=>?_)
 ·simp at hb
  have hb0 : k + 1 ≤ a.length:=hb
  obtain ⟨x,hx⟩ : ∃ x,a[k]? = some x:=⟨_,List.getElem?_eq_getElem hb⟩
  have hxm:=List.mem_of_getElem? hx
  have hxl:=hll x hxm
  obtain ⟨acc,hacc⟩ : ∃ acc,acc = minusF (a.take k) b:=⟨_,rfl⟩
  have hal : acc.length ≤ k:=by rw [hacc];exact Nat.le_trans (List.length_filter_le _ _) (List.length_take_le _ _)
  have hnx : minusF (a.take (k + 1)) b = if x ∈ b then acc else acc ++ [x]:=by
   unfold minusF at *
   rw [List.take_add_one,hx,List.filter_append,← hacc]
   simp only [Option.toList,List.filter_cons,List.filter_nil]
   by_cases hm : x ∈ b<;>simp [hm]
  rw [← hacc] at h7
  have hla : (tups acc).length ≤ 1000000:=by rw [tl];omega
  repeat (first | refine nav ?_ | refine bo ?_)
  (refine wr fun K R hK hR=>?_;simp only [go_sem,h16,tups_get hx,tl];(try go_ints);(try simp only [go_sem,h16,tups_get hx,tl]);(repeat refine And.intro side ?_);(first|refine hK _ ?_|refine hR _ _ ?_);clear hK hR K R)
  repeat (first | refine nav ?_ | refine bo ?_)
  (refine wr fun K R hK hR=>?_;simp only [go_sem,k0,k1,kl];(try go_ints);(try simp only [go_sem,k0,k1,kl]);(repeat refine And.intro side ?_);(first|refine hK _ ?_|refine hR _ _ ?_);clear hK hR K R)
  refine RL_callQ ((bsearch_spec b x hrise hbl hlb hxl).frame rfl rfl [boxQ q]) (by simp only [go_sem]<;>exact rfl) rfl rfl (by simp) (by simp only [go_sem]<;>exact LeA.refl _) rfl rfl rfl ?_
  (refine rr fun K R hK hR=>?_;simp only [go_sem];(try go_ints);(repeat refine And.intro side ?_);(first|refine hK _ ?_|refine hR _ _ ?_);clear hK hR K R)
  repeat (first | refine nav ?_ | refine bo ?_)
  (refine wr fun K R hK hR=>?_;simp only [go_sem];(try go_ints);(repeat refine And.intro side ?_);(first|refine hK _ ?_|refine hR _ _ ?_);clear hK hR K R)
  repeat (first | refine nav ?_ | refine bo ?_)
  refine W_cond (b:=!decide (x ∈ b)) (by simp only [go_sem]) (fun hc=>?_) (fun hc=>?_)
  ·have hm : ¬ x ∈ b:=by simpa using hc
   rw [if_neg hm] at hnx
   repeat (first | refine nav ?_ | refine bo ?_)
   (refine W_reg [30] fun K R hK hR=>?_;simp only [go_sem,h7,hla];(try go_ints);(try simp only [go_sem,h7,hla]);(repeat refine And.intro side ?_);(first|refine hK _ ?_|refine hR _ _ ?_);clear hK hR K R)
   repeat (first | refine nav ?_ | refine bo ?_)
   (refine wr fun K R hK hR=>?_;simp only [go_sem,h16];(try go_ints);(try simp only [go_sem,h16]);(repeat refine And.intro side ?_);(first|refine hK _ ?_|refine hR _ _ ?_);clear hK hR K R)
   repeat (first | refine nav ?_ | refine bo ?_)
   refine forQ_normal (a.length - (k + 1)) (by omega) ⟨k + 1,rfl,by simp only [go_sem]<;>rfl,?_,rfl,hb0⟩
   rw [hnx,← tups_app]
   simp only [go_sem]
  ·have hm : x ∈ b:=by simpa using hc
   rw [if_pos hm] at hnx
   repeat (first | refine nav ?_ | refine bo ?_)
   (refine wr fun K R hK hR=>?_;simp only [go_sem,h16];(try go_ints);(try simp only [go_sem,h16]);(repeat refine And.intro side ?_);(first|refine hK _ ?_|refine hR _ _ ?_);clear hK hR K R)
   repeat (first | refine nav ?_ | refine bo ?_)
   refine forQ_normal (a.length - (k + 1)) (by omega) ⟨k + 1,rfl,by simp only [go_sem]<;>rfl,?_,rfl,hb0⟩
   rw [hnx]
   simp only [go_sem,h7]
 ·simp at hb
  obtain rfl : k = a.length:=by omega
  rw [List.take_length] at h7
  repeat (first | refine nav ?_ | refine bo ?_)
  (refine wr fun K R hK hR=>?_;simp only [go_sem,h7];(try go_ints);(try simp only [go_sem,h7]);(repeat refine And.intro side ?_);(first|refine hK _ ?_|refine hR _ _ ?_);clear hK hR K R)
  repeat (first | refine nav ?_ | refine bo ?_)
  refine endQ_data (by simp only [go_sem]<;>exact rfl) (Le.of_eq ?_) rfl
  rfl
end Go.AW
namespace Go.AW
open Go Go.Proofs TyTry Go.IntWalk
set_option linter.unusedSimpArgs false
set_option linter.unusedVariables false
set_option maxRecDepth 10000
set_option maxHeartbeats 2000000
theorem roomT (n : Nat) (h0 : 0 < n) (hn : n ≤ 100000000) (oc : List Ob) : ACalls Try.prog 86 [.nsl,.i .i64 n] oc fun r o'=>r = .ref oc.length 0 0 ∧ o' = oc ++ [.cells 1 []]:=by
 obtain ⟨i0,hi0,hs,hb,hz⟩ : ∃ i0,Try.prog.info? 32 = some i0 ∧ i0.size = 1 ∧ i0.bytes = 24 ∧ i0.zero = some (.slice none 0 0):=⟨Option.get (Try.prog.info? 32) (by kernel_rfl),by kernel_rfl,by kernel_rfl,by kernel_rfl,by kernel_rfl⟩
 refine ACalls_roomO (by decide +kernel) (fun w=>?_) oc
 refine (Any8.slices_Grow_grow Try.growT i0 _ hi0 hz (by omega) none 0 0 n [] w (by omega) (by omega) (by rw [hb];omega) (by omega) (by simp) (fun _=>rfl) (by simp)).mono ?_
 rintro e w' ⟨rfl,rfl⟩
 refine ⟨_,_,_,rfl,rfl,?_,grownCap_le_maxLen _ _ _ _ (by simp [maxLen];omega)⟩
 have hg:=grownCap_ge w (0 + n) 0 (Try.growT_ren.t 25)
 simp only [Array.size_append,size_zeroCells,Value.cells,List.size_toArray,List.length_nil,List.length_cons]
 omega
theorem flatT_take {L : List (List (List Int))} {k : Nat} {x : List (List Int)} (h : L[k]? = some x) : (L.take (k + 1)).flatten = (L.take k).flatten ++ x:=by
 rw [List.take_add_one,h];simp
theorem flatT_take_le (L : List (List (List Int))) (k : Nat) : (L.take k).flatten.length ≤ L.flatten.length:=by
 conv=>rhs;rw [← List.take_append_drop k L,List.flatten_append,List.length_append]
 omega
theorem concatT (L : List (List (List Int))) (hn : 0 < L.flatten.length) (hl : L.length ≤ 1000000) (hfl : L.flatten.length ≤ 2000000) (oc : List Ob) (ho : okO oc = true) :
  ACalls Try.prog 76 [.sl 1 (kid3 L)] oc fun r o'=>∃ id,r = .ref id 0 L.flatten.length ∧ oc.length ≤ id ∧ (∀ j < oc.length,o'[j]? = oc[j]?) ∧ o'[id]? = some (.cells 1 (tups L.flatten)) ∧ okO o' = true:=by
 have kl:=kid3_len L
 have tl:=tups_len'
 refine ACalls_of' (n:=36) (rs:=[.tmp 2]) (show Try.prog.funcs[76]? = some Try.f76 by kernel_rfl) rfl rfl rfl (by simp) (by decide +kernel) ?_
 repeat (first | refine nav ?_ | refine bo ?_)
 (refine wr fun K R hK hR=>?_;simp only [go_sem];(try go_ints);(repeat refine And.intro side ?_);(first|refine hK _ ?_|refine hR _ _ ?_);clear hK hR K R)
 repeat (first | refine nav ?_ | refine bo ?_)
 (refine wr fun K R hK hR=>?_;simp only [go_sem];(try go_ints);(repeat refine And.intro side ?_);(first|refine hK _ ?_|refine hR _ _ ?_);clear hK hR K R)
 repeat (first | refine nav ?_ | refine bo ?_)
 (refine wr fun K R hK hR=>?_;simp only [go_sem,kl];(try go_ints);(try simp only [go_sem,kl]);(repeat refine And.intro side ?_);(first|refine hK _ ?_|refine hR _ _ ?_);clear hK hR K R)
 repeat (first | refine nav ?_ | refine bo ?_)
 refine W_for 11 23 [3,5] (fun m t o=>∃ k : Nat,oc = o ∧ t 11 = .i .i64 k ∧ t 3 = .i .i64 (L.take k).flatten.length ∧ m = L.length - k ∧ k ≤ L.length) L.length ⟨0,rfl,by simp only [go_sem]<;>rfl,by simp only [go_sem]<;>rfl,by omega,by omega⟩ ?_
 rintro m t o ⟨k,rfl,h11,h3,rfl,hk⟩
 repeat (first | refine nav ?_ | refine bo ?_)
 (refine wr fun K R hK hR=>?_;simp only [go_sem,h11];(try go_ints);(try simp only [go_sem,h11]);(repeat refine And.intro side ?_);(first|refine hK _ ?_|refine hR _ _ ?_);clear hK hR K R)
 repeat (first | refine nav ?_ | refine bo ?_)
 refine W_cond (by simp only [go_sem]<;>exact rfl) (fun hb=>?_) (fun hb=>?_)
 ·simp at hb
  obtain ⟨x,hx⟩ : ∃ x,L[k]? = some x:=⟨_,List.getElem?_eq_getElem hb⟩
  have hxl : (L.take (k + 1)).flatten.length = (L.take k).flatten.length + x.length:=by rw [flatT_take hx,List.length_append]
  have hxm:=flatT_take_le L (k + 1)
  repeat (first | refine nav ?_ | refine bo ?_)
  (refine wr fun K R hK hR=>?_;simp only [go_sem,h11,h3,kid3_get hx];(try go_ints);(try simp only [go_sem,h11,h3,kid3_get hx]);(repeat refine And.intro side ?_);(first|refine hK _ ?_|refine hR _ _ ?_);clear hK hR K R)
  repeat (first | refine nav ?_ | refine bo ?_)
  (refine wr fun K R hK hR=>?_;simp only [go_sem,h3,tl];(try go_ints);(try simp only [go_sem,h3,tl]);(repeat refine And.intro side ?_);(first|refine hK _ ?_|refine hR _ _ ?_);clear hK hR K R)
  repeat (first | refine nav ?_ | refine bo ?_)
  (refine wr fun K R hK hR=>?_;simp only [go_sem];(try go_ints);(repeat refine And.intro side ?_);(first|refine hK _ ?_|refine hR _ _ ?_);clear hK hR K R)
  repeat (first | refine nav ?_ | refine bo ?_)
  refine W_cond (by simp only [go_sem]<;>exact rfl) (fun hb=>?_) (fun hb=>?_)
  ·simp at hb;omega
  repeat (first | refine nav ?_ | refine bo ?_)
  (refine wr fun K R hK hR=>?_;simp only [go_sem,h11];(try go_ints);(try simp only [go_sem,h11]);(repeat refine And.intro side ?_);(first|refine hK _ ?_|refine hR _ _ ?_);clear hK hR K R)
  refine forQ_normal (L.length - (k + 1)) (by omega) ⟨k + 1,?_⟩
  rw [hxl]
  ((try simp only [go_sem]);(repeat' refine And.intro ?_ ?_)<;>(try first | with_reducible rfl | omega | with_reducible assumption | (simp;done)))
 ·simp at hb
  obtain rfl : k = L.length:=by omega
  rw [List.take_length] at h3
  repeat (first | refine nav ?_ | refine bo ?_)
  (refine W_reg [1000000] fun K R hK hR=>?_;simp only [go_sem,h3];(try go_ints);(try simp only [go_sem,h3]);(repeat refine And.intro side ?_);(first|refine hK _ ?_|refine hR _ _ ?_);clear hK hR K R)
  refine RL_callE (caps:=[]) (roomT _ hn (by omega) oc) (by rintro r o' ⟨rfl,rfl⟩;exact ⟨by simp,by simp [AV.ltk],okO_app ho rfl⟩) rfl rfl rfl (by simp) (by simp only [go_sem]<;>exact LeA.refl _) ho rfl ?_
  rintro r o' ⟨rfl,rfl⟩
  (refine RL_reg [1000000] fun K R hK hR=>?_;simp only [go_sem];(try go_ints);(repeat refine And.intro (by first|exact side|(omega)) ?_);(first|refine hK _ ?_|refine hR _ _ ?_);clear hK hR K R)
  repeat (first | refine nav ?_ | refine bo ?_)
  (refine wr fun K R hK hR=>?_;simp only [go_sem,kl];(try go_ints);(try simp only [go_sem,kl]);(repeat refine And.intro side ?_);(first|refine hK _ ?_|refine hR _ _ ?_);clear hK hR K R)
  repeat (first | refine nav ?_ | refine bo ?_)
  refine W_for 27 35 [6,8] (fun m t o=>∃ k id : Nat,okO o = true ∧ oc.length ≤ id ∧ (∀ j < oc.length,o[j]? = oc[j]?) ∧ t 27 = .i .i64 k ∧ t 6 = .ref id 0 (L.take k).flatten.length ∧ o[id]? = some (.cells 1 (tups (L.take k).flatten)) ∧ m = L.length - k ∧ k ≤ L.length) L.length
   ⟨0,oc.length,okO_app ho rfl,Nat.le_refl _,fun j hj=>List.getElem?_append_left hj,by simp only [go_sem]<;>rfl,by simp only [go_sem]<;>rfl,by simp [tups],by omega,by omega⟩ ?_
  rintro m t o ⟨k,id,hok,hid,hpre,h27,h6,hoi,rfl,hk⟩
  have hil:=(List.getElem?_eq_some_iff.1 hoi).1
  repeat (first | refine nav ?_ | refine bo ?_)
  (refine wr fun K R hK hR=>?_;simp only [go_sem,h27];(try go_ints);(try simp only [go_sem,h27]);(repeat refine And.intro side ?_);(first|refine hK _ ?_|refine hR _ _ ?_);clear hK hR K R)
  repeat (first | refine nav ?_ | refine bo ?_)
  refine W_cond (by simp only [go_sem]<;>exact rfl) (fun hb=>?_) (fun hb=>?_)
  ·simp at hb
   have hb0 : k + 1 ≤ L.length:=hb
   obtain ⟨x,hx⟩ : ∃ x,L[k]? = some x:=⟨_,List.getElem?_eq_getElem hb⟩
   have hfx:=flatT_take hx
   have hxl : (L.take (k + 1)).flatten.length = (L.take k).flatten.length + x.length:=by rw [flatT_take hx,List.length_append]
   have hxm:=flatT_take_le L (k + 1)
   obtain ⟨acc,hacc⟩ : ∃ acc,acc = (L.take k).flatten:=⟨_,rfl⟩
   rw [← hacc] at hfx hxl h6 hoi
   have hat : List.take acc.length (tups acc) = tups acc:=List.take_of_length_le (Nat.le_of_eq (tl _))
   repeat (first | refine nav ?_ | refine bo ?_)
   (refine wr fun K R hK hR=>?_;simp only [go_sem,h27,kid3_get hx,kl];(try go_ints);(try simp only [go_sem,h27,kid3_get hx,kl]);(repeat refine And.intro side ?_);(first|refine hK _ ?_|refine hR _ _ ?_);clear hK hR K R)
   repeat (first | refine nav ?_ | refine bo ?_)
   by_cases hx0 : x = []
   ·subst hx0
    (refine W_part [] 2 fun R hR=>?_;simp only [go_sem,h6];(try go_ints);(try simp only [go_sem,h6]);(repeat refine And.intro side ?_);refine hR _ _ ?_;clear hR R)
    refine RL_cons rfl (OpW_appNil (J:=id) (off:=0) (len:=acc.length) (sz:=1) rfl rfl rfl rfl rfl (by simp only [go_sem]<;>rfl) (by simp only [go_sem]<;>rfl) (by simp only [go_sem]<;>exact UK.noConfusion) rfl (by decide) (by simp only [go_sem]) (by simp only [go_sem]<;>rfl) ?_)
    (refine rr fun K R hK hR=>?_;simp only [go_sem];(try go_ints);(repeat refine And.intro side ?_);(first|refine hK _ ?_|refine hR _ _ ?_);clear hK hR K R)
    repeat (first | refine nav ?_ | refine bo ?_)
    (refine wr fun K R hK hR=>?_;simp only [go_sem,h27];(try go_ints);(try simp only [go_sem,h27]);(repeat refine And.intro side ?_);(first|refine hK _ ?_|refine hR _ _ ?_);clear hK hR K R)
    repeat (first | refine nav ?_ | refine bo ?_)
    rw [List.append_nil] at hfx
    refine forQ_normal (L.length - (k + 1)) (by omega) ⟨k + 1,id,hok,hid,hpre,by simp only [go_sem]<;>rfl,by simp only [go_sem,hfx],by rw [hfx];exact hoi,rfl,hb0⟩
   ·have hx1 : 0 < x.length:=List.length_pos_iff.2 hx0
    (refine W_reg [1000000] fun K R hK hR=>?_;simp only [go_sem,h6,hoi,tl,hat];(try go_ints);(repeat refine And.intro (by first|exact side|(simp [tups];omega)) ?_);(first|refine hK _ ?_|refine hR _ _ ?_);clear hK hR K R)
    repeat (first | refine nav ?_ | refine bo ?_)
    (refine wr fun K R hK hR=>?_;simp only [go_sem,h27];(try go_ints);(try simp only [go_sem,h27]);(repeat refine And.intro side ?_);(first|refine hK _ ?_|refine hR _ _ ?_);clear hK hR K R)
    repeat (first | refine nav ?_ | refine bo ?_)
    refine forQ_normal (L.length - (k + 1)) (by omega) ⟨k + 1,o.length,?_,by omega,fun j hj=>?_,by simp only [go_sem]<;>rfl,by simp only [go_sem,hxl],?_,rfl,hb0⟩
    ·refine okO_app (okO_set' hok rfl) ?_
     simp [Ob.ltk,tups,AV.ltk]
    ·rw [List.getElem?_append_left (by simp;omega),List.getElem?_set_ne (by omega)]
     exact hpre j hj
    ·rw [List.getElem?_append_right (by simp),hfx]
     simp [tups]
  ·simp at hb
   obtain rfl : k = L.length:=by omega
   rw [List.take_length] at h6 hoi
   repeat (first | refine nav ?_ | refine bo ?_)
   (refine W_reg [1000000] fun K R hK hR=>?_;simp only [go_sem,h6];(try go_ints);(try simp only [go_sem,h6]);(repeat refine And.intro side ?_);(first|refine hK _ ?_|refine hR _ _ ?_);clear hK hR K R)
   repeat (first | refine nav ?_ | refine bo ?_)
   refine endQ_all (by simp only [go_sem]<;>exact rfl) (Le.refl _) (by simp only;omega) hok (by simp [AV.ltk];omega) ⟨id,rfl,hid,hpre,hoi,hok⟩
theorem roomTd (n : Nat) (hn : n ≤ 100000000) : ACallsD Try.prog 86 [.nsl,.i .i64 n] (.own 1 []):=by
 rcases Nat.eq_zero_or_pos n with rfl | h
 ·exact ACallsD.le (ACalls_noroom (by decide +kernel) fun w=>Any8.slices_Grow_room Try.growT none 0 0 0 w (by omega) (by omega) (by omega) (by omega)) (Le.nslO 1)
 ·obtain ⟨i0,hi0,hs,hb,hz⟩ : ∃ i0,Try.prog.info? 32 = some i0 ∧ i0.size = 1 ∧ i0.bytes = 24 ∧ i0.zero = some (.slice none 0 0):=⟨Option.get (Try.prog.info? 32) (by kernel_rfl),by kernel_rfl,by kernel_rfl,by kernel_rfl,by kernel_rfl⟩
  refine ACalls_room (by decide +kernel) (fun w=>?_) []
  refine (Any8.slices_Grow_grow Try.growT i0 _ hi0 hz (by omega) none 0 0 n [] w (by omega) (by omega) (by rw [hb];omega) (by omega) (by simp) (fun _=>rfl) (by simp)).mono ?_
  rintro e w' ⟨rfl,rfl⟩
  refine ⟨_,_,_,rfl,rfl,?_,grownCap_le_maxLen _ _ _ _ (by simp [maxLen];omega)⟩
  have hg:=grownCap_ge w (0 + n) 0 (Try.growT_ren.t 25)
  simp only [Array.size_append,size_zeroCells,Value.cells,List.size_toArray,List.length_nil,List.length_cons]
  omega
theorem concatTd (L : List (List (List Int))) (hl : L.length ≤ 1000000) (hn : L.flatten.length ≤ 100000000) : ACallsD Try.prog 76 [.sl 1 (kid3 L)] (.sl 1 (tups L.flatten)):=by
 have hL : (kid3 L).length = L.length:=kid3_len L
 refine ACalls_of' (n:=36) (rs:=[.tmp 2]) (show Try.prog.funcs[76]? = some Try.f76 by kernel_rfl) rfl rfl rfl (by simp) (by decide +kernel) ?_
 repeat (first | refine nav ?_ | refine bo ?_)
 (refine wr fun K R hK hR=>?_;simp only [go_sem];(try go_ints);(repeat refine And.intro side ?_);(first|refine hK _ ?_|refine hR _ _ ?_);clear hK hR K R)
 repeat (first | refine nav ?_ | refine bo ?_)
 (refine wr fun K R hK hR=>?_;simp only [go_sem];(try go_ints);(repeat refine And.intro side ?_);(first|refine hK _ ?_|refine hR _ _ ?_);clear hK hR K R)
 repeat (first | refine nav ?_ | refine bo ?_)
 (refine wr fun K R hK hR=>?_;simp only [go_sem,hL];(try go_ints);(try simp only [go_sem,hL]);(repeat refine And.intro side ?_);(first|refine hK _ ?_|refine hR _ _ ?_);clear hK hR K R)
 repeat (first | refine nav ?_ | refine bo ?_)
 refine W_for 11 23 [3,5] (fun m t o=>∃ k : Nat,[] = o ∧ t 11 = .i .i64 k ∧ t 3 = .i .i64 (L.take k).flatten.length ∧ m = L.length - k ∧ k ≤ L.length) L.length ⟨0,rfl,by simp only [go_sem]<;>rfl,by simp only [go_sem]<;>rfl,by omega,by omega⟩ ?_
 rintro m t o ⟨k,rfl,h11,h3,rfl,hk⟩
 repeat (first | refine nav ?_ | refine bo ?_)
 (refine wr fun K R hK hR=>?_;simp only [go_sem,h11];(try go_ints);(try simp only [go_sem,h11]);(repeat refine And.intro side ?_);(first|refine hK _ ?_|refine hR _ _ ?_);clear hK hR K R)
 repeat (first | refine nav ?_ | refine bo ?_)
 refine W_cond (by simp only [go_sem]<;>exact rfl) (fun hb=>?_) (fun hb=>?_)
 ·simp at hb
  obtain ⟨x,hx⟩ : ∃ x,L[k]? = some x:=⟨_,List.getElem?_eq_getElem hb⟩
  have hxl : (L.take (k + 1)).flatten.length = (L.take k).flatten.length + x.length:=by rw [flatT_take hx,List.length_append]
  have hxm:=flatT_take_le L (k + 1)
  repeat (first | refine nav ?_ | refine bo ?_)
  (refine wr fun K R hK hR=>?_;simp only [go_sem,h11,h3,kid3_get hx];(try go_ints);(try simp only [go_sem,h11,h3,kid3_get hx]);(repeat refine And.intro side ?_);(first|refine hK _ ?_|refine hR _ _ ?_);clear hK hR K R)
  repeat (first | refine nav ?_ | refine bo ?_)
  (refine wr fun K R hK hR=>?_;simp only [go_sem,h3];(try go_ints);(try simp only [go_sem,h3]);(repeat refine And.intro side ?_);(first|refine hK _ ?_|refine hR _ _ ?_);clear hK hR K R)
  repeat (first | refine nav ?_ | refine bo ?_)
  (refine wr fun K R hK hR=>?_;simp only [go_sem];(try go_ints);(repeat refine And.intro side ?_);(first|refine hK _ ?_|refine hR _ _ ?_);clear hK hR K R)
  repeat (first | refine nav ?_ | refine bo ?_)
  refine W_cond (by simp only [go_sem]<;>exact rfl) (fun hb=>?_) (fun hb=>?_)
  ·simp at hb;omega
  repeat (first | refine nav ?_ | refine bo ?_)
  (refine wr fun K R hK hR=>?_;simp only [go_sem,h11];(try go_ints);(try simp only [go_sem,h11]);(repeat refine And.intro side ?_);(first|refine hK _ ?_|refine hR _ _ ?_);clear hK hR K R)
  refine forQ_normal (L.length - (k + 1)) (by omega) ⟨k + 1,?_⟩
  rw [hxl]
  ((try simp only [go_sem]);(repeat' refine And.intro ?_ ?_)<;>(try first | with_reducible rfl | omega | with_reducible assumption | (simp;done)))
 ·simp at hb
  obtain rfl : k = L.length:=by omega
  rw [List.take_length] at h3
  repeat (first | refine nav ?_ | refine bo ?_)
  (refine wr fun K R hK hR=>?_;simp only [go_sem,h3];(try go_ints);(try simp only [go_sem,h3]);(repeat refine And.intro side ?_);(first|refine hK _ ?_|refine hR _ _ ?_);clear hK hR K R)
  refine RL_callF (roomTd _ hn) rfl rfl rfl (by first | (simp only [go_sem]<;>first | exact LeA.refl _ | exact Le.refl _) | exact LeA.refl _) rfl rfl ?_
  (refine rr fun K R hK hR=>?_;simp only [go_sem];(try go_ints);(repeat refine And.intro side ?_);(first|refine hK _ ?_|refine hR _ _ ?_);clear hK hR K R)
  repeat (first | refine nav ?_ | refine bo ?_)
  (refine wr fun K R hK hR=>?_;simp only [go_sem,hL];(try go_ints);(try simp only [go_sem,hL]);(repeat refine And.intro side ?_);(first|refine hK _ ?_|refine hR _ _ ?_);clear hK hR K R)
  repeat (first | refine nav ?_ | refine bo ?_)
  refine W_for 27 35 [6,8] (fun m t o=>∃ (k : Nat),[] = o ∧ t 27 = .i .i64 k ∧ t 6 = .own 1 (tups (L.take k).flatten) ∧ m = L.length - k ∧ k ≤ L.length) L.length ⟨0,rfl,by simp only [go_sem]<;>rfl,by simp only [go_sem]<;>rfl,by omega,by omega⟩ ?_
  rintro m t o ⟨k,rfl,h27,h6,rfl,hk⟩
  repeat (first | refine nav ?_ | refine bo ?_)
  (refine wr fun K R hK hR=>?_;simp only [go_sem,h27];(try go_ints);(try simp only [go_sem,h27]);(repeat refine And.intro side ?_);(first|refine hK _ ?_|refine hR _ _ ?_);clear hK hR K R)
  repeat (first | refine nav ?_ | refine bo ?_)
  refine W_cond (by simp only [go_sem]<;>exact rfl) (fun hb=>?_) (fun hb=>?_)
  ·simp at hb
   obtain ⟨x,hx⟩ : ∃ x,L[k]? = some x:=⟨_,List.getElem?_eq_getElem hb⟩
   have hxl : (L.take (k + 1)).flatten.length = (L.take k).flatten.length + x.length:=by rw [flatT_take hx,List.length_append]
   have hxm:=flatT_take_le L (k + 1)
   have hi1 : (tups (L.take k).flatten).length = (L.take k).flatten.length:=by unfold tups;rw [List.length_map]
   have hi2 : (tups x).length = x.length:=by unfold tups;rw [List.length_map]
   repeat (first | refine nav ?_ | refine bo ?_)
   (refine wr fun K R hK hR=>?_;simp only [go_sem,h27,h6,kid3_get hx];(try go_ints);(try simp only [go_sem,h27,h6,kid3_get hx]);(repeat refine And.intro side ?_);(first|refine hK _ ?_|refine hR _ _ ?_);clear hK hR K R)
   repeat (first | refine nav ?_ | refine bo ?_)
   (refine W_reg [31] fun K R hK hR=>?_;simp only [go_sem,h6,hi1,hi2];(try go_ints);(try simp only [go_sem,h6,hi1,hi2]);(repeat refine And.intro side ?_);(first|refine hK _ ?_|refine hR _ _ ?_);clear hK hR K R)
   repeat (first | refine nav ?_ | refine bo ?_)
   (refine wr fun K R hK hR=>?_;simp only [go_sem,h27];(try go_ints);(try simp only [go_sem,h27]);(repeat refine And.intro side ?_);(first|refine hK _ ?_|refine hR _ _ ?_);clear hK hR K R)
   refine forQ_normal (L.length - (k + 1)) (by omega) ⟨k + 1,?_⟩
   rw [flatT_take hx]
   ((try simp only [go_sem]);(repeat' refine And.intro ?_ ?_)<;>(try first | with_reducible rfl | omega | with_reducible assumption | (simp;done)))
   simp [tups]
  ·simp at hb
   obtain rfl : k = L.length:=by omega
   rw [List.take_length] at h6
   repeat (first | refine nav ?_ | refine bo ?_)
   (refine wr fun K R hK hR=>?_;simp only [go_sem,h6];(try go_ints);(try simp only [go_sem,h6]);(repeat refine And.intro side ?_);(first|refine hK _ ?_|refine hR _ _ ?_);clear hK hR K R)
   repeat (first | refine nav ?_ | refine bo ?_)
   refine endQ_data (by simp only [go_sem]<;>exact rfl) (Le.of_eq ?_) rfl
   rfl
theorem sorted00_spec : ACallsD Try.prog 75 [.sl 1 []] (.sl 1 []):=run0 (k:=60) (by kernel_rfl)
def unionF (a b : List (List Int)) : List (List Int):=sortT (a ++ b)
theorem union_spec (q : PlanD) (a b : List (List Int)) (ha : a.length ≤ 400000) (hb : b.length ≤ 400000) (hll : ∀ x ∈ a,x.length ≤ 1000000) (hlb : ∀ x ∈ b,x.length ≤ 1000000) :
  ACallsD Try.prog 62 [.any,.agg q.cells,.sl 1 (kid3 [a,b])] (.sl 1 (tups (unionF a b))):=by
 have hq:=q.cells_eq
 rw [hq]
 have k0 : (kid3 [a,b]).getD 0 [] = [.sl 1 (tups a)]:=rfl
 have k1 : (kid3 [a,b]).getD 1 [] = [.sl 1 (tups b)]:=rfl
 have kl : (kid3 [a,b]).length = 2:=rfl
 have tl:=tups_len'
 have hfl : ([a,b] : List (List (List Int))).flatten = a ++ b:=by simp
 have hk : kid3 [a,b] = [[.sl 1 (tups a)],[.sl 1 (tups b)]]:=rfl
 refine ACalls_of' (n:=16) (rs:=[.tmp 6]) (show Try.prog.funcs[62]? = some Try.f62 by kernel_rfl) rfl rfl rfl (by simp) (by decide +kernel) ?_
 repeat (first | refine nav ?_ | refine bo ?_)
 (refine wr fun K R hK hR=>?_;simp only [go_sem];(try go_ints);(repeat refine And.intro side ?_);(first|refine hK _ ?_|refine hR _ _ ?_);clear hK hR K R)
 repeat (first | refine nav ?_ | refine bo ?_)
 by_cases h0 : a ++ b = []
 ·have ha0 : a = []:=List.append_eq_nil_iff.1 h0 |>.1
  have hb0 : b = []:=List.append_eq_nil_iff.1 h0 |>.2
  subst ha0 hb0
  have hcat:=concatTd [[],[]] (by simp) (by simp)
  (refine W_dreg (by decide +kernel) [] [0,1,2,3,4,5,6,7,8,9] [[],[0],[0,1],[],[3],[3,4],[4,3,5,1,0,2],[2,0,1,5,3,4,6],[6,4,3,5,1,0,2,7],[7,2,0,1,5,3,4,6,8]] (by decide +kernel) rfl fun K R hK hR=>?_;simp only [List.filterMap_cons,List.filterMap_nil,List.getElem?_cons_zero,List.getElem?_cons_succ,List.cons_append,List.nil_append];simp only [go_sem,k0,k1,kl];(try go_ints);(try simp only [go_sem,k0,k1,kl]);(repeat refine And.intro side ?_);(first|refine hK _ ?_|refine hR _ _ ?_);clear hK hR K R)
  refine D_callD (hcat) rfl rfl rfl (by first | (simp only [go_sem]<;>first | exact LeA.refl _ | exact Le.refl _) | exact LeA.refl _) rfl rfl rfl rfl ?_
  (refine D_reg fun K R hK hR=>?_;simp only [go_sem];(try go_ints);(repeat refine And.intro side ?_);(first|refine hK _ ?_|refine hR _ _ ?_);clear hK hR K R)
  refine D_callD (sorted00_spec) rfl rfl rfl (by first | (simp only [go_sem]<;>first | exact LeA.refl _ | exact Le.refl _) | exact LeA.refl _) rfl rfl rfl rfl ?_
  (refine D_reg fun K R hK hR=>?_;simp only [go_sem];(try go_ints);(repeat refine And.intro side ?_);(first|refine hK _ ?_|refine hR _ _ ?_);clear hK hR K R)
  repeat (first | refine nav ?_ | refine bo ?_)
  refine endQ_data (by simp only [go_sem]<;>exact rfl) (Le.of_eq ?_) rfl
  have : unionF [] [] = []:=by unfold unionF sortT sortL;simp [ddN]
  rw [this];rfl
 ·refine W_dreg (by decide +kernel) [14,15] [0,1,2,3,4,5,6,7,8,9] [[],[0],[0,1],[],[3],[3,4],[4,3,5,1,0,2],[4,3,5,1,0,2,6],[4,3,5,1,0,2,6,7],[4,3,5,1,0,2,6,7,8]] (by decide +kernel) rfl fun K R hK hR=>?_
  simp only [List.filterMap_cons,List.filterMap_nil,List.getElem?_cons_zero,List.getElem?_cons_succ,List.cons_append,List.nil_append]
  (simp (maxSteps:=10000000) only [go_sem,k0,k1,kl];(try go_ints);(repeat refine And.intro side ?_);(first | refine hK _ ?_ | refine hR _ _ ?_);clear hK hR K R)
  have hab : 0 < (a ++ b).length:=List.length_pos_iff.2 h0
  have hcat:=concatT [a,b] (by rw [hfl];exact hab) (by simp) (by rw [hfl,List.length_append];omega) [boxQ q] rfl
  rw [hfl,hk] at hcat
  have hsrt:=sorted_spec (a ++ b) h0 (by rw [List.length_append];omega) (fun x hx=>by
   rcases List.mem_append.1 hx with hx | hx
   ·exact hll x hx
   ·exact hlb x hx)
  refine D_callE' (caps:=[]) hcat ?_ rfl rfl rfl (by simp) (by simp only [go_sem]<;>exact LeA.refl _) rfl rfl rfl ?_
  ·rintro r o' ⟨id,rfl,h1,h2,h3,h4⟩
   have:=(List.getElem?_eq_some_iff.1 h3).1
   exact ⟨by simp only [List.length_cons,List.length_nil] at *;omega,by simp [AV.ltk,this],h4⟩
  rintro r o' ⟨id,rfl,h1,h2,h3,h4⟩
  have hil:=(List.getElem?_eq_some_iff.1 h3).1
  refine D_reg fun K R hK hR=>?_
  (simp (maxSteps:=10000000) only [go_sem,k0,k1,kl];(try go_ints);(repeat refine And.intro side ?_);(first | refine hK _ ?_ | refine hR _ _ ?_);clear hK hR K R)
  refine D_callE' (caps:=[]) (hsrt o' id h4 h3) ?_ rfl rfl rfl (by simp) (by simp only [go_sem]<;>exact LeA.refl _) h4 (by simp [AV.ltk,hil]) rfl ?_
  ·rintro r o2 ⟨k',rows,rfl,rfl,g0,g1,g2,g3⟩
   exact ⟨by simp,by simp [AV.ltk,hil],g3⟩
  rintro r o2 ⟨k',rows,rfl,rfl,g0,g1,g2,g3⟩
  refine D_reg fun K R hK hR=>?_
  (simp (maxSteps:=10000000) only [go_sem,k0,k1,kl];(try go_ints);(repeat refine And.intro side ?_);(first | refine hK _ ?_ | refine hR _ _ ?_);clear hK hR K R)
  change W Try.prog 16 Code.ret _ _
  refine W_freeze id (sz:=1) (rows:=rows) (by simp [hil]) g2 ?_
  have hmk : (rows.map fun r=>r.map AV.dat).take k' = tups (sortT (a ++ b)):=by rw [← List.map_take,g1];simp [tups,Function.comp_def,AV.dat]
  refine W_weak (s':=⟨tab [(6,.sl 1 (tups (sortT (a ++ b))))],_⟩) (fun y=>?_) rfl ?_
  ·simp only [tab_cons,tab_nil]
   split
   ·rename_i e
    subst e
    simp only [frS,upd,if_true,AV.unref]
    rw [if_pos ⟨trivial,by simpa using g0⟩,List.drop_zero,hmk]
    exact Le.refl _
   ·exact Le.any _
  repeat (first | refine nav ?_ | refine bo ?_)
  refine endQ_data (by simp only [go_sem]<;>exact rfl) (Le.of_eq ?_) rfl
  rfl
end Go.AW
namespace Go.AW
open Go Go.Proofs TyTry Go.IntWalk
set_option linter.unusedSimpArgs false
set_option linter.unusedVariables false
set_option maxRecDepth 10000
set_option maxHeartbeats 4000000
theorem ints_snoc (l : List Int) (x : Int) : ints (l ++ [x]) = ints l ++ [[.i .i64 x]]:=by simp [ints]
def outF (p : PlanD) (w : List Int) : Int :=
 if (p.kind == 0 && (w.length : Int) == 0 && !decide ((p.cols.length : Int) > 0) && !(p.i != 0 || p.j != 0) && nameF p.name) = true then p.width
 else if (p.kind == 1 && (w.length : Int) == 0 && !decide ((p.cols.length : Int) > 0) && !(p.i != 0 || p.j != 0) && !!decide (p.name.size = 0)) = true then p.width
 else if ((p.kind == 2 || p.kind == 3) && (w.length : Int) == 1 && !decide ((p.cols.length : Int) > 0) && !!decide (p.name.size = 0) && p.width == 0) = true then (if insideF (w.getD 0 0) [p.i,p.j] = true then w.getD 0 0 else -1)
 else if (p.kind == 4 && (w.length : Int) == 2 && !decide ((p.cols.length : Int) > 0) && !(p.i != 0 || p.j != 0) && !!decide (p.name.size = 0) && p.width == 0) = true then w.getD 0 0 + w.getD 1 0
 else if (p.kind == 5 && (w.length : Int) == 1 && !(p.i != 0 || p.j != 0) && !!decide (p.name.size = 0) && p.width == 0) = true then (if insideF (w.getD 0 0) p.cols = true then p.cols.length else -1)
 else if ((p.kind == 6 || p.kind == 7) && (w.length : Int) == 2 && !decide ((p.cols.length : Int) > 0) && !(p.i != 0 || p.j != 0) && !!decide (p.name.size = 0) && p.width == 0) = true then (if w.getD 0 0 = w.getD 1 0 then w.getD 0 0 else -1)
 else -1
def capW (x : Int) : Int:=if x < 0 ∨ x > 12 then -1 else x
mutual
/-- A plan's width,or -1. -/
def widthR : PlanD → Int
 | .mk k w i j nm cs ks=>match widthsR ks with
  | none=>-1
  | some l=>capW (outF (.mk k w i j nm cs ks) l)
def widthsR : List PlanD → Option (List Int)
 | []=>some []
 | p :: r=>if widthR p < 0 then none else match widthsR r with
  | none=>none
  | some l=>some (widthR p :: l)
end
theorem widthR_eq (p : PlanD) : widthR p = match widthsR p.kids with
  | none=>-1
  | some l=>capW (outF p l):=by cases p;rfl
theorem widthR_le (p : PlanD) : -1 ≤ widthR p ∧ widthR p ≤ 12:=by
 rw [widthR_eq]
 split
 ·omega
 ·unfold capW;split<;>omega
theorem widthsR_some : ∀ {l : List PlanD},(∀ p ∈ l,¬ widthR p < 0) → widthsR l = some (l.map widthR)
 | [],_=>rfl
 | p :: r,h=>by
  simp only [widthsR]
  rw [if_neg (h p (by simp)),widthsR_some fun q hq=>h q (by simp [hq])]
  rfl
theorem widthsR_none : ∀ {l : List PlanD} {p : PlanD},p ∈ l → widthR p < 0 → widthsR l = none
 | q :: r,p,h,hw=>by
  simp only [widthsR]
  split
  ·rfl
  ·rename_i hq
   rcases List.mem_cons.1 h with rfl | h
   ·exact absurd hw hq
   ·rw [widthsR_none h hw]
theorem rwidth_spec : ∀ (p : PlanD),p.Ok → cntF p ≤ 100000 → ACallsD Try.prog 15 [.agg p.cells] (.i .i64 (widthR p)) :=
 PlanD.ind fun p ih hp hc=>by
  have h3:=hp.len
  have hkl : p.kids.length ≤ 100000:=by
   have:=kids_cnt p.kids
   rw [cntF_eq] at hc;omega
  rw [PlanD.cells_eq]
  refine ACalls_of' (n:=242) (rs:=[.tmp 2]) (show Try.prog.funcs[15]? = some Try.f15 by kernel_rfl) rfl rfl rfl (by simp) (by decide +kernel) ?_
  repeat (first | refine nav ?_ | refine bo ?_)
  (refine wr fun K R hK hR=>?_;simp only [go_sem];(try go_ints);(repeat refine And.intro side ?_);(first|refine hK _ ?_|refine hR _ _ ?_);clear hK hR K R)
  repeat (first | refine nav ?_ | refine bo ?_)
  (refine wr fun K R hK hR=>?_;simp only [go_sem];(try go_ints);(repeat refine And.intro side ?_);(first|refine hK _ ?_|refine hR _ _ ?_);clear hK hR K R)
  repeat (first | refine nav ?_ | refine bo ?_)
  (refine wr fun K R hK hR=>?_;simp only [go_sem];(try go_ints);(repeat refine And.intro side ?_);(first|refine hK _ ?_|refine hR _ _ ?_);clear hK hR K R)
  repeat (first | refine nav ?_ | refine bo ?_)
  refine W_for 10 29 [3,4,5] (fun m t o=>∃ (k : Nat),[Ob.cells 7 [[AV.i .i64 p.kind,.i .i64 p.width,.i .i64 p.i,.i .i64 p.j,.s p.name,.sl 1 (ints p.cols),.sl 7 (plans p.kids)]]] = o ∧ t 4 = .i .i64 k ∧ t 3 = .own 1 (ints ((p.kids.take k).map widthR)) ∧ m = p.kids.length - k ∧ k ≤ p.kids.length ∧ ∀ q ∈ p.kids.take k,¬ widthR q < 0) p.kids.length
   ⟨0,rfl,by simp only [go_sem]<;>rfl,by simp only [go_sem]<;>rfl,by omega,by omega,by simp⟩ ?_
  rintro m t o ⟨k,rfl,h4,h3',rfl,hk,hi⟩
  repeat (first | refine nav ?_ | refine bo ?_)
  (refine wr fun K R hK hR=>?_;simp only [go_sem,h4];(try go_ints);(try simp only [go_sem,h4]);(repeat refine And.intro side ?_);(first|refine hK _ ?_|refine hR _ _ ?_);clear hK hR K R)
  repeat (first | refine nav ?_ | refine bo ?_)
  refine W_cond (by simp only [go_sem]<;>exact rfl) (fun hb=>?_) (fun hb=>?_)
  ·have hb1 : k < p.kids.length:=by simpa using hb
   obtain ⟨x,hx⟩ : ∃ x,p.kids[k]? = some x:=⟨_,List.getElem?_eq_getElem hb1⟩
   have hxm:=List.mem_of_getElem? hx
   have htk : p.kids.take (k + 1) = p.kids.take k ++ [x]:=by rw [List.take_add_one,hx];rfl
   have hwx:=widthR_le x
   have hcx:=x.cells_eq
   have ihx:=ih x hxm (hp.kid x hxm) (by have:=cnt_mem hxm;rw [cntF_eq] at hc;omega)
   rw [hcx] at ihx
   repeat (first | refine nav ?_ | refine bo ?_)
   (refine wr fun K R hK hR=>?_;simp only [go_sem,h4,plans_get hx];(try go_ints);(try simp only [go_sem,h4,plans_get hx]);(repeat refine And.intro side ?_);(first|refine hK _ ?_|refine hR _ _ ?_);clear hK hR K R)
   refine RL_callF (ihx) rfl rfl rfl (by first | (simp only [go_sem]<;>first | exact LeA.refl _ | exact Le.refl _) | exact LeA.refl _) rfl rfl ?_
   (refine rr fun K R hK hR=>?_;simp only [go_sem];(try go_ints);(repeat refine And.intro side ?_);(first|refine hK _ ?_|refine hR _ _ ?_);clear hK hR K R)
   repeat (first | refine nav ?_ | refine bo ?_)
   (refine wr fun K R hK hR=>?_;simp only [go_sem];(try go_ints);(repeat refine And.intro side ?_);(first|refine hK _ ?_|refine hR _ _ ?_);clear hK hR K R)
   repeat (first | refine nav ?_ | refine bo ?_)
   refine W_cond (b:=decide (widthR x < 0)) (by simp only [go_sem]) (fun hc=>?_) (fun hc=>?_)
   ·repeat (first | refine nav ?_ | refine bo ?_)
    (refine wr fun K R hK hR=>?_;simp only [go_sem];(try go_ints);(repeat refine And.intro side ?_);(first|refine hK _ ?_|refine hR _ _ ?_);clear hK hR K R)
    repeat (first | refine nav ?_ | refine bo ?_)
    refine endQ_data (by simp only [go_sem]<;>exact rfl) (Le.of_eq ?_) rfl
    rw [widthR_eq,widthsR_none hxm (by simpa using hc)]
   ·have hlen : (ints ((p.kids.take k).map widthR)).length = k:=by simp [ints];omega
    repeat (first | refine nav ?_ | refine bo ?_)
    (refine W_reg [25] fun K R hK hR=>?_;simp only [go_sem,h3',hlen];(try go_ints);(try simp only [go_sem,h3',hlen]);(repeat refine And.intro side ?_);(first|refine hK _ ?_|refine hR _ _ ?_);clear hK hR K R)
    repeat (first | refine nav ?_ | refine bo ?_)
    (refine wr fun K R hK hR=>?_;simp only [go_sem,h4];(try go_ints);(try simp only [go_sem,h4]);(repeat refine And.intro side ?_);(first|refine hK _ ?_|refine hR _ _ ?_);clear hK hR K R)
    refine forQ_normal (p.kids.length - (k + 1)) (by omega) ⟨k + 1,?_⟩
    rw [htk,List.map_append,List.map_cons,List.map_nil,ints_snoc]
    ((try simp only [go_sem]);(repeat' refine And.intro ?_ ?_)<;>(try first | with_reducible rfl | omega | with_reducible assumption | (simp;done)))
    intro q hq
    rcases List.mem_append.1 hq with hq | hq
    ·exact hi q hq
    ·rw [List.mem_singleton.1 hq];simpa using hc
  ·have hb' : k = p.kids.length:=by have : ¬ k < p.kids.length:=(by simpa using hb);omega
   subst hb'
   rw [List.take_length] at hi h3'
   have hws:=widthsR_some hi
   generalize hgw : p.kids.map widthR = ws at hws h3'
   have hwl : ∀ x ∈ ws,0 ≤ x ∧ x ≤ 12:=by
    intro x hx
    rw [← hgw] at hx
    obtain ⟨q,hq,rfl⟩:=List.mem_map.1 hx
    have:=widthR_le q
    have:=hi q hq
    omega
   have hwd : widthR p = capW (outF p ws):=by rw [widthR_eq,hws]
   generalize hout : outF p ws = out at hwd
   have hwn : ws.length ≤ 100000:=by rw [← hgw,List.length_map];exact hkl
   repeat (first | refine nav ?_ | refine bo ?_)
   (refine W_dreg (by decide +kernel) [] [0,1,2,3,4,5,6,7,8,9,10,11,12,13,14,15,16,17] [[],[0],[0,1],[],[3],[3,4],[4,3,5],[],[7],[7,8],[8,7,9],[9,7,8,10],[10,8,7,9,11],[11,9,7,8,10,12],[12,11,13,9,7,8,10],[9,7,8,10,1,0,2],[2,0,1,10,8,7,9,15,5,3,4,6],[6,4,3,5,15,1,0,2,16,10,8,7,9,13,11,12,14]] (by decide +kernel) rfl fun K R hK hR=>?_;simp only [List.filterMap_cons,List.filterMap_nil,List.getElem?_cons_zero,List.getElem?_cons_succ,List.cons_append,List.nil_append];simp only [go_sem,h3',size_zero];(try go_ints);(try simp only [go_sem,h3',size_zero]);(repeat refine And.intro side ?_);(first|refine hK _ ?_|refine hR _ _ ?_);clear hK hR K R)
   repeat (first | refine nav ?_ | refine bo ?_)
   (refine wr fun K R hK hR=>?_;simp only [go_sem];(try go_ints);(repeat refine And.intro side ?_);(first|refine hK _ ?_|refine hR _ _ ?_);clear hK hR K R)
   refine seqQ_normal ?_
   unfold outF at hout
   generalize hNZ : decide (p.name.size = 0) = NZ at hout
   generalize hCL : decide ((p.cols.length : Int) > 0) = CL at hout
   generalize hIJ : (p.i != 0 || p.j != 0) = IJ at hout
   have hlw : (ints ws).length = ws.length:=ints_len ws
   refine W_join 44 235 [9] (fun t o=>t 9 = .i .i64 out ∧ o = [Ob.cells 7 [[AV.i .i64 p.kind,.i .i64 p.width,.i .i64 p.i,.i .i64 p.j,.s p.name,.sl 1 (ints p.cols),.sl 7 (plans p.kids)]]]) ?_ ?_
   ·repeat (first | refine nav ?_ | refine bo ?_)
    (refine wr fun K R hK hR=>?_;simp only [go_sem,h3',hlw];(try go_ints);(try simp only [go_sem,h3',hlw]);(repeat refine And.intro side ?_);(first|refine hK _ ?_|refine hR _ _ ?_);clear hK hR K R)
    refine RL_callDg rfl (by simp only [go_sem]<;>exact rfl) (fun e=>rname_spec p.name hp.name) rfl rfl rfl (fun e=>by (try simp only [go_sem] at e);simp only [go_sem,e]<;>(try simp only [go_sem])<;>first | exact LeA.refl _ | exact Le.refl _) rfl rfl ?_
    (refine rr fun K R hK hR=>?_;simp only [go_sem];(try go_ints);(repeat refine And.intro side ?_);(first|refine hK _ ?_|refine hR _ _ ?_);clear hK hR K R)
    repeat (first | refine nav ?_ | refine bo ?_)
    refine W_cond (by simp only [go_sem]<;>exact rfl) (fun hb=>?_) (fun hb=>?_)
    ·rw [if_pos (by simpa only [Bool.and_assoc] using hb)] at hout
     subst hout
     repeat (first | refine nav ?_ | refine bo ?_)
     (refine wr fun K R hK hR=>?_;simp only [go_sem];(try go_ints);(repeat refine And.intro side ?_);(first|refine hK _ ?_|refine hR _ _ ?_);clear hK hR K R)
     repeat (first | refine nav ?_ | refine bo ?_)
     exact joinQ_normal ⟨by simp only [go_sem],rfl⟩
    rw [if_neg (by rw [Bool.not_eq_true];simpa only [Bool.and_assoc] using hb)] at hout
    clear hb
    repeat (first | refine nav ?_ | refine bo ?_)
    (refine wr fun K R hK hR=>?_;simp only [go_sem,h3',hlw];(try go_ints);(try simp only [go_sem,h3',hlw]);(repeat refine And.intro side ?_);(first|refine hK _ ?_|refine hR _ _ ?_);clear hK hR K R)
    repeat (first | refine nav ?_ | refine bo ?_)
    refine W_cond (by simp only [go_sem]<;>exact rfl) (fun hb=>?_) (fun hb=>?_)
    ·rw [if_pos (by simpa only [Bool.and_assoc] using hb)] at hout
     subst hout
     repeat (first | refine nav ?_ | refine bo ?_)
     (refine wr fun K R hK hR=>?_;simp only [go_sem];(try go_ints);(repeat refine And.intro side ?_);(first|refine hK _ ?_|refine hR _ _ ?_);clear hK hR K R)
     repeat (first | refine nav ?_ | refine bo ?_)
     exact joinQ_normal ⟨by simp only [go_sem],rfl⟩
    rw [if_neg (by rw [Bool.not_eq_true];simpa only [Bool.and_assoc] using hb)] at hout
    clear hb
    repeat (first | refine nav ?_ | refine bo ?_)
    (refine W_part [] 9 fun R hR=>?_;simp only [go_sem,h3'];(try go_ints);(try simp only [go_sem,h3']);(repeat refine And.intro side ?_);refine hR _ _ ?_;clear hR R)
    generalize (p.kind == 2 || p.kind == 3) = KK at hout ⊢
    (refine rr fun K R hK hR=>?_;simp only [go_sem,h3',hlw];(try go_ints);(try simp only [go_sem,h3',hlw]);(repeat refine And.intro side ?_);(first|refine hK _ ?_|refine hR _ _ ?_);clear hK hR K R)
    repeat (first | refine nav ?_ | refine bo ?_)
    refine W_cond (by simp only [go_sem]<;>exact rfl) (fun hb=>?_) (fun hb=>?_)
    ·rw [if_pos (by simpa only [Bool.and_assoc] using hb)] at hout
     have hl : ws.length = 1:=by
      simp only [Bool.and_eq_true,beq_iff_eq] at hb;omega
     obtain ⟨a,rfl⟩:=List.length_eq_one_iff.1 hl
     have hpl:=places_spec a [p.i,p.j] (by simp)
     rw [show ints [p.i,p.j] = [[.i .i64 p.i],[.i .i64 p.j]] from rfl] at hpl
     have hia : ints [a] = [[.i .i64 a]]:=rfl
     simp only [List.getD_cons_zero] at hout
     repeat (first | refine nav ?_ | refine bo ?_)
     (refine W_dreg (by decide +kernel) [] [0,1,2,3,4,5,6,7,8] [[],[0],[],[2],[2,3,0,1],[],[5],[5,6],[6,5,7,1,0,3,2,4]] (by decide +kernel) rfl fun K R hK hR=>?_;simp only [List.filterMap_cons,List.filterMap_nil,List.getElem?_cons_zero,List.getElem?_cons_succ,List.cons_append,List.nil_append];simp only [go_sem,h3',hia];(try go_ints);(try simp only [go_sem,h3',hia]);(repeat refine And.intro side ?_);(first|refine hK _ ?_|refine hR _ _ ?_);clear hK hR K R)
     refine D_callD (hpl) rfl rfl rfl (by first | (simp only [go_sem]<;>first | exact LeA.refl _ | exact Le.refl _) | exact LeA.refl _) rfl rfl rfl rfl ?_
     (refine D_reg fun K R hK hR=>?_;simp only [go_sem];(try go_ints);(repeat refine And.intro side ?_);(first|refine hK _ ?_|refine hR _ _ ?_);clear hK hR K R)
     repeat (first | refine nav ?_ | refine bo ?_)
     refine W_cond (by simp only [go_sem]<;>exact rfl) (fun hc=>?_) (fun hc=>?_)
     ·rw [if_pos hc] at hout
      subst hout
      repeat (first | refine nav ?_ | refine bo ?_)
      (refine wr fun K R hK hR=>?_;simp only [go_sem,h3',hia];(try go_ints);(try simp only [go_sem,h3',hia]);(repeat refine And.intro side ?_);(first|refine hK _ ?_|refine hR _ _ ?_);clear hK hR K R)
      repeat (first | refine nav ?_ | refine bo ?_)
      exact joinQ_normal ⟨by simp only [go_sem],rfl⟩
     ·rw [if_neg (by simp [hc])] at hout
      subst hout
      repeat (first | refine nav ?_ | refine bo ?_)
      exact joinQ_normal ⟨by simp only [go_sem],rfl⟩
    rw [if_neg (by rw [Bool.not_eq_true];simpa only [Bool.and_assoc] using hb)] at hout
    clear hb
    repeat (first | refine nav ?_ | refine bo ?_)
    (refine wr fun K R hK hR=>?_;simp only [go_sem,h3',hlw];(try go_ints);(try simp only [go_sem,h3',hlw]);(repeat refine And.intro side ?_);(first|refine hK _ ?_|refine hR _ _ ?_);clear hK hR K R)
    repeat (first | refine nav ?_ | refine bo ?_)
    refine W_cond (by simp only [go_sem]<;>exact rfl) (fun hb=>?_) (fun hb=>?_)
    ·rw [if_pos (by simpa only [Bool.and_assoc] using hb)] at hout
     have hl : ws.length = 2:=by
      simp only [Bool.and_eq_true,beq_iff_eq] at hb;omega
     obtain ⟨a,b,rfl⟩ : ∃ a b,ws = [a,b]:=by
      match ws,hl with
      | [a,b],_=>exact ⟨a,b,rfl⟩
     have hia : ints [a,b] = [[.i .i64 a],[.i .i64 b]]:=rfl
     have ha:=hwl a (by simp)
     have hb:=hwl b (by simp)
     simp only [List.getD_cons_zero,List.getD_cons_succ] at hout
     subst hout
     repeat (first | refine nav ?_ | refine bo ?_)
     (refine W_dreg (by decide +kernel) [] [0,1,2,3,4,5,6,7] [[],[0],[0,1],[],[3],[3,4],[4,3,5,1,0,2],[2,0,1,5,3,4,6]] (by decide +kernel) rfl fun K R hK hR=>?_;simp only [List.filterMap_cons,List.filterMap_nil,List.getElem?_cons_zero,List.getElem?_cons_succ,List.cons_append,List.nil_append];simp only [go_sem,h3',hia];(try go_ints);(try simp only [go_sem,h3',hia]);(repeat refine And.intro side ?_);(first|refine hK _ ?_|refine hR _ _ ?_);clear hK hR K R)
     repeat (first | refine nav ?_ | refine bo ?_)
     exact joinQ_normal ⟨by simp only [go_sem],rfl⟩
    rw [if_neg (by rw [Bool.not_eq_true];simpa only [Bool.and_assoc] using hb)] at hout
    clear hb
    repeat (first | refine nav ?_ | refine bo ?_)
    (refine wr fun K R hK hR=>?_;simp only [go_sem,h3',hlw];(try go_ints);(try simp only [go_sem,h3',hlw]);(repeat refine And.intro side ?_);(first|refine hK _ ?_|refine hR _ _ ?_);clear hK hR K R)
    repeat (first | refine nav ?_ | refine bo ?_)
    refine W_cond (by simp only [go_sem]<;>exact rfl) (fun hb=>?_) (fun hb=>?_)
    ·rw [if_pos (by simpa only [Bool.and_assoc] using hb)] at hout
     have hl : ws.length = 1:=by
      simp only [Bool.and_eq_true,beq_iff_eq] at hb;omega
     obtain ⟨a,rfl⟩:=List.length_eq_one_iff.1 hl
     have hpl:=places_spec a p.cols hp.cols
     have hia : ints [a] = [[.i .i64 a]]:=rfl
     have hcl:=hp.cols
     simp only [List.getD_cons_zero] at hout
     repeat (first | refine nav ?_ | refine bo ?_)
     (refine W_dreg (by decide +kernel) [] [0,1,2,3,4,5] [[],[0],[],[2],[2,3],[3,2,4,0,1]] (by decide +kernel) rfl fun K R hK hR=>?_;simp only [List.filterMap_cons,List.filterMap_nil,List.getElem?_cons_zero,List.getElem?_cons_succ,List.cons_append,List.nil_append];simp only [go_sem,h3',hia];(try go_ints);(try simp only [go_sem,h3',hia]);(repeat refine And.intro side ?_);(first|refine hK _ ?_|refine hR _ _ ?_);clear hK hR K R)
     refine D_callD (hpl) rfl rfl rfl (by first | (simp only [go_sem]<;>first | exact LeA.refl _ | exact Le.refl _) | exact LeA.refl _) rfl rfl rfl rfl ?_
     (refine D_reg fun K R hK hR=>?_;simp only [go_sem];(try go_ints);(repeat refine And.intro side ?_);(first|refine hK _ ?_|refine hR _ _ ?_);clear hK hR K R)
     repeat (first | refine nav ?_ | refine bo ?_)
     refine W_cond (by simp only [go_sem]<;>exact rfl) (fun hc=>?_) (fun hc=>?_)
     ·rw [if_pos hc] at hout
      subst hout
      repeat (first | refine nav ?_ | refine bo ?_)
      (refine wr fun K R hK hR=>?_;simp only [go_sem,h3',hia];(try go_ints);(try simp only [go_sem,h3',hia]);(repeat refine And.intro side ?_);(first|refine hK _ ?_|refine hR _ _ ?_);clear hK hR K R)
      repeat (first | refine nav ?_ | refine bo ?_)
      exact joinQ_normal ⟨by simp only [go_sem],rfl⟩
     ·rw [if_neg (by simp [hc])] at hout
      subst hout
      repeat (first | refine nav ?_ | refine bo ?_)
      exact joinQ_normal ⟨by simp only [go_sem],rfl⟩
    rw [if_neg (by rw [Bool.not_eq_true];simpa only [Bool.and_assoc] using hb)] at hout
    clear hb
    repeat (first | refine nav ?_ | refine bo ?_)
    (refine W_part [] 9 fun R hR=>?_;simp only [go_sem,h3'];(try go_ints);(try simp only [go_sem,h3']);(repeat refine And.intro side ?_);refine hR _ _ ?_;clear hR R)
    generalize (p.kind == 6 || p.kind == 7) = KK at hout ⊢
    (refine rr fun K R hK hR=>?_;simp only [go_sem,h3',hlw];(try go_ints);(try simp only [go_sem,h3',hlw]);(repeat refine And.intro side ?_);(first|refine hK _ ?_|refine hR _ _ ?_);clear hK hR K R)
    repeat (first | refine nav ?_ | refine bo ?_)
    refine W_cond (by simp only [go_sem]<;>exact rfl) (fun hb=>?_) (fun hb=>?_)
    ·rw [if_pos (by simpa only [Bool.and_assoc] using hb)] at hout
     have hl : ws.length = 2:=by
      simp only [Bool.and_eq_true,beq_iff_eq] at hb;omega
     obtain ⟨a,b,rfl⟩ : ∃ a b,ws = [a,b]:=by
      match ws,hl with
      | [a,b],_=>exact ⟨a,b,rfl⟩
     have hia : ints [a,b] = [[.i .i64 a],[.i .i64 b]]:=rfl
     simp only [List.getD_cons_zero,List.getD_cons_succ] at hout
     repeat (first | refine nav ?_ | refine bo ?_)
     (refine W_dreg (by decide +kernel) [] [0,1,2,3,4,5,6] [[],[0],[0,1],[],[3],[3,4],[4,3,5,1,0,2]] (by decide +kernel) rfl fun K R hK hR=>?_;simp only [List.filterMap_cons,List.filterMap_nil,List.getElem?_cons_zero,List.getElem?_cons_succ,List.cons_append,List.nil_append];simp only [go_sem,h3',hia];(try go_ints);(try simp only [go_sem,h3',hia]);(repeat refine And.intro side ?_);(first|refine hK _ ?_|refine hR _ _ ?_);clear hK hR K R)
     repeat (first | refine nav ?_ | refine bo ?_)
     refine W_cond (by simp only [go_sem]<;>exact rfl) (fun hc=>?_) (fun hc=>?_)
     ·rw [if_pos (by simpa using hc)] at hout
      subst hout
      repeat (first | refine nav ?_ | refine bo ?_)
      (refine wr fun K R hK hR=>?_;simp only [go_sem,h3',hia];(try go_ints);(try simp only [go_sem,h3',hia]);(repeat refine And.intro side ?_);(first|refine hK _ ?_|refine hR _ _ ?_);clear hK hR K R)
      repeat (first | refine nav ?_ | refine bo ?_)
      exact joinQ_normal ⟨by simp only [go_sem],rfl⟩
     ·rw [if_neg (by simpa using hc)] at hout
      subst hout
      repeat (first | refine nav ?_ | refine bo ?_)
      exact joinQ_normal ⟨by simp only [go_sem],rfl⟩
    rw [if_neg (by rw [Bool.not_eq_true];simpa only [Bool.and_assoc] using hb)] at hout
    subst hout
    repeat (first | refine nav ?_ | refine bo ?_)
    exact joinQ_normal ⟨by simp only [go_sem],rfl⟩
   ·rintro t2 o2 ⟨h9,rfl⟩
    repeat (first | refine nav ?_ | refine bo ?_)
    (refine wr fun K R hK hR=>?_;simp only [go_sem,h9];(try go_ints);(try simp only [go_sem,h9]);(repeat refine And.intro side ?_);(first|refine hK _ ?_|refine hR _ _ ?_);clear hK hR K R)
    repeat (first | refine nav ?_ | refine bo ?_)
    refine W_cond (b:=decide (out < 0) || decide (out > 12)) (by simp only [go_sem]<;>exact rfl) (fun hb=>?_) (fun hb=>?_)
    ·repeat (first | refine nav ?_ | refine bo ?_)
     (refine wr fun K R hK hR=>?_;simp only [go_sem];(try go_ints);(repeat refine And.intro side ?_);(first|refine hK _ ?_|refine hR _ _ ?_);clear hK hR K R)
     repeat (first | refine nav ?_ | refine bo ?_)
     refine endQ_data (by simp only [go_sem]<;>exact rfl) (Le.of_eq ?_) rfl
     rw [hwd,capW,if_pos (by simpa using hb)]
    ·repeat (first | refine nav ?_ | refine bo ?_)
     (refine wr fun K R hK hR=>?_;simp only [go_sem,h9];(try go_ints);(try simp only [go_sem,h9]);(repeat refine And.intro side ?_);(first|refine hK _ ?_|refine hR _ _ ?_);clear hK hR K R)
     repeat (first | refine nav ?_ | refine bo ?_)
     refine endQ_data (by simp only [go_sem]<;>exact rfl) (Le.of_eq ?_) rfl
     rw [hwd,capW,if_neg (by simpa using hb)]
end Go.AW
