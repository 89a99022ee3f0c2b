/-
AW, part S: 'step1' is sound: append, and the whole.
-/
import Derived.Test.YtfjdiofipbchcaaKab
namespace Go.AW
open Go
set_option linter.unusedSimpArgs false
set_option linter.unusedVariables false
section
variable {P : Program} {g : G} {s : St} {a : Act} {w : World}
theorem growBy_le (n : Nat) : ∀ (r c : Nat),256 ≤ c → c ≤ n → Builtin.growBy n r c ≤ 2 * n
 | 0,c,_,h=>by simp only [Builtin.growBy];omega
 | r + 1,c,h0,h=>by
  simp only [Builtin.growBy]
  split
  ·omega
  ·by_cases hc : c + (c + 768) / 4 ≤ n
   ·exact growBy_le n r _ (by omega) hc
   ·have h2 : c + (c + 768) / 4 ≤ 2 * n:=by omega
    cases r with
    | zero=>simp only [Builtin.growBy];omega
    | succ r=>simp only [Builtin.growBy];rw [if_pos (by omega)];omega
theorem nextcap_le {n c : Nat} (h : c < n) : Builtin.nextslicecap n c ≤ 2 * n:=by
 unfold Builtin.nextslicecap
 split
 ·omega
 ·split
  ·omega
  ·exact growBy_le n 4 c (by omega) (by omega)
theorem run_askRoom (n : Nat) : (askRoom n).run P w = .ok () w:=by
 unfold askRoom;split
 ·rfl
 ·rfl
theorem run_append_grow {t t2 e : TypeId} {ad bd : Option Addr} {n cap q cap2 : Nat} {i : TypeInfo} {zv : Value} {old new : List Value} {z : AV}
  (ht : ukOf P t = .slice e) (ht2 : ukOf P t2 = .slice e) (hi : P.info? e = some i) (hz : ∀ w : World,(zeroValue e).run P w = .ok zv w) (hbig : cap < n + q)
  (hb : (n + q) * P.bytesOf e ≤ 140737488355328) (hpos : 0 < P.bytesOf e)
  (hold : ∀ w' : World,Grow w w' → (Builtin.firstCells (szOf P e) n (.slice ad n cap)).run P w' = .ok old.toArray w')
  (hnew : ∀ w' : World,Grow w w' → (Builtin.firstCells (szOf P e) q (.slice bd q cap2)).run P w' = .ok new.toArray w') :
  ∃ nc,n + q ≤ nc ∧ nc ≤ maxLen ∧ (Builtin.append_ #[t,t2] t #[.slice ad n cap,.slice bd q cap2]).run P w =
   .ok (.slice (some ⟨w.heap.size,0,none⟩) (n + q) nc) { w with drawn:=w.drawn + 1,heap:=w.heap.push (.cells (old.toArray ++ new.toArray ++ Builtin.zeroCells zv.cells (nc - (n + q))) e (0,0)) }:=by
 have hnq : n + q ≤ 140737488355328:=Nat.le_trans (Nat.le_mul_of_pos_right _ hpos) hb
 refine ⟨n + q + w.tape w.drawn (.appendCap (n + q) cap e) % (2 ^ 63 - (n + q)),by omega,?_,?_⟩
 ·have : w.tape w.drawn (.appendCap (n + q) cap e) % (2 ^ 63 - (n + q)) < 2 ^ 63 - (n + q):=Nat.mod_lt _ (by omega)
  unfold maxLen;omega
 unfold Builtin.append_
 simp only [List.getElem?_toArray,List.getElem?_cons_zero,List.getElem?_cons_succ]
 rw [srun_bind_ok (run_und (uk_slice ht))]
 simp only
 rw [srun_bind_ok (run_size hi)]
 rw [srun_bind_ok (run_und (uk_slice ht2)),srun_bind_ok (srun_pure _)]
 simp only [Bool.false_eq_true,if_false,Bool.not_false,if_true,false_or]
 rw [srun_bind_ok (x:=q) (w':=w) rfl]
 rw [if_neg (by omega)]
 rw [srun_bind_ok (run_info hi)]
 have hbi : i.bytes = P.bytesOf e:=(bytes_info hi).symm
 have hnc:=nextcap_le hbig
 have h48 : ¬ Builtin.nextslicecap (n + q) cap * i.bytes > 2 ^ 48:=by
  rw [hbi]
  have:=Nat.mul_le_mul_right (P.bytesOf e) hnc
  rw [Nat.mul_assoc] at this
  omega
 have hb0 : ¬ (((n + q : Nat) : Int) > IntKind.i64.max ∧ i.bytes = 0):=by
  rintro ⟨_,h⟩
  omega
 rw [if_neg hb0,srun_bind_ok (run_info hi),if_neg h48]
 have hch : (choose (.appendCap (n + q) cap e)).run P w = .ok (n + q + w.tape w.drawn (.appendCap (n + q) cap e) % (2 ^ 63 - (n + q))) { w with drawn:=w.drawn + 1 }:=by
  simp [choose,Sem.run,Question.forced,Question.cut]
 rw [srun_bind_ok hch,srun_bind_ok (run_info hi),srun_bind_ok (run_askRoom _)]
 have hG : Grow w { w with drawn:=w.drawn + 1 }:=Grow.draw w _ (Nat.le_succ _)
 rw [srun_bind_ok (hold _ hG),srun_bind_ok (hnew _ hG),srun_bind_ok (hz _),srun_bind_ok (run_newRow _ _ _)]
 rfl
theorem run_append_in {t t2 e : TypeId} {blk off : Nat} {bd : Option Addr} {n cap q cap2 : Nat} {i : TypeInfo} {new : List Value} {c : Array Value} {ty : TypeId}
  (ht : ukOf P t = .slice e) (ht2 : ukOf P t2 = .slice e) (hi : P.info? e = some i) (hfit : n + q ≤ cap)
  (hnew : (Builtin.firstCells (szOf P e) q (.slice bd q cap2)).run P w = .ok new.toArray w) (hlen : new.length = q * szOf P e)
  (hblk : w.heap[blk]? = some (.cells c ty (0,0))) (hcs : off + cap * szOf P e ≤ c.size) (hfl : ∀ v ∈ new,Value.flat v = true) :
  (Builtin.append_ #[t,t2] t #[.slice (some ⟨blk,off,none⟩) n cap,.slice bd q cap2]).run P w = .ok (.slice (some ⟨blk,off,none⟩) (n + q) cap) (putCells w blk (off + n * szOf P e) new):=by
 unfold Builtin.append_
 simp only [List.getElem?_toArray,List.getElem?_cons_zero,List.getElem?_cons_succ]
 rw [srun_bind_ok (run_und (uk_slice ht))]
 simp only
 rw [srun_bind_ok (run_size hi)]
 rw [srun_bind_ok (run_und (uk_slice ht2)),srun_bind_ok (srun_pure _)]
 simp only [Bool.false_eq_true,if_false,Bool.not_false,if_true,false_or]
 rw [srun_bind_ok (x:=q) (w':=w) rfl]
 rw [if_pos hfit,srun_bind_ok hnew]
 have hm : (n + q) * szOf P e ≤ cap * szOf P e:=Nat.mul_le_mul_right _ hfit
 rw [Nat.add_mul] at hm
 simp only
 rw [addr_add,srun_bind_ok (run_storeCells new w blk (off + n * szOf P e) 0 c ty hblk (by omega) hfl)]
 rfl
theorem run_append_same {t t2 e : TypeId} {ad bd : Option Addr} {n cap cap2 : Nat} {i : TypeInfo} (ht : ukOf P t = .slice e) (ht2 : ukOf P t2 = .slice e) (hi : P.info? e = some i) (hfit : n ≤ cap) :
  (Builtin.append_ #[t,t2] t #[.slice ad n cap,.slice bd 0 cap2]).run P w = .ok (.slice ad n cap) w:=by
 have hnew : (Builtin.firstCells (szOf P e) 0 (.slice bd 0 cap2)).run P w = .ok #[] w:=by
  cases bd with
  | none=>rfl
  | some bd=>simp [Builtin.firstCells,loadCells,loadCellsFrom,srun_pure]
 unfold Builtin.append_
 simp only [List.getElem?_toArray,List.getElem?_cons_zero,List.getElem?_cons_succ]
 rw [srun_bind_ok (run_und (uk_slice ht))]
 simp only
 rw [srun_bind_ok (run_size hi)]
 rw [srun_bind_ok (run_und (uk_slice ht2)),srun_bind_ok (srun_pure _)]
 simp only [Bool.false_eq_true,if_false,Bool.not_false,if_true,false_or]
 rw [srun_bind_ok (x:=0) (w':=w) rfl]
 rw [Nat.add_zero,if_pos hfit,srun_bind_ok hnew]
 cases ad with
 | none=>rfl
 | some ad=>rfl
theorem Grow.firstCells {Y : CS} {sz : Nat} {nr : List (List AV)} {ad : Option Addr} {cap : Nat} (h : nr = [] ∨ ∃ blk off,ad = some ⟨blk,off,none⟩ ∧ Rs w Y sz blk off nr) :
  ∃ vs : List Value,(∀ w',Grow w w' → (Builtin.firstCells sz nr.length (.slice ad nr.length cap)).run P w' = .ok vs.toArray w') ∧ vs.length = nr.length * sz ∧
   ∀ (r : Nat) row (c : Nat) av,nr[r]? = some row → row[c]? = some av → ∃ v,vs[r * sz + c]? = some v ∧ Value.flat v = true ∧ V w Y [] av v:=by
 obtain ⟨vs,h1,h2,h3⟩:=run_firstCells (P:=P) (cap:=cap) h
 refine ⟨vs,fun w' hg=>?_,h2,h3⟩
 -- the same cells are read in a world that only grew
 have h' : nr = [] ∨ ∃ blk off,ad = some ⟨blk,off,none⟩ ∧ Rs w' Y sz blk off nr :=
  h.imp (fun h=>h) fun ⟨blk,off,e,k⟩=>⟨blk,off,e,Rs.keep ⟨fun b x v hc hy=>⟨hg.cell hc,hy⟩,nil_obj⟩ _ _ _ _ k⟩
 obtain ⟨vs',g1,g2,g3⟩:=run_firstCells (P:=P) (w:=w') (cap:=cap) h'
 rw [g1]
 have hlen : vs'.length = vs.length:=by rw [g2,h2]
 have : vs' = vs:=by
  rcases h with rfl | ⟨blk,off,rfl,hr⟩
  ·have z1 : vs' = []:=List.eq_nil_of_length_eq_zero (by simpa using g2)
   have z2 : vs = []:=List.eq_nil_of_length_eq_zero (by simpa using h2)
   rw [z1,z2]
  ·-- both are what the cells hold
   have key : ∀ (w'' : World) (us : List Value),(loadCells ⟨blk,off,none⟩ (nr.length * sz)).run P w'' = .ok us.toArray w'' → ∀ c,c < nr.length * sz → us[c]? = w''.cell? ⟨blk,off + c,none⟩ ∨ (w''.cell? ⟨blk,off + c,none⟩ = none):=by
    intro w'' us hus c hc
    have gen : ∀ (n i : Nat) (acc : Array Value) (r : Array Value),(loadCellsFrom ⟨blk,off,none⟩ i n acc).run P w'' = .ok r w'' → ∃ us : List Value,r = acc ++ us.toArray ∧ us.length = n ∧ ∀ c,c < n → us[c]? = w''.cell? ⟨blk,off + i + c,none⟩ ∨ w''.cell? ⟨blk,off + i + c,none⟩ = none:=by
     intro n
     induction n with
     | zero=>intro i acc r h;simp only [loadCellsFrom,srun_pure,Result.ok.injEq] at h;exact ⟨[],by simp [h.1],rfl,by omega⟩
     | succ n ih =>
      intro i acc r h
      unfold loadCellsFrom at h
      rw [addr_add,srun_bind] at h
      split at h
      ·rename_i x w3 hx
       have hw3 : w3 = w'' ∧ (w''.cell? ⟨blk,off + i,none⟩ = some x ∨ w''.cell? ⟨blk,off + i,none⟩ = none):=by
        unfold load at hx
        simp only [Sem.run] at hx
        split at hx
        ·rename_i v hv
         simp only [Result.ok.injEq] at hx
         exact ⟨hx.2.symm,.inl (by rw [← hx.1];exact hv)⟩
        ·rename_i hv
         split at hx
         ·simp only [Result.ok.injEq] at hx;exact ⟨hx.2.symm,.inr hv⟩
         ·cases hx
       obtain ⟨rfl,hx2⟩:=hw3
       obtain ⟨us,e1,e2,e3⟩:=ih (i + 1) _ r h
       refine ⟨x :: us,by rw [e1];simp,by simp [e2],fun c hc=>?_⟩
       cases c with
       | zero=>simpa using hx2.imp (fun h=>h.symm) (fun h=>h)
       | succ c =>
        have:=e3 c (by omega)
        rw [show off + (i + 1) + c = off + i + (c + 1) by omega] at this
        simpa using this
      ·cases h
    obtain ⟨us',e1,e2,e3⟩:=gen _ 0 #[] _ hus
    have : us = us':=by simpa using congrArg Array.toList e1
    subst this
    simpa using e3 c hc
   have rd : ∀ c,c < nr.length * sz → ∃ v,w.cell? ⟨blk,off + c,none⟩ = some v:=by
    intro c hc
    have hpos : 0 < sz:=by
     rcases Nat.eq_zero_or_pos sz with h0 | h0
     ·rw [h0] at hc;simp at hc
     ·exact h0
    have hr' : c / sz < nr.length:=by rw [Nat.div_lt_iff_lt_mul hpos];exact hc
    obtain ⟨q1,q2⟩:=hr.get (c / sz) _ (List.getElem?_eq_getElem hr')
    obtain ⟨v,q3,_⟩:=q2.get (c % sz) _ (List.getElem?_eq_getElem (by rw [q1];exact Nat.mod_lt _ hpos))
    refine ⟨v,?_⟩
    rwa [Nat.add_assoc,Nat.mul_comm,Nat.div_add_mod] at q3
   apply List.ext_getElem?
   intro c
   by_cases hc : c < nr.length * sz
   ·obtain ⟨v,hv⟩:=rd c hc
    have a1:=key w vs h1 c hc
    have a2:=key w' vs' g1 c hc
    rw [hv] at a1
    rw [hg.cell hv] at a2
    simp only [reduceCtorEq,or_false] at a1 a2
    rw [a1,a2]
   ·rw [List.getElem?_eq_none (by omega),List.getElem?_eq_none (by omega)]
 rw [this]
theorem run_cellsAt {blk x : Nat} {f : Nat → Value} {N : Nat} (hf : ∀ c,c < N → w.cell? ⟨blk,x + c,none⟩ = some (f c)) :
  ∀ w',Grow w w' → (loadCells ⟨blk,x,none⟩ N).run P w' = .ok ((List.range' 0 N).map f).toArray w':=by
 intro w' hg
 have hrun : ∀ (n i : Nat) (acc : Array Value),i + n ≤ N → (loadCellsFrom ⟨blk,x,none⟩ i n acc).run P w' = .ok (acc ++ ((List.range' i n).map f).toArray) w':=by
  intro n
  induction n with
  | zero=>intro i acc _;simp [loadCellsFrom,srun_pure]
  | succ n ih =>
   intro i acc hh
   unfold loadCellsFrom
   rw [srun_bind_ok (run_load (by rw [addr_add];exact hg.cell (hf i (by omega)))),ih (i + 1) _ (by omega)]
   simp [List.range'_succ]
 unfold loadCells
 rw [hrun _ 0 #[] (by omega)]
 simp
theorem rowsG_src {dat : Bool} {o : List Ob} {Y : CS} {m : List MB} {sz : Nat} {x : AV} {v : Value} {nr : List (List AV)} (ho : ∀ (id : Nat) (x : Ob) (mb : MB),o[id]? = some x → m[id]? = some mb → ObR w Y m mb x)
  (hx : rowsG dat o sz x = some nr) (hv : V w Y m x v) :
  ∃ ad cap,v = .slice ad nr.length cap ∧ nr.length ≤ maxLen ∧ (∀ (r : Nat) row,nr[r]? = some row → row.length = sz) ∧
   ∃ new : List Value,(∀ w',Grow w w' → (Builtin.firstCells sz nr.length (.slice ad nr.length cap)).run P w' = .ok new.toArray w') ∧ new.length = nr.length * sz ∧
   ∀ (r : Nat) row (c : Nat) av,nr[r]? = some row → row[c]? = some av → ∃ v,new[r * sz + c]? = some v ∧ Value.flat v = true ∧ V w Y m av v ∧ (dat = true → V w Y [] av v):=by
 have old : rowsOf sz x = some nr → ∃ ad cap,v = .slice ad nr.length cap ∧ nr.length ≤ maxLen ∧ (∀ (r : Nat) row,nr[r]? = some row → row.length = sz) ∧
   ∃ new : List Value,(∀ w',Grow w w' → (Builtin.firstCells sz nr.length (.slice ad nr.length cap)).run P w' = .ok new.toArray w') ∧ new.length = nr.length * sz ∧
   ∀ (r : Nat) row (c : Nat) av,nr[r]? = some row → row[c]? = some av → ∃ v,new[r * sz + c]? = some v ∧ Value.flat v = true ∧ V w Y m av v ∧ (dat = true → V w Y [] av v):=by
  intro hx
  obtain ⟨ad,cap,h1,h2,h3⟩:=rowsOf_cells hx hv
  obtain ⟨new,g1,g2,g3⟩:=Grow.firstCells (P:=P) (cap:=cap) h3
  refine ⟨ad,cap,h1,h2,fun r row hr=>?_,new,g1,g2,fun r row c av hr hc=>?_⟩
  ·rcases h3 with rfl | ⟨b1,o1,_,h9⟩
   ·simp at hr
   ·exact (h9.get r row hr).1
  ·obtain ⟨v,q1,q2,q3⟩:=g3 r row c av hr hc
   exact ⟨v,q1,q2,V.unbare q3,fun _=>q3⟩
 unfold rowsG at hx
 split at hx
 ·rename_i id off len
  simp only [V] at hv
  obtain ⟨mb,a,cap,hm,rfl,h1,h2,h3⟩:=hv
  have fin : ∀ {rows : List (List AV)},mb.sz = sz → off + len ≤ rows.length → (∀ (r : Nat) row,rows[r]? = some row → row.length = sz) →
    (∀ (r : Nat) row (c : Nat) av,rows[r]? = some row → row[c]? = some av → ∃ v,w.cell? ⟨mb.blk,mb.base + r * sz + c,none⟩ = some v ∧ Value.flat v = true ∧ V w Y m av v ∧ (dat = true → V w Y [] av v)) →
    nr = (rows.drop off).take len → ∃ ad cap',Value.slice a len cap = .slice ad nr.length cap' ∧ nr.length ≤ maxLen ∧ (∀ (r : Nat) row,nr[r]? = some row → row.length = sz) ∧
   ∃ new : List Value,(∀ w',Grow w w' → (Builtin.firstCells sz nr.length (.slice ad nr.length cap')).run P w' = .ok new.toArray w') ∧ new.length = nr.length * sz ∧
   ∀ (r : Nat) row (c : Nat) av,nr[r]? = some row → row[c]? = some av → ∃ v,new[r * sz + c]? = some v ∧ Value.flat v = true ∧ V w Y m av v ∧ (dat = true → V w Y [] av v):=by
   intro rows hsz hle hrl hcell hnr
   have hlen : nr.length = len:=by rw [hnr,List.length_take,List.length_drop];omega
   have hget : ∀ (r : Nat) row,nr[r]? = some row → r < len ∧ rows[off + r]? = some row:=by
    intro r row hr
    have : r < nr.length:=(List.getElem?_eq_some_iff.1 hr).1
    rw [hnr,List.getElem?_take,if_pos (by omega),List.getElem?_drop] at hr
    exact ⟨by omega,hr⟩
   refine ⟨a,cap,by rw [hlen],by omega,fun r row hr=>hrl _ row (hget r row hr).2,?_⟩
   by_cases h0 : len = 0
   ·have hn : nr = []:=List.eq_nil_of_length_eq_zero (by omega)
    refine ⟨[],fun w' _=>?_,by simp [hn],by simp [hn]⟩
    rw [hn]
    unfold Builtin.firstCells
    cases a with
    | none=>rfl
    | some ad=>simp [loadCells,loadCellsFrom,srun_pure]
   ·obtain ⟨rfl,_⟩:=h3.resolve_left (fun q=>h0 q.1)
    have hex : ∀ (r c : Nat),r < len → c < sz → ∃ av row,nr[r]? = some row ∧ row[c]? = some av:=by
     intro r c hr hc
     have h4 : r < nr.length:=by omega
     refine ⟨_,_,List.getElem?_eq_getElem h4,List.getElem?_eq_getElem (i:=c) ?_⟩
     rw [hrl _ _ (hget r _ (List.getElem?_eq_getElem h4)).2];exact hc
    have hf : ∀ c,c < len * sz → w.cell? ⟨mb.blk,mb.base + off * mb.sz + c,none⟩ = some ((w.cell? ⟨mb.blk,mb.base + off * mb.sz + c,none⟩).getD undef):=by
     intro c hc
     have hpos : 0 < sz:=by
      rcases Nat.eq_zero_or_pos sz with h0 | h0
      ·rw [h0] at hc;simp at hc
      ·exact h0
     obtain ⟨av,row,e1,e2⟩:=hex (c / sz) (c % sz) (by rw [Nat.div_lt_iff_lt_mul hpos];exact hc) (Nat.mod_lt _ hpos)
     obtain ⟨v,q1,_⟩:=hcell _ row _ av (hget _ row e1).2 e2
     have e3 : mb.base + (off + c / sz) * sz + c % sz = mb.base + off * mb.sz + c:=by
      rw [hsz,Nat.add_mul]
      have:=Nat.div_add_mod c sz
      rw [Nat.mul_comm] at this
      omega
     rw [e3] at q1
     rw [q1];rfl
    refine ⟨(List.range' 0 (len * sz)).map fun c=>(w.cell? ⟨mb.blk,mb.base + off * mb.sz + c,none⟩).getD undef,fun w' hg=>?_,?_,fun r row c av hr hc=>?_⟩
    ·rw [hlen]
     unfold Builtin.firstCells
     exact run_cellsAt (P:=P) (N:=len * sz) hf w' hg
    ·simp [hlen]
    ·obtain ⟨hr1,hr2⟩:=hget r row hr
     have hc1 : c < sz:=by rw [← hrl _ row hr2];exact (List.getElem?_eq_some_iff.1 hc).1
     have hlt : r * sz + c < len * sz:=by
      have : (r + 1) * sz ≤ len * sz:=Nat.mul_le_mul_right _ hr1
      rw [Nat.add_mul] at this;omega
     obtain ⟨v,q1,q2,q3,q4⟩:=hcell _ row c av hr2 hc
     have e3 : mb.base + (off + r) * sz + c = mb.base + off * mb.sz + (r * sz + c):=by rw [hsz,Nat.add_mul];omega
     refine ⟨v,?_,q2,q3,q4⟩
     rw [List.getElem?_map,List.getElem?_range' hlt,Option.map_some,Nat.zero_add,Nat.one_mul,← e3,q1]
     rfl
  split at hx
  ·rename_i k rows hid
   split at hx
   ·rename_i hc
    obtain ⟨g1,g2,g3,g4⟩:=ho id _ mb hid hm
    obtain ⟨rfl,c2,c3⟩:=hc
    refine fin g1 c2 g3 (fun r row c av hr hc=>?_) (Option.some.inj hx).symm
    obtain ⟨v,q1,q2⟩:=g4 r row c av hr hc
    simp only [rowsOk,List.all_eq_true,Bool.and_eq_true,Bool.or_eq_true,Bool.not_eq_true'] at c3
    have h5:=c3 row (List.mem_of_getElem? hr) av (List.mem_of_getElem? hc)
    refine ⟨v,q1,(plain_flat q2 h5.2).1,q2,fun hd=>?_⟩
    subst hd
    exact V.bare (h5.1.2.resolve_left (by simp)) q2
   ·cases hx
  ·rename_i k rows hid
   split at hx
   ·rename_i hc
    obtain ⟨g1,g2⟩:=ho id _ mb hid hm
    obtain ⟨rfl,c2⟩:=hc
    have hrs : ∀ (r : Nat) row,rows[r]? = some row → row.length = k ∧ Cs w Y mb.blk (mb.base + r * k) row:=by
     intro r row hr
     rcases g2 with rfl | g2
     ·simp at hr
     ·exact g2.get r row hr
    refine fin g1 c2 (fun r row hr=>(hrs r row hr).1) (fun r row c av hr hc=>?_) (Option.some.inj hx).symm
    obtain ⟨v,q1,_,q2,q3⟩:=(hrs r row hr).2.get c av hc
    exact ⟨v,q1,q2,V.unbare q3,fun _=>q3⟩
   ·cases hx
  ·cases hx
 ·exact old hx
theorem put_of_upd {d : Nat} {v : Value} (h : a.tmps.size = g.n) (hd : d < g.n) : (fun k=>(a.put (some d) v).tmps.getD k undef) = upd (fun k=>a.tmps.getD k undef) d v:=put_getD a d v (by rw [h];exact hd)
theorem zc_size (z : Array Value) (n : Nat) : (Builtin.zeroCells z n).size = n * z.size:=by simp [Builtin.zeroCells]
theorem app_fresh {Z : CS} {m : List MB} {reg : Pl → Option Reg} {t : Nat → AV} {u : Nat → Value} {o : List Ob} (h : Rel w Z m reg t u o) {d sz nc : Nat} {e : TypeId} {rows nr : List (List AV)} {old new rest : List Value} {dr : Nat}
  (hcap : rows.length + nr.length ≤ nc) (hmax : nc ≤ maxLen) (hold : old.length = rows.length * sz) (hnew : new.length = nr.length * sz) (hrest : rest.length = (nc - (rows.length + nr.length)) * sz)
  (ro : ∀ (r : Nat) row,rows[r]? = some row → row.length = sz) (rn : ∀ (r : Nat) row,nr[r]? = some row → row.length = sz)
  (vo : ∀ (r : Nat) row (c : Nat) av,rows[r]? = some row → row[c]? = some av → ∃ v,old[r * sz + c]? = some v ∧ Value.flat v = true ∧ V w (YS Z m reg o) [] av v)
  (vn : ∀ (r : Nat) row (c : Nat) av,nr[r]? = some row → row[c]? = some av → ∃ v,new[r * sz + c]? = some v ∧ Value.flat v = true ∧ V w (YS Z m reg o) [] av v) (hdr : w.drawn ≤ dr) :
  Rel { w with drawn:=dr,heap:=w.heap.push (.cells (old ++ new ++ rest).toArray e (0,0)) } Z m (fun p=>if p = .t d then some ⟨w.heap.size,(rows ++ nr).length * sz⟩ else reg p)
   (upd t d (.own sz (rows ++ nr))) (upd u d (.slice (some ⟨w.heap.size,0,none⟩) (rows.length + nr.length) nc)) o:=by
 have hl : (rows ++ nr).length = rows.length + nr.length:=List.length_append
 have h0:=h.grow (Grow.draw w dr hdr)
 have hsz : nc * sz ≤ (old ++ new ++ rest).toArray.size:=by
  simp only [List.size_toArray,List.length_append,hold,hnew,hrest]
  rw [← Nat.add_mul,← Nat.add_mul,show rows.length + nr.length + (nc - (rows.length + nr.length)) = nc by omega]
  exact Nat.le_refl _
 have:=h0.fresh (c:=(old ++ new ++ rest).toArray) (e:=e) (sz:=sz) (cap:=nc) (rows:=rows ++ nr) d (by rw [hl];exact hcap) hmax hsz (by
  intro w' Y' hw' hY'
  subst hw'
  have K : Keeps w (YS Z m reg o) [] { w with drawn:=dr,heap:=w.heap.push (.cells (old ++ new ++ rest).toArray e (0,0)) } Y' []:=by
   refine ⟨fun b x v hc hy=>⟨?_,fun k=>?_⟩,fun _ _ h=>h⟩
   ·exact (Grow.push _ _).cell ((Grow.draw w dr hdr).cell hc)
   ·rcases hY' b x k with k | k
    ·exact hy k
    ·have:=cell_lt hc;simp only at k;omega
  refine Rs.mk _ _ _ (fun r row hr=>?_) (fun r row c av hr hc=>?_)
  ·rw [List.getElem?_append] at hr
   split at hr
   ·exact ro r row hr
   ·exact rn _ row hr
  ·have hcell : ∀ x,({ w with drawn:=dr,heap:=w.heap.push (.cells (old ++ new ++ rest).toArray e (0,0)) } : World).cell? ⟨w.heap.size,x,none⟩ = (old ++ new ++ rest)[x]?:=by
    intro x
    rw [cell_cells (c:=(old ++ new ++ rest).toArray) (e:=e) (f:=(0,0)) (by simp)]
    simp
   have hy : ∀ x,x < (rows ++ nr).length * sz → ¬ Y' w.heap.size x:=by
    intro x hx k
    rcases hY' _ x k with k | k
    ·rcases k with k | k
     ·have:=h.xlt k;omega
     ·have:=h.zs _ _ k;omega
    ·omega
   have hrl : r < (rows ++ nr).length:=(List.getElem?_eq_some_iff.1 hr).1
   have hcl : c < sz:=by
    rw [List.getElem?_append] at hr
    split at hr
    ·rw [← ro r row hr];exact (List.getElem?_eq_some_iff.1 hc).1
    ·rw [← rn _ row hr];exact (List.getElem?_eq_some_iff.1 hc).1
   have hx : r * sz + c < (rows ++ nr).length * sz:=by
    have : (r + 1) * sz ≤ (rows ++ nr).length * sz:=Nat.mul_le_mul_right _ hrl
    rw [Nat.add_mul] at this;omega
   rw [List.getElem?_append] at hr
   split at hr
   ·rename_i hlt
    obtain ⟨v,q1,q2,q3⟩:=vo r row c av hr hc
    refine ⟨v,?_,by rw [Nat.zero_add];exact hy _ hx,q2,V.keep K _ _ q3⟩
    have:=(List.getElem?_eq_some_iff.1 q1).1
    rw [Nat.zero_add]
    show World.cell? _ ⟨w.heap.size,_,none⟩ = _
    rw [hcell,List.append_assoc,List.getElem?_append_left this]
    exact q1
   ·rename_i hge
    obtain ⟨v,q1,q2,q3⟩:=vn _ row c av hr hc
    refine ⟨v,?_,by rw [Nat.zero_add];exact hy _ hx,q2,V.keep K _ _ q3⟩
    have hlt2:=(List.getElem?_eq_some_iff.1 q1).1
    have e1 : r * sz = rows.length * sz + (r - rows.length) * sz:=by rw [← Nat.add_mul,show rows.length + (r - rows.length) = r by omega]
    rw [Nat.zero_add]
    show World.cell? _ ⟨w.heap.size,_,none⟩ = _
    rw [hcell,List.append_assoc,List.getElem?_append_right (by omega),hold,show r * sz + c - rows.length * sz = (r - rows.length) * sz + c by omega,List.getElem?_append_left hlt2]
    exact q1)
 rw [hl] at this ⊢
 exact this
theorem XS_drop {m : List MB} {reg reg' : Pl → Option Reg} {o : List Ob} (h : ∀ p r,reg' p = some r → ∃ q,reg q = some r) : ∀ b x,XS m reg' o b x → XS m reg o b x:=by
 rintro b x (k | ⟨p,r,h1,h2⟩)
 ·exact .inl k
 ·obtain ⟨q,hq⟩:=h p r h1
  exact .inr ⟨q,r,hq,h2⟩
theorem zeroOk_some {e : TypeId} (h : zeroOk P e = true) : ∃ z,zeroAV P e = some z ∧ z.cellsOf.length = szOf P e:=by
 unfold zeroOk at h
 split at h
 ·rename_i z hz;exact ⟨z,hz,by simpa using h⟩
 ·cases h
theorem appS_sound {o : Oper} {c : Call} {t t2 : TypeId} {k : Nat} {x : Operand} (ho : o.op = .call c) (hb : c.callee = .builtin .append) (ha : c.args = #[.tmp k,x]) (hat : c.argTypes = #[t,t2])
  (h : At g s a w) (hok : (appS P g.n o.dst t t2 k (opd s.t x) s).1 = true) : Does P g a w o (appS P g.n o.dst t t2 k (opd s.t x) s).2:=by
 obtain ⟨⟨m,reg,h1,h2,h3⟩,h4,h5,h6⟩:=h
 have hvx:=opdV h1 x
 have hexec : ∀ (v : Value) (w' : World),(Builtin.append_ #[t,t2] o.type #[a.tmps.getD k undef,a.eval x]).run P w = .ok v w' → (execOp a.eval o).run P w = .ok (.value v) w':=by
  intro v w' hr
  unfold execOp
  rw [ho]
  simp only
  unfold resolve
  simp only [hb,ha,hat]
  rw [srun_bind_ok (srun_pure _)]
  simp only [invoke,builtin,List.map_toArray,List.map_cons,List.map_nil]
  show Sem.run P (do pure (Next.value (← Builtin.append_ #[t,t2] o.type #[a.tmps.getD k undef,a.eval x]))) w = _
  rw [srun_bind_ok hr];rfl
 have hty : ∀ ty,(Builtin.append_ #[t,t2] ty #[a.tmps.getD k undef,a.eval x]).run P w = (Builtin.append_ #[t,t2] t #[a.tmps.getD k undef,a.eval x]).run P w:=fun _=>rfl
 unfold appS at hok ⊢
 split at hok
 ·rename_i e d ht hd
  split at hok
  ·rename_i nr hnr
   obtain ⟨bd,cap2,hex,hnmax,rn,new,hnew,hnl,hnv0⟩:=rowsG_src (P:=P) h1.ob hnr hvx
   have hnv : ∀ (r : Nat) row (c : Nat) av,nr[r]? = some row → row[c]? = some av → ∃ v,new[r * szOf P e + c]? = some v ∧ Value.flat v = true ∧ V w (YS g.Z m reg s.o) [] av v:=by
    intro r row c av hr hc
    obtain ⟨v,q1,q2,_,q3⟩:=hnv0 r row c av hr hc
    exact ⟨v,q1,q2,q3 rfl⟩
   have hnfl : ∀ v ∈ new,Value.flat v = true:=by
    intro v hv
    obtain ⟨i,hi⟩:=List.getElem?_of_mem hv
    have hlt:=(List.getElem?_eq_some_iff.1 hi).1
    rw [hnl] at hlt
    have hpos : 0 < szOf P e:=by
     rcases Nat.eq_zero_or_pos (szOf P e) with h0 | h0
     ·rw [h0] at hlt;simp at hlt
     ·exact h0
    have hr' : i / szOf P e < nr.length:=by rw [Nat.div_lt_iff_lt_mul hpos];exact hlt
    have q1:=rn (i / szOf P e) _ (List.getElem?_eq_getElem hr')
    obtain ⟨v',q3,q4,_⟩:=hnv (i / szOf P e) _ (i % szOf P e) _ (List.getElem?_eq_getElem hr') (List.getElem?_eq_getElem (by rw [q1];exact Nat.mod_lt _ hpos))
    rw [Nat.mul_comm,Nat.div_add_mod,hi] at q3
    rw [Option.some.inj q3];exact q4
   have nilc : ∀ {ad : Option Addr},a.tmps.getD k undef = .slice ad 0 0 → (decide (d < g.n) && decide (k < g.n) && ukOf P t2 == .slice e && decide (nr.length * P.bytesOf e ≤ 140737488355328) && decide (nr.length ≤ 9223372036854775807) && zeroOk P e && decide (0 < szOf P e) && decide (0 < P.bytesOf e)) = true →
     Does P g a w o { s with t:=upd s.t d (.own (szOf P e) nr) }:=by
    intro ad huk hok
    simp only [Bool.and_eq_true,decide_eq_true_eq,beq_iff_eq] at hok
    obtain ⟨⟨⟨⟨⟨⟨⟨q1,q2⟩,q5⟩,q6⟩,q7⟩,q8⟩,q9⟩,q10⟩:=hok
    obtain ⟨z,hz,hzl⟩:=zeroOk_some q8
    obtain ⟨zv,hz1,hz2,hz3⟩:=zero_cells hz
    obtain ⟨i,zv',hi,hiz,_⟩:=zeroAV_info hz
    have hzs : zv.cells.size = szOf P e:=by rw [← hzl,hz2];simp
    show Does P g a w o { s with t:=upd s.t d (.own (szOf P e) nr) }
    by_cases hnil : nr = []
    ·subst hnil
     refine .inl ⟨.slice ad 0 0,w,hexec _ _ (by rw [hty,huk,hex];exact run_append_same ht q5 hi (Nat.le_refl _)),?_⟩
     rw [hd]
     exact At.put (d:=some d) (av:=.own (szOf P e) []) h1 h2 h3 h4 h5 h6 (by simpa [dstOk] using q1) (by simp only [V];exact ⟨ad,0,rfl,Nat.le_refl _,Nat.zero_le _,.inl trivial⟩) (.inr ⟨_,[],ad,rfl,rfl⟩)
    ·have hpos : 0 < nr.length:=List.length_pos_iff.2 hnil
     obtain ⟨nc,n1,n2,hrun⟩:=run_append_grow (P:=P) (w:=w) (z:=z) (ad:=ad) (n:=0) (cap:=0) (old:=[]) ht q5 hi hz1 (by omega) (by rw [Nat.zero_add];exact q6) q10 (fun w' _=>by
      cases ad with
      | none=>rfl
      | some ad=>simp [Builtin.firstCells,loadCells,loadCellsFrom,srun_pure]) hnew
     have hzc : (Builtin.zeroCells zv.cells (nc - (0 + nr.length))).toList.length = (nc - (([] : List (List AV)).length + nr.length)) * szOf P e:=by rw [Array.length_toList,zc_size,hzs];rfl
     have hfr:=app_fresh (hdr:=Nat.le_succ _) (e:=e) h1 (d:=d) (rows:=[]) (old:=[]) (dr:=w.drawn + 1) n1 n2 (by simp) hnl hzc (by simp) rn (by simp) hnv
     have earr : ([] ++ new ++ (Builtin.zeroCells zv.cells (nc - (0 + nr.length))).toList).toArray = ([] : List Value).toArray ++ new.toArray ++ Builtin.zeroCells zv.cells (nc - (0 + nr.length)):=by
      apply Array.ext';simp
     rw [earr] at hfr
     refine .inl ⟨_,_,hexec _ _ (by rw [hty,huk,hex];exact hrun),?_⟩
     rw [hd]
     have hG : Grow w { w with drawn:=w.drawn + 1,heap:=w.heap.push (.cells (([] : List Value).toArray ++ new.toArray ++ Builtin.zeroCells zv.cells (nc - (0 + nr.length))) e (0,0)) } :=
      (Grow.draw w (w.drawn + 1) (Nat.le_succ _)).trans (Grow.push _ _)
     refine At.mk' (m:=m) (reg:=fun p=>if p = .t d then some ⟨w.heap.size,([] ++ nr).length * szOf P e⟩ else reg p) ?_ ?_ h3 (h4.trans (hG.evol (fun _ _=>False)) (fun _ _ h=>h.elim)) (by rw [put_size,h5]) (by rw [put_defers,h6])
     ·rw [put_of_upd h5 q1]
      exact hfr
     ·rintro b y (kx | ⟨p,r,e1,e2⟩)
      ·exact h2 b y (.inl kx)
      ·simp only at e1
       split at e1
       ·obtain rfl:=Option.some.inj e1
        right;have:=h4.size;have:=e2.1;simp only at this;omega
       ·exact h2 b y (.inr ⟨p,r,e1,e2⟩)
   split at hok
   ·rename_i sz rows hk
    simp only [Bool.and_eq_true,decide_eq_true_eq,beq_iff_eq] at hok
    obtain ⟨⟨⟨⟨⟨⟨⟨⟨⟨q1,q2⟩,q3⟩,q4⟩,q5⟩,q6⟩,q7⟩,q8⟩,q9⟩,q10⟩:=hok
    subst q4
    obtain ⟨z,hz,hzl⟩:=zeroOk_some q8
    obtain ⟨zv,hz1,hz2,hz3⟩:=zero_cells hz
    obtain ⟨i,zv',hi,hiz,_⟩:=zeroAV_info hz
    have hzs : zv.cells.size = szOf P e:=by rw [← hzl,hz2];simp
    have hvk:=h1.tv k
    rw [hk] at hvk
    have hvk0:=hvk
    simp only [V] at hvk0
    obtain ⟨ad,cap,huk,hc1,hc2,hrs⟩:=hvk0
    have huk' : a.tmps.getD k undef = .slice ad rows.length cap:=huk
    show Does P g a w o { s with t:=upd (upd s.t k (s.t k).dat) d (.own (szOf P e) (rows ++ nr)) }
    rw [hk]
    by_cases hfit : rows.length + nr.length ≤ cap
    ·by_cases hnil : nr = []
     ·subst hnil
      have hmv:=h1.move k d q3
      rw [hk] at hmv
      refine .inl ⟨.slice ad rows.length cap,w,hexec _ _ (by rw [hty,huk',hex];exact run_append_same ht q5 hi hc1),?_⟩
      rw [hd]
      refine At.mk' (m:=m) (reg:=fun p=>if p = .t d then reg (.t k) else if p = .t k then none else reg p) ?_ ?_ h3 h4 (by rw [put_size,h5]) (by rw [put_defers,h6])
      ·rw [put_of_upd h5 q1]
       rw [List.append_nil,← huk']
       exact hmv
      ·refine fun b x kx=>h2 b x (XS_drop (reg:=reg) (fun p r hp=>?_) b x kx)
       split at hp
       ·exact ⟨_,hp⟩
       ·split at hp
        ·simp at hp
        ·exact ⟨_,hp⟩
     ·obtain ⟨blk,off,reg',e1,r1,r2,⟨cc,ty,hblk,hcs⟩,r3⟩:=h1.appendIn (d:=d) hk huk' hfit hnil hnl rn hnv
      subst e1
      refine .inl ⟨_,_,hexec _ _ (by rw [hty,huk',hex];exact run_append_in ht q5 hi hfit (hnew w (Grow.refl w)) hnl hblk hcs hnfl),?_⟩
      rw [hd]
      refine At.mk' (m:=m) (reg:=reg') ?_ (fun b x kx=>h2 b x (r3 b x kx)) h3 (h4.trans r2 h2) (by rw [put_size,h5]) (by rw [put_defers,h6])
      rw [put_of_upd h5 q1]
      rw [hk] at r1
      exact r1
    ·-- the row moves
     have h1':=h1.put k (av:=.sl (szOf P e) rows) (v:=a.tmps.getD k undef) (by simpa only [V] using hvk) (.inl rfl)
     have eu : upd (fun j=>a.tmps.getD j undef) k (a.tmps.getD k undef) = fun j=>a.tmps.getD j undef:=upd_self (fun j=>a.tmps.getD j undef) k
     rw [eu] at h1'
     have hsub : ∀ b x,XS m (fun p=>if p = .t k then none else reg p) s.o b x → XS m reg s.o b x:=XS_drop fun p r hp=>by
      split at hp
      ·simp at hp
      ·exact ⟨_,hp⟩
     obtain ⟨old,hold,hol,hov⟩:=Grow.firstCells (P:=P) (cap:=cap) hrs
     obtain ⟨nc,n1,n2,hrun⟩:=run_append_grow (P:=P) (w:=w) (z:=z) ht q5 hi hz1 (by omega) q6 q10 hold hnew
     have ro : ∀ (r : Nat) row,rows[r]? = some row → row.length = szOf P e:=by
      intro r row hr
      rcases hrs with rfl | ⟨b1,o1,_,h9⟩
      ·simp at hr
      ·exact (h9.get r row hr).1
     have Kb : ∀ {av : AV} {v : Value},V w (YS g.Z m reg s.o) [] av v → V w (YS g.Z m (fun p=>if p = .t k then none else reg p) s.o) [] av v:=fun hh =>
      V.keep (Keeps.sub [] fun b x kx=>kx.imp (hsub b x) (fun h=>h)) _ _ hh
     have hzc : (Builtin.zeroCells zv.cells (nc - (rows.length + nr.length))).toList.length = (nc - (rows.length + nr.length)) * szOf P e:=by rw [Array.length_toList,zc_size,hzs]
     have hfr:=app_fresh (hdr:=Nat.le_succ _) (e:=e) h1' (d:=d) (dr:=w.drawn + 1) n1 n2 hol hnl hzc ro rn (fun r row c av hr hc=>by obtain ⟨v,p1,p2,p3⟩:=hov r row c av hr hc;exact ⟨v,p1,p2,Kb p3⟩)
      (fun r row c av hr hc=>by obtain ⟨v,p1,p2,p3⟩:=hnv r row c av hr hc;exact ⟨v,p1,p2,Kb p3⟩)
     have earr : (old ++ new ++ (Builtin.zeroCells zv.cells (nc - (rows.length + nr.length))).toList).toArray = old.toArray ++ new.toArray ++ Builtin.zeroCells zv.cells (nc - (rows.length + nr.length)):=by
      apply Array.ext';simp
     rw [earr] at hfr
     refine .inl ⟨_,_,hexec _ _ (by rw [hty,huk',hex];exact hrun),?_⟩
     rw [hd]
     have hG : Grow w { w with drawn:=w.drawn + 1,heap:=w.heap.push (.cells (old.toArray ++ new.toArray ++ Builtin.zeroCells zv.cells (nc - (rows.length + nr.length))) e (0,0)) } :=
      (Grow.draw w (w.drawn + 1) (Nat.le_succ _)).trans (Grow.push _ _)
     refine At.mk' (m:=m) (reg:=fun p=>if p = .t d then some ⟨w.heap.size,(rows ++ nr).length * szOf P e⟩ else if p = .t k then none else reg p) ?_ ?_ h3 (h4.trans (hG.evol (fun _ _=>False)) (fun _ _ h=>h.elim)) (by rw [put_size,h5]) (by rw [put_defers,h6])
     ·rw [put_of_upd h5 q1]
      exact hfr
     ·rintro b y (kx | ⟨p,r,e1,e2⟩)
      ·exact h2 b y (.inl kx)
      ·simp only at e1
       split at e1
       ·obtain rfl:=Option.some.inj e1
        right;have:=h4.size;have:=e2.1;simp only at this;omega
       ·split at e1
        ·simp at e1
        ·exact h2 b y (.inr ⟨p,r,e1,e2⟩)
   ·rename_i hk
    have huk : a.tmps.getD k undef = .slice none 0 0:=by
     have:=h1.tv k
     rw [hk] at this
     simpa only [V] using this
    exact nilc huk hok
   ·rename_i hk
    have huk : ∃ ad,a.tmps.getD k undef = .slice (some ad) 0 0:=by
     have:=h1.tv k
     rw [hk] at this
     simpa only [V] using this
    obtain ⟨ad,huk⟩:=huk
    exact nilc huk hok
   ·simp [SR.no] at hok
  ·simp [SR.no] at hok
 ·simp [SR.no] at hok
end
end Go.AW
namespace Go.AW
open Go
set_option linter.unusedSimpArgs false
set_option linter.unusedVariables false
def regDrop (reg : Pl → Option Reg) (id n : Nat) : Pl → Option Reg
 | .o j r c=>if j = id ∨ j = n then none else reg (.o j r c)
 | .t k=>reg (.t k)
section
variable {w : World} {Z : CS} {m : List MB} {reg : Pl → Option Reg} {t : Nat → AV} {u : Nat → Value} {o : List Ob}
theorem Rel.objPut (h : Rel w Z m reg t u o) {id : Nat} {x0 : Ob} {mb : MB} (ho : o[id]? = some x0) (hl0 : x0.live) (hm : m[id]? = some mb) {w' : World} (hos : w'.os = w.os) (htp : w'.tape = w.tape) (hout : w'.output = w.output) (hdr : w.drawn ≤ w'.drawn)
  (hsz : w'.heap.size = w.heap.size) (hot : ∀ b,b ≠ mb.blk → w'.heap[b]? = w.heap[b]?) (x1 : Ob) (hl1 : x1.live) (mb1 : MB) (hb1 : mb1.blk = mb.blk)
  (hob : ∀ (Y' : CS),Keeps w (YS Z m reg o) m w' Y' (m ++ [mb1]) → ObR w' Y' (m ++ [mb1]) mb1 x1) (hno : ∀ r c sz rows,leaf t [x1] (.o 0 r c) ≠ some (.own sz rows)) :
  Rel w' Z (m ++ [mb1]) (regDrop reg id o.length) t u (o.set id .dead ++ [x1]) ∧ Evol w (XS m reg o) w' ∧ (∀ b x,XS (m ++ [mb1]) (regDrop reg id o.length) (o.set id .dead ++ [x1]) b x → XS m reg o b x):=by
 have hlt : id < o.length:=(List.getElem?_eq_some_iff.1 ho).1
 have hsub : ∀ p rg,regDrop reg id o.length p = some rg → reg p = some rg:=by
  intro p rg hp
  cases p with
  | t k=>exact hp
  | o j r c =>
   simp only [regDrop] at hp
   split at hp
   ·cases hp
   ·exact hp
 have og : ∀ {j : Nat} {x : Ob},(o.set id .dead ++ [x1])[j]? = some x → (j = o.length ∧ x = x1) ∨ (j = id ∧ x = .dead) ∨ (j ≠ id ∧ j < o.length ∧ o[j]? = some x):=by
  intro j x hj
  rw [append_get] at hj
  simp only [List.length_set] at hj
  split at hj
  ·rename_i e;exact .inl ⟨e,(Option.some.inj hj).symm⟩
  ·rw [set_get ho] at hj
   split at hj
   ·rename_i e;exact .inr (.inl ⟨e,(Option.some.inj hj).symm⟩)
   ·rename_i e;exact .inr (.inr ⟨e,(List.getElem?_eq_some_iff.1 hj).1,hj⟩)
 have mg : ∀ {j : Nat} {x : MB},j < o.length → (m ++ [mb1])[j]? = some x → m[j]? = some x:=by
  intro j x hj hm
  rw [append_get,h.len,if_neg (by omega)] at hm;exact hm
 have mn : (m ++ [mb1])[o.length]? = some mb1:=by rw [append_get,h.len,if_pos rfl]
 have hXb : ∀ y,XS m reg o mb.blk y:=fun y=>.inl ⟨id,_,mb,ho,hl0,hm,rfl⟩
 have hX : ∀ b y,XS (m ++ [mb1]) (regDrop reg id o.length) (o.set id .dead ++ [x1]) b y → XS m reg o b y:=by
  rintro b y (⟨j,ob,mb',h1,h2,h3,h4⟩ | ⟨p,rg,h1,h2⟩)
  ·rcases og h1 with ⟨rfl,rfl⟩ | ⟨rfl,rfl⟩ | ⟨_,hj,h1⟩
   ·rw [mn] at h3
    obtain rfl:=Option.some.inj h3
    rw [← h4,hb1];exact hXb y
   ·exact h2.elim
   ·exact .inl ⟨j,ob,mb',h1,h2,mg hj h3,h4⟩
  ·exact .inr ⟨p,rg,hsub p rg h1,h2⟩
 have hE : Evol w (XS m reg o) w':=by
  refine ⟨hos,htp,hout,hdr,by rw [hsz];exact Nat.le_refl _,fun b _ hb=>hot b (fun e=>hb 0 (e ▸ hXb 0)),fun b x v hb hc=>?_⟩
  have : b ≠ mb.blk:=fun e=>hb (e ▸ hXb x)
  unfold World.cell? at hc ⊢
  rw [hot b this];exact hc
 have hmm : ∀ (j : Nat) x,m[j]? = some x → (m ++ [mb1])[j]? = some x:=fun j x hj=>by
  rw [append_get,if_neg (by have:=(List.getElem?_eq_some_iff.1 hj).1;omega)];exact hj
 have K : Keeps w (YS Z m reg o) m w' (YS Z (m ++ [mb1]) (regDrop reg id o.length) (o.set id .dead ++ [x1])) (m ++ [mb1]) :=
  ⟨fun b x v hc hy=>⟨hE.cell b x v (fun k=>hy (.inl k)) hc,fun k=>hy (k.imp (hX b x) (fun h=>h))⟩,hmm⟩
 have hblk : ∀ {j : Nat} {x : Ob} {mb' : MB},j ≠ id → o[j]? = some x → x.live → m[j]? = some mb' → mb'.blk ≠ mb.blk:=fun hj hx hl hmj e=>hj (h.inj _ _ _ _ _ _ hx ho hl hl0 hmj hm e)
 refine ⟨?_,hE,hX⟩
 refine ⟨by simp [h.len],fun k=>V.keep K _ _ (h.tv k),?_,?_,fun p rg hp=>by rw [hsz];exact h.rok p rg (hsub p rg hp),?_,fun p q r s hpq hp hq=>h.rdj p q r s hpq (hsub p r hp) (hsub q s hq),?_,fun b y hz hy=>h.zx b y hz (hX b y hy),fun b y hz=>by rw [hsz];exact h.zs b y hz⟩
 ·intro j ob mb' hoj hmj
  rcases og hoj with ⟨rfl,rfl⟩ | ⟨rfl,rfl⟩ | ⟨hne,hj,h1⟩
  ·rw [mn] at hmj
   obtain rfl:=Option.some.inj hmj
   exact hob _ K
  ·trivial
  ·exact Ob.keep K ob (fun hl=>hot _ (hblk hne h1 hl (mg hj hmj))) (h.ob j ob mb' h1 (mg hj hmj))
 ·intro i j x y a b hi hj lx ly ha hb e
  rcases og hi with ⟨rfl,rfl⟩ | ⟨rfl,rfl⟩ | ⟨n1,l1,g1⟩
  ·rw [mn] at ha
   obtain rfl:=Option.some.inj ha
   rcases og hj with ⟨rfl,rfl⟩ | ⟨rfl,rfl⟩ | ⟨n2,l2,g2⟩
   ·rfl
   ·exact ly.elim
   ·exact (hblk n2 g2 ly (mg l2 hb) (by rw [← e,hb1])).elim
  ·exact lx.elim
  ·rcases og hj with ⟨rfl,rfl⟩ | ⟨rfl,rfl⟩ | ⟨n2,l2,g2⟩
   ·rw [mn] at hb
    obtain rfl:=Option.some.inj hb
    exact (hblk n1 g1 lx (mg l1 ha) (by rw [e,hb1])).elim
   ·exact ly.elim
   ·exact h.inj i j x y a b g1 g2 lx ly (mg l1 ha) (mg l2 hb) e
 ·intro p rg j x mb' hp hj hl hmj
  rcases og hj with ⟨rfl,rfl⟩ | ⟨rfl,rfl⟩ | ⟨n1,l1,g1⟩
  ·rw [mn] at hmj
   obtain rfl:=Option.some.inj hmj
   rw [hb1];exact h.rob p rg id _ mb (hsub p rg hp) ho hl0 hm
  ·exact hl.elim
  ·exact h.rob p rg j x mb' (hsub p rg hp) g1 hl (mg l1 hmj)
 ·intro p sz' rows' v hlf hv
  have oa : ∀ {p : Pl} {n : Nat} {v : Value},OwnAt w (reg p) sz' n v → (∀ r,reg p = some r → r.blk ≠ mb.blk) → OwnAt w' (reg p) sz' n v:=by
   rintro p n v ⟨a,cap',h1,h2⟩ hr
   refine ⟨a,cap',h1,fun hn=>?_⟩
   obtain ⟨blk',off',lo',c1,e1,q1,q2,q3,q4,q5⟩:=h2 hn
   refine ⟨blk',off',lo',c1,e1,q1,q2,q3,?_,q5⟩
   rw [hot _ (hr _ q2)];exact q4
  have hrb : ∀ {p : Pl} r,reg p = some r → r.blk ≠ mb.blk:=fun r hr e=>h.rob _ r id _ mb hr ho hl0 hm e.symm
  cases p with
  | t k=>exact oa (h.own (.t k) sz' rows' v hlf hv) (fun r hr=>hrb r hr)
  | o j r c =>
   simp only [leaf] at hlf
   cases hoj : (o.set id .dead ++ [x1])[j]? with
   | none=>rw [hoj] at hlf;simp at hlf
   | some x =>
    rw [hoj] at hlf
    rcases og hoj with ⟨rfl,rfl⟩ | ⟨rfl,rfl⟩ | ⟨n1,l1,g1⟩
    ·exact (hno r c sz' rows' (by simp only [leaf,List.getElem?_cons_zero];exact hlf)).elim
    ·simp at hlf
    ·have hreg : regDrop reg id o.length (.o j r c) = reg (.o j r c):=by simp only [regDrop];rw [if_neg (by rintro (e | e)<;>omega)]
     rw [hreg]
     have hleaf : leaf t o (.o j r c) = some (.own sz' rows'):=by simp only [leaf,g1];exact hlf
     refine oa (h.own _ sz' rows' v hleaf ?_) (fun r hr=>hrb r hr)
     have hlive : x.live:=by
      cases x with
      | cells=>trivial
      | mapo=>trivial
      | _=>simp at hlf
     obtain ⟨mb',hmb'⟩:=h.mget g1
     simp only [valAt] at hv ⊢
     rw [hmm j _ hmb'] at hv
     rw [hmb']
     simp only [Option.bind_some] at hv ⊢
     unfold World.cell? at hv ⊢
     rw [hot _ (hblk n1 g1 hlive hmb')] at hv
     exact hv
theorem Rel.kill (h : Rel w Z m reg t u o) {id : Nat} (hid : id < o.length) : ∃ reg',Rel w Z m reg' t u (o.set id .dead) ∧ ∀ b x,XS m reg' (o.set id .dead) b x → XS m reg o b x:=by
 have ho : o[id]? = some o[id]:=List.getElem?_eq_getElem hid
 have hsub : ∀ p rg,regDrop reg id o.length p = some rg → reg p = some rg:=by
  intro p rg hp
  cases p with
  | t k=>exact hp
  | o j r c =>
   simp only [regDrop] at hp
   split at hp
   ·cases hp
   ·exact hp
 have og : ∀ {j : Nat} {x : Ob},(o.set id .dead)[j]? = some x → (j = id ∧ x = .dead) ∨ (j ≠ id ∧ o[j]? = some x):=by
  intro j x hj
  rw [set_get ho] at hj
  split at hj
  ·rename_i e;exact .inl ⟨e,(Option.some.inj hj).symm⟩
  ·rename_i e;exact .inr ⟨e,hj⟩
 have hX : ∀ b y,XS m (regDrop reg id o.length) (o.set id .dead) b y → XS m reg o b y:=by
  rintro b y (⟨j,ob,mb',h1,h2,h3,h4⟩ | ⟨p,rg,h1,h2⟩)
  ·rcases og h1 with ⟨rfl,rfl⟩ | ⟨_,h1⟩
   ·exact h2.elim
   ·exact .inl ⟨j,ob,mb',h1,h2,h3,h4⟩
  ·exact .inr ⟨p,rg,hsub p rg h1,h2⟩
 have K : Keeps w (YS Z m reg o) m w (YS Z m (regDrop reg id o.length) (o.set id .dead)) m:=Keeps.sub m fun b y k=>k.imp (hX b y) (fun h=>h)
 refine ⟨_,?_,hX⟩
 refine ⟨by simp [h.len],fun k=>V.keep K _ _ (h.tv k),?_,?_,fun p rg hp=>h.rok p rg (hsub p rg hp),?_,fun p q r s hpq hp hq=>h.rdj p q r s hpq (hsub p r hp) (hsub q s hq),?_,fun b y hz hy=>h.zx b y hz (hX b y hy),h.zs⟩
 ·intro j ob mb' hoj hmj
  rcases og hoj with ⟨rfl,rfl⟩ | ⟨_,h1⟩
  ·trivial
  ·exact Ob.keep K ob (fun _=>rfl) (h.ob j ob mb' h1 hmj)
 ·intro i j x y a b hi hj lx ly ha hb e
  rcases og hi with ⟨rfl,rfl⟩ | ⟨_,g1⟩
  ·exact lx.elim
  ·rcases og hj with ⟨rfl,rfl⟩ | ⟨_,g2⟩
   ·exact ly.elim
   ·exact h.inj i j x y a b g1 g2 lx ly ha hb e
 ·intro p rg j x mb' hp hj hl hmj
  rcases og hj with ⟨rfl,rfl⟩ | ⟨_,g1⟩
  ·exact hl.elim
  ·exact h.rob p rg j x mb' (hsub p rg hp) g1 hl hmj
 ·intro p sz' rows' v hlf hv
  cases p with
  | t k=>exact h.own (.t k) sz' rows' v hlf hv
  | o j r c =>
   simp only [leaf] at hlf
   cases hoj : (o.set id .dead)[j]? with
   | none=>rw [hoj] at hlf;simp at hlf
   | some x =>
    rw [hoj] at hlf
    rcases og hoj with ⟨rfl,rfl⟩ | ⟨n1,g1⟩
    ·simp at hlf
    ·have hreg : regDrop reg id o.length (.o j r c) = reg (.o j r c):=by
      have:=(List.getElem?_eq_some_iff.1 g1).1
      simp only [regDrop];rw [if_neg (by rintro (e | e)<;>omega)]
     rw [hreg]
     exact h.own (.o j r c) sz' rows' v (by simp only [leaf,g1];exact hlf) hv
end
end Go.AW
namespace Go.AW
open Go
set_option linter.unusedSimpArgs false
set_option linter.unusedVariables false
theorem all_get {rows : List (List AV)} {p : AV → Bool} (h : (rows.all fun r=>r.all p) = true) {r c : Nat} {row : List AV} {av : AV} (hr : rows[r]? = some row) (hc : row[c]? = some av) : p av = true :=
 List.all_eq_true.1 (List.all_eq_true.1 h row (List.mem_of_getElem? hr)) av (List.mem_of_getElem? hc)
section
variable {P : Program} {g : G} {s : St} {a : Act} {w : World}
theorem At.freshO {m : List MB} {reg : Pl → Option Reg} {o1 : List Ob} (h1 : Rel w g.Z m reg s.t (fun k=>a.tmps.getD k undef) o1)
  (h2 : ∀ b x,XS m reg o1 b x → g.X b x ∨ g.w.heap.size ≤ b) (h3 : ∀ (id : Nat) mb,g.m[id]? = some mb → m[id]? = some mb) (h4 : Evol g.w g.X w) (h5 : a.tmps.size = g.n) (h6 : a.defers = g.ds)
  {d sz nc dr : Nat} {e : TypeId} {R : List (List AV)} {cs : Array Value} (hd : d < g.n) (hcs : nc * sz ≤ cs.size) (hR : R.length ≤ nc) (hmax : nc ≤ maxLen) (hrl : ∀ (r : Nat) row,R[r]? = some row → row.length = sz)
  (hv : ∀ (r : Nat) row (c : Nat) av,R[r]? = some row → row[c]? = some av → ∃ v,cs[r * sz + c]? = some v ∧ V w (YS g.Z m reg o1) m av v) (hno : (R.all fun r=>r.all fun c=>!c.isOwn) = true) (hdr : w.drawn ≤ dr) :
  At g ⟨upd s.t d (.ref o1.length 0 R.length),o1 ++ [.cells sz R]⟩ (a.put (some d) (.slice (some ⟨w.heap.size,0,none⟩) R.length nc)) { w with drawn:=dr,heap:=w.heap.push (.cells cs e (0,0)) }:=by
 have hG:=Grow.draw w dr hdr
 have h1':=h1.grow hG
 have hn:=h1'.new (.cells cs e (0,0)) (.cells sz R) sz nc trivial (by
  intro w' Y' m' hw' K
  subst hw'
  refine ⟨rfl,⟨cs,e,by rw [push_get,if_pos rfl],by simpa using hcs,hR⟩,hrl,fun r row c av hr hc=>?_⟩
  obtain ⟨v,q1,q2⟩:=hv r row c av hr hc
  refine ⟨v,?_,V.keep K _ _ (V.keep ⟨fun b x v hc hy=>⟨hG.cell hc,hy⟩,fun _ _ h=>h⟩ _ _ q2)⟩
  rw [cell_cells (by rw [push_get,if_pos rfl]),Nat.zero_add]
  exact q1) (by
  intro r c sz' rows hl
  simp only [leaf,List.getElem?_cons_zero] at hl
  cases hr : R[r]? with
  | none=>simp [hr] at hl
  | some row =>
   simp only [hr,Option.bind_some] at hl
   have:=all_get hno hr hl
   simp [AV.isOwn] at this)
 have:=At.new (s:=⟨s.t,o1⟩) (a:=a) h1' h2 h3 (h4.trans (hG.evol (fun _ _=>False)) (fun _ _ h=>h.elim)) h5 h6 hn (d:=some d) (av:=.ref o1.length 0 R.length) (v:=.slice (some ⟨w.heap.size,0,none⟩) R.length nc) (by simpa [dstOk] using hd) (by
  simp only [V]
  exact ⟨⟨w.heap.size,0,sz,nc⟩,some ⟨w.heap.size,0,none⟩,nc,by rw [append_get,h1.len,if_pos rfl],rfl,hR,hmax,.inr (by simp)⟩) (.inl rfl)
 exact this
theorem appOS_sound {o : Oper} {c : Call} {t t2 : TypeId} {k : Nat} {x : Operand} (ho : o.op = .call c) (hb : c.callee = .builtin .append) (ha : c.args = #[.tmp k,x]) (hat : c.argTypes = #[t,t2])
  (h : At g s a w) (hok : (appOS P g.n o.dst t t2 k (opd s.t x) s).1 = true) : Does P g a w o (appOS P g.n o.dst t t2 k (opd s.t x) s).2:=by
 obtain ⟨⟨m,reg,h1,h2,h3⟩,h4,h5,h6⟩:=h
 have hvx:=opdV h1 x
 have hexec : ∀ (v : Value) (w' : World),(Builtin.append_ #[t,t2] o.type #[a.tmps.getD k undef,a.eval x]).run P w = .ok v w' → (execOp a.eval o).run P w = .ok (.value v) w':=by
  intro v w' hr
  unfold execOp
  rw [ho]
  simp only
  unfold resolve
  simp only [hb,ha,hat]
  rw [srun_bind_ok (srun_pure _)]
  simp only [invoke,builtin,List.map_toArray,List.map_cons,List.map_nil]
  show Sem.run P (do pure (Next.value (← Builtin.append_ #[t,t2] o.type #[a.tmps.getD k undef,a.eval x]))) w = _
  rw [srun_bind_ok hr];rfl
 have hty : ∀ ty,(Builtin.append_ #[t,t2] ty #[a.tmps.getD k undef,a.eval x]).run P w = (Builtin.append_ #[t,t2] t #[a.tmps.getD k undef,a.eval x]).run P w:=fun _=>rfl
 unfold appOS at hok ⊢
 split at hok
 ·rename_i e d ht hd
  split at hok
  ·rename_i nr hnr
   obtain ⟨bd,cap2,hex,hnmax,rn,new,hnew,hnl,hnv⟩:=rowsG_src (P:=P) h1.ob hnr hvx
   -- the rows that come bear no rights
   have hnfl : 0 < szOf P e → ∀ v ∈ new,Value.flat v = true:=by
    intro hpos v hv
    obtain ⟨i,hi⟩:=List.getElem?_of_mem hv
    have hlt:=(List.getElem?_eq_some_iff.1 hi).1
    rw [hnl] at hlt
    have hr' : i / szOf P e < nr.length:=by rw [Nat.div_lt_iff_lt_mul hpos];exact hlt
    have q1:=rn (i / szOf P e) _ (List.getElem?_eq_getElem hr')
    obtain ⟨v',q3,q4,_⟩:=hnv (i / szOf P e) _ (i % szOf P e) _ (List.getElem?_eq_getElem hr') (List.getElem?_eq_getElem (by rw [q1];exact Nat.mod_lt _ hpos))
    rw [Nat.mul_comm,Nat.div_add_mod,hi] at q3
    rw [Option.some.inj q3];exact q4
   -- a fresh row
   have fresh : ∀ {o1 : List Ob} {reg1 : Pl → Option Reg} {ad : Option Addr} {rows : List (List AV)} {old : List Value} {cap : Nat},Rel w g.Z m reg1 s.t (fun k=>a.tmps.getD k undef) o1 → (∀ b x,XS m reg1 o1 b x → XS m reg s.o b x) →
     a.tmps.getD k undef = .slice ad rows.length cap → cap < rows.length + nr.length → (∀ w' : World,Grow w w' → (Builtin.firstCells (szOf P e) rows.length (.slice ad rows.length cap)).run P w' = .ok old.toArray w') → old.length = rows.length * szOf P e →
     (∀ (r : Nat) row,rows[r]? = some row → row.length = szOf P e) → (∀ (r : Nat) row (c : Nat) av,rows[r]? = some row → row[c]? = some av → ∃ v,old[r * szOf P e + c]? = some v ∧ V w (YS g.Z m reg s.o) m av v) →
     ((rows ++ nr).all fun r=>r.all fun c=>!c.isOwn) = true → ukOf P t2 = .slice e → (rows.length + nr.length) * P.bytesOf e ≤ 140737488355328 → zeroOk P e = true → 0 < P.bytesOf e → d < g.n →
     Does P g a w o ⟨upd s.t d (.ref o1.length 0 (rows.length + nr.length)),o1 ++ [.cells (szOf P e) (rows ++ nr)]⟩:=by
    intro o1 reg1 ad rows old cap hr1 hx1 huk hgrow hold hol ro hov hno q5 q6 q8 q10 q1
    obtain ⟨z,hz,hzl⟩:=zeroOk_some q8
    obtain ⟨zv,hz1,hz2,hz3⟩:=zero_cells hz
    obtain ⟨i,zv',hi,hiz,_⟩:=zeroAV_info hz
    have hzs : zv.cells.size = szOf P e:=by rw [← hzl,hz2];simp
    obtain ⟨nc,n1,n2,hrun⟩:=run_append_grow (P:=P) (w:=w) (z:=z) ht q5 hi hz1 hgrow q6 q10 hold hnew
    refine .inl ⟨_,_,hexec _ _ (by rw [hty,huk,hex];exact hrun),?_⟩
    rw [hd]
    have hRl : (rows ++ nr).length = rows.length + nr.length:=List.length_append
    rw [← hRl]
    have Kx : Keeps w (YS g.Z m reg s.o) m w (YS g.Z m reg1 o1) m:=Keeps.sub m fun b y kx=>kx.imp (hx1 b y) (fun h=>h)
    refine At.freshO (hdr:=Nat.le_succ _) hr1 (fun b x kx=>h2 b x (hx1 b x kx)) h3 h4 h5 h6 q1 ?_ (by rw [hRl];exact n1) n2 ?_ ?_ hno
    ·simp only [Array.size_append,List.size_toArray,hol,hnl,zc_size,hzs]
     rw [← Nat.add_mul,← Nat.add_mul]
     exact Nat.mul_le_mul_right _ (by omega)
    ·intro r row hr
     rw [List.getElem?_append] at hr
     split at hr
     ·exact ro r row hr
     ·exact rn _ row hr
    ·intro r row c av hr hc
     rw [List.getElem?_append] at hr
     split at hr
     ·obtain ⟨v,p1,p2⟩:=hov r row c av hr hc
      refine ⟨v,?_,V.keep Kx _ _ p2⟩
      have:=(List.getElem?_eq_some_iff.1 p1).1
      rw [Array.getElem?_append_left (by simp;omega),Array.getElem?_append_left (by simpa using this)]
      simpa using p1
     ·rename_i hge
      obtain ⟨v,p1,_,p2,_⟩:=hnv _ row c av hr hc
      refine ⟨v,?_,V.keep Kx _ _ p2⟩
      have:=(List.getElem?_eq_some_iff.1 p1).1
      have e1 : r * szOf P e = rows.length * szOf P e + (r - rows.length) * szOf P e:=by rw [← Nat.add_mul,show rows.length + (r - rows.length) = r by omega]
      rw [Array.getElem?_append_left (by simp;omega),Array.getElem?_append_right (by simp;omega)]
      simp only [List.size_toArray,List.getElem?_toArray]
      rw [hol,show r * szOf P e + c - rows.length * szOf P e = (r - rows.length) * szOf P e + c by omega]
      exact p1
   have nilc : ∀ {ad : Option Addr},a.tmps.getD k undef = .slice ad 0 0 → (decide (d < g.n) && decide (k < g.n) && ukOf P t2 == .slice e && decide (nr.length * P.bytesOf e ≤ 140737488355328) && decide (nr.length ≤ 9223372036854775807) && zeroOk P e && decide (0 < szOf P e) && decide (0 < P.bytesOf e) && decide (0 < nr.length) && (nr.all fun r=>r.all fun c=>!c.isOwn)) = true →
     Does P g a w o ⟨upd s.t d (.ref s.o.length 0 nr.length),s.o ++ [.cells (szOf P e) nr]⟩:=by
    intro ad huk hok
    rw [Bool.and_eq_true (_ && _)] at hok
    obtain ⟨hok,q9⟩:=hok
    simp only [Bool.and_eq_true,decide_eq_true_eq,beq_iff_eq] at hok
    obtain ⟨⟨⟨⟨⟨⟨⟨⟨q1,q2⟩,q5⟩,q6⟩,q7⟩,q8⟩,q11⟩,q10⟩,q12⟩:=hok
    have:=fresh (rows:=[]) (old:=[]) (cap:=0) h1 (fun _ _ h=>h) huk (by simpa using q12) (fun w' _=>by
     cases ad with
     | none=>rfl
     | some ad=>simp [Builtin.firstCells,loadCells,loadCellsFrom,srun_pure]) (by simp) (by simp) (by simp) (by simpa using q9) q5 (by simpa using q6) q8 q10 q1
    simpa using this
   split at hok
   ·rename_i hk
    have:=h1.tv k
    rw [hk] at this
    simp only [V] at this
    exact nilc this hok
   ·rename_i hk
    have:=h1.tv k
    rw [hk] at this
    simp only [V] at this
    obtain ⟨ad,this⟩:=this
    exact nilc this hok
   ·rename_i id off len hk
    split at hok
    ·rename_i sz rows hid
     rw [Bool.and_eq_true (_ && _)] at hok
     obtain ⟨hok,q14⟩:=hok
     rw [Bool.and_eq_true (_ && _)] at hok
     obtain ⟨hok,q13⟩:=hok
     rw [Bool.and_eq_true (_ && _)] at hok
     obtain ⟨hok,q12⟩:=hok
     simp only [Bool.and_eq_true,decide_eq_true_eq,beq_iff_eq] at hok q13
     obtain ⟨⟨⟨⟨⟨⟨⟨⟨⟨q1,q2⟩,q4⟩,q5⟩,q6⟩,q7⟩,q8⟩,q9⟩,q10⟩,q11⟩:=hok
     subst q4
     have hvk:=h1.tv k
     rw [hk] at hvk
     have hvk0:=hvk
     simp only [V] at hvk0
     obtain ⟨mb,ad,cap,hm,huk,hc1,hc2,hc3⟩:=hvk0
     have huk' : a.tmps.getD k undef = .slice ad len cap:=huk
     obtain ⟨hsz,⟨cc,el,hblk,hcs,hlim⟩,hrl,hcell⟩:=h1.ob id _ mb hid hm
     have hlen : ((rows.drop off).take len).length = len:=by rw [List.length_take,List.length_drop];omega
     have hget : ∀ (r : Nat) row,((rows.drop off).take len)[r]? = some row → r < len ∧ rows[off + r]? = some row:=by
      intro r row hr
      have hlt : r < ((rows.drop off).take len).length:=(List.getElem?_eq_some_iff.1 hr).1
      rw [List.getElem?_take,if_pos (by omega),List.getElem?_drop] at hr
      exact ⟨by omega,hr⟩
     have hpl : ∀ {r c : Nat} {row : List AV} {av : AV},rows[r]? = some row → row[c]? = some av → av.isOwn = false ∧ av.plain = true:=by
      intro r c row av hr hc
      have:=all_get q14 hr hc
      simpa [Bool.and_eq_true] using this
     have hno : (((rows.drop off).take len ++ nr).all fun r=>r.all fun c=>!c.isOwn) = true:=by
      rw [List.all_append,Bool.and_eq_true]
      refine ⟨?_,q12⟩
      rw [List.all_eq_true]
      intro row hrow
      rw [List.all_eq_true]
      intro av hav
      obtain ⟨r,hr⟩:=List.getElem?_of_mem hrow
      obtain ⟨c,hc⟩:=List.getElem?_of_mem hav
      rw [(hpl (hget r row hr).2 hc).1];rfl
     by_cases hfit : len + nr.length ≤ cap
     ·-- in place
      obtain ⟨rfl,hroom⟩:=hc3.resolve_left (fun q=>by omega)
      have hput:=putCells_spec new w mb.blk (mb.base + off * mb.sz + len * szOf P e) cc el (0,0) hblk (by
       rw [hnl,hsz]
       have : (off + (len + nr.length)) * szOf P e ≤ mb.lim * szOf P e:=Nat.mul_le_mul_right _ (by omega)
       rw [Nat.add_mul,Nat.add_mul] at this
       omega)
      obtain ⟨⟨c',g1,g2,g3⟩,g4,g5,g6,g7,g8⟩:=hput
      obtain ⟨r1,r2,r3⟩:=h1.objPut hid trivial hm g6 g7 g8 (by rw [putCells_drawn];exact Nat.le_refl _) g4 g5 (.cells (szOf P e) ((rows.drop off).take len ++ nr)) trivial ⟨mb.blk,mb.base + off * mb.sz,szOf P e,mb.lim - off⟩ rfl (by
       intro Y' K
       refine ⟨rfl,⟨c',el,g1,?_,?_⟩,?_,?_⟩
       ·simp only
        rw [g2,hsz,Nat.mul_sub_right_distrib]
        have : off * szOf P e ≤ mb.lim * szOf P e:=Nat.mul_le_mul_right _ (by omega)
        omega
       ·simp only [List.length_append,hlen];omega
       ·intro r row hr
        rw [List.getElem?_append] at hr
        split at hr
        ·exact hrl _ row (hget r row hr).2
        ·exact rn _ row hr
       ·intro r row c av hr hc
        simp only
        rw [cell_cells g1,g3]
        rw [List.getElem?_append] at hr
        split at hr
        ·rename_i hlt
         rw [hlen] at hlt
         obtain ⟨_,hr⟩:=hget r row hr
         have hcl : c < szOf P e:=by rw [← hrl _ row hr];exact (List.getElem?_eq_some_iff.1 hc).1
         have : (r + 1) * szOf P e ≤ len * szOf P e:=Nat.mul_le_mul_right _ hlt
         rw [Nat.add_mul] at this
         rw [if_neg (by omega)]
         obtain ⟨v,p1,p2⟩:=hcell _ row c av hr hc
         refine ⟨v,?_,V.keep K _ _ p2⟩
         rw [cell_cells hblk,Nat.add_mul] at p1
         rw [hsz,← p1]
         congr 1;omega
        ·rename_i hge
         rw [hlen] at hge hr
         obtain ⟨v,p1,_,p2,_⟩:=hnv _ row c av hr hc
         have hlt2:=(List.getElem?_eq_some_iff.1 p1).1
         have e1 : r * szOf P e = len * szOf P e + (r - len) * szOf P e:=by rw [← Nat.add_mul,show len + (r - len) = r by omega]
         rw [if_pos (by omega)]
         refine ⟨v,?_,V.keep K _ _ p2⟩
         rw [← p1]
         congr 1;omega) (by
       intro r c sz' rows' hl
       simp only [leaf,List.getElem?_cons_zero] at hl
       cases hr : ((rows.drop off).take len ++ nr)[r]? with
       | none=>simp [hr] at hl
       | some row =>
        simp only [hr,Option.bind_some] at hl
        have:=all_get hno hr hl
        simp [AV.isOwn] at this)
      obtain ⟨z,hz,_⟩:=zeroOk_some q8
      obtain ⟨i,_,hi,_⟩:=zeroAV_info hz
      have hcs' : mb.base + off * mb.sz + cap * szOf P e ≤ cc.size:=by
       have : (off + cap) * szOf P e ≤ mb.lim * szOf P e:=Nat.mul_le_mul_right _ hroom
       rw [Nat.add_mul] at this
       rw [hsz];omega
      have hrun:=run_append_in (P:=P) (w:=w) ht q5 hi hfit (hnew w (Grow.refl w)) hnl hblk hcs' (hnfl q9)
      refine .inl ⟨_,_,hexec _ _ (by rw [hty,huk',hex];exact hrun),?_⟩
      rw [hd]
      refine At.put (s:=⟨s.t,s.o.set id .dead ++ [.cells (szOf P e) ((rows.drop off).take len ++ nr)]⟩) (d:=some d) (av:=.ref s.o.length 0 (len + nr.length)) r1 (fun b x kx=>h2 b x (r3 b x kx)) ?_ (h4.trans r2 h2) h5 h6 (by simpa [dstOk] using q1) ?_ (.inl rfl)
      ·intro id' mb' hg
       have:=h3 id' mb' hg
       rw [append_get,if_neg (by have:=(List.getElem?_eq_some_iff.1 this).1;omega)];exact this
      ·simp only [V]
       exact ⟨⟨mb.blk,mb.base + off * mb.sz,szOf P e,mb.lim - off⟩,_,_,by rw [append_get,h1.len,if_pos rfl],rfl,hfit,hc2,.inr ⟨by simp,by simp only;omega⟩⟩
     ·-- the row moves
      obtain ⟨reg1,k1,k2⟩:=h1.kill (id:=id) (List.getElem?_eq_some_iff.1 hid).1
      have hsrc : rowsG false s.o (szOf P e) (.ref id off len) = some ((rows.drop off).take len):=by
       simp only [rowsG,hid]
       rw [if_pos]
       refine ⟨trivial,q13,?_⟩
       unfold rowsOk
       rw [List.all_eq_true]
       intro row hrow
       rw [List.all_eq_true]
       intro av hav
       obtain ⟨r,hr⟩:=List.getElem?_of_mem hrow
       obtain ⟨c,hc⟩:=List.getElem?_of_mem hav
       obtain ⟨p1,p2⟩:=hpl hr hc
       simp [p1,p2]
      obtain ⟨ad',cap',e1,_,e3,old,e4,e5,e6⟩:=rowsG_src (P:=P) h1.ob hsrc hvk
      rw [huk',hlen] at e1
      obtain ⟨rfl,_,rfl⟩:=Value.slice.inj e1
      have:=fresh (rows:=(rows.drop off).take len) (old:=old) (cap:=cap) k1 k2 (by rw [huk',hlen]) (by rw [hlen];omega) e4 e5 e3 (fun r row c av hr hc=>by
       obtain ⟨v,p1,_,p2,_⟩:=e6 r row c av hr hc
       exact ⟨v,p1,p2⟩) hno q5 (by rw [hlen];exact q6) q8 q10 q1
      rw [hlen,List.length_set] at this
      exact this
    ·simp [SR.no] at hok
   ·simp [SR.no] at hok
  ·simp [SR.no] at hok
 ·simp [SR.no] at hok
theorem bslS_sound {o : Oper} {t : TypeId} {len : Nat} {parts : Array (Nat × Operand)} (ho : o.op = .buildSlice t len parts) (hl0 : len ≠ 0) (h : At g s a w)
  (hok : (bslS P g.n o.dst t len (parts.toList.map fun p=>(p.1,(ung true (opd s.t p.2)).dat)) s).1 = true) :
  Does P g a w o (bslS P g.n o.dst t len (parts.toList.map fun p=>(p.1,(ung true (opd s.t p.2)).dat)) s).2:=by
 obtain ⟨⟨m,reg,h1,h2,h3⟩,h4,h5,h6⟩:=h
 unfold bslS at hok ⊢
 split at hok
 ·rename_i e ht
  split at hok
  ·rename_i rows hrows
   simp only [Bool.and_eq_true,beq_iff_eq,decide_eq_true_eq] at hok
   obtain ⟨⟨⟨⟨q1,q2⟩,q3⟩,q4⟩,hd⟩:=hok
   obtain ⟨z,hz⟩:=Option.isSome_iff_exists.1 q4
   obtain ⟨zv,hz1,hz2,hz3⟩:=zero_cells hz
   obtain ⟨i,zv',hi,hiz,_⟩:=zeroAV_info hz
   obtain ⟨hpl,hspec⟩:=partRows_spec _ _ _ hrows
   simp only [List.length_map,Array.length_toList] at hpl
   have hpv : ∀ (j : Nat) (p : Nat × AV) (v : Nat × Value),(parts.toList.map fun p=>(p.1,(ung true (opd s.t p.2)).dat))[j]? = some p → (parts.toList.map fun (i,x)=>(i,a.eval x))[j]? = some v →
     p.1 = v.1 ∧ V w (YS g.Z m reg s.o) m p.2 v.2:=by
    intro i p v hp hv
    simp only [List.getElem?_map] at hp hv
    cases hq : parts.toList[i]? with
    | none=>simp [hq] at hp
    | some q =>
     simp only [hq,Option.map_some,Option.some.injEq] at hp hv
     subst hp hv
     exact ⟨rfl,V.dat _ _ (ung_V rfl (opdV h1 q.2))⟩
   have hzeros : ∀ (zc : Array Value),((Array.range (len * szOf P e)).map (zc[· % zc.size]!)).size = len * szOf P e:=by intro zc;simp
   have hrun : ∃ c' : Array Value,(Instr.buildSlice t len (parts.map fun (i,x)=>(i,a.eval x))).run P w = .ok (.slice (some ⟨w.heap.size,0,none⟩) len len) { w with heap:=w.heap.push (.cells c' e (0,0)) } ∧ c'.size = len * szOf P e ∧
     ∀ (r : Nat) row (k : Nat) av,rows[r]? = some row → row[k]? = some av → ∃ v,c'[r * szOf P e + k]? = some v ∧ V w (YS g.Z m reg s.o) m av v:=by
    obtain ⟨c',g1,g2,_,g4⟩:=fill_rows (w:=w) (Y:=YS g.Z m reg s.o) (m:=m) (len:=len) _ (parts.toList.map fun (i,x)=>(i,a.eval x)) 0 rows ((Array.range (len * szOf P e)).map (zv.cells[· % zv.cells.size]!)) hrows (by simp) hpv (by simp;omega) (hzeros zv.cells)
    refine ⟨c',?_,by rw [g2,hzeros],fun r row k av hr hk=>?_⟩
    ·unfold Instr.buildSlice
     rw [srun_bind_ok (run_und (uk_slice ht))]
     simp only
     rw [srun_bind_ok (run_size hi)]
     have hlim : ¬ len * szOf P e > 2 ^ 24:=by omega
     simp only [hlim,if_false]
     have hn0 : ¬ len * szOf P e = 0:=by
      have : 0 < len * szOf P e:=Nat.mul_pos (by omega) q3
      omega
     simp only [hn0,if_false]
     rw [srun_bind_ok (hz1 w),srun_bind_ok (srun_pure _)]
     simp only [Array.toList_map,g1]
     rw [srun_bind_ok (run_newRow _ _ _)];rfl
    ·have:=g4 r row k av hr hk
     simpa using this
   obtain ⟨c',hrun,hcs,hcells⟩:=hrun
   refine .inl ⟨_,_,by unfold execOp;rw [ho];simp only;rw [srun_bind_ok hrun];rfl,?_⟩
   have hparts : ∀ (r : Nat) row,rows[r]? = some row → ∃ p : AV,row = p.cellsOf ∧ p.cellsOf.length = szOf P e ∧ (p.cellsOf.all fun c=>!c.isOwn && (!false || c.ltk 0) && c.plain) = true:=by
    intro r row hr
    have : r < parts.size:=by rw [← hpl];exact (List.getElem?_eq_some_iff.1 hr).1
    obtain ⟨_,g2,g3,g4,_⟩:=hspec r _ (by rw [List.getElem?_map,Array.getElem?_toList,Array.getElem?_eq_getElem this];rfl)
    rw [hr] at g2
    exact ⟨_,Option.some.inj g2,g3,g4⟩
   have hno : (rows.all fun r=>r.all fun c=>!c.isOwn) = true:=by
    rw [List.all_eq_true]
    intro row hrow
    obtain ⟨r,hr⟩:=List.getElem?_of_mem hrow
    obtain ⟨p,rfl,_,p3⟩:=hparts r row hr
    rw [List.all_eq_true] at p3 ⊢
    intro av hav
    have:=p3 av hav
    simp only [Bool.and_eq_true] at this
    exact this.1.1
   have hle : len ≤ maxLen:=by unfold maxLen;have : len ≤ len * szOf P e:=Nat.le_mul_of_pos_right _ q3;omega
   cases hdst : o.dst with
   | some d =>
    rw [hdst] at hd
    have:=At.freshO (hdr:=Nat.le_refl _) (a:=a) h1 h2 h3 h4 h5 h6 (d:=d) (dr:=w.drawn) (nc:=len) (e:=e) (cs:=c') (by simpa [dstOk] using hd) (by omega) (by omega) hle (fun r row hr=>by obtain ⟨p,rfl,p2,_⟩:=hparts r row hr;exact p2) hcells hno
    rw [q1] at this
    exact this
   | none =>
    have hn:=h1.new (.cells c' e (0,0)) (.cells (szOf P e) rows) (szOf P e) len trivial (by
     intro w' Y' m' hw' K
     subst hw'
     refine ⟨rfl,⟨c',e,by rw [push_get,if_pos rfl],by simp only;omega,by simp only;omega⟩,fun r row hr=>by obtain ⟨p,rfl,p2,_⟩:=hparts r row hr;exact p2,fun r row c av hr hc=>?_⟩
     obtain ⟨v,p1,p2⟩:=hcells r row c av hr hc
     refine ⟨v,?_,V.keep K _ _ p2⟩
     rw [cell_cells (by rw [push_get,if_pos rfl]),Nat.zero_add]
     exact p1) (by
     intro r c sz' rows' hl
     simp only [leaf,List.getElem?_cons_zero] at hl
     cases hr : rows[r]? with
     | none=>simp [hr] at hl
     | some row =>
      simp only [hr,Option.bind_some] at hl
      have:=all_get hno hr hl
      simp [AV.isOwn] at this)
    exact At.new (s:=s) (a:=a) h1 h2 h3 h4 h5 h6 hn (d:=none) (av:=.any) (v:=undef) rfl (by simp only [V]) (.inl rfl)
  ·simp [SR.no] at hok
 ·simp [SR.no] at hok
end
end Go.AW
namespace Go.AW
open Go
set_option linter.unusedSimpArgs false
set_option linter.unusedVariables false
section
variable {P : Program} {g : G} {s : St} {a : Act} {w : World}
theorem exec_move {o : Oper} {x : Operand} (ho : o.op = .move x ∨ o.op = .assign x) : (execOp a.eval o).run P w = .ok (.value (a.eval x)) w:=by
 unfold execOp
 rcases ho with ho | ho<;>rw [ho]<;>rfl
theorem mv_val {o : Oper} {x : Operand} (ho : o.op = .move x ∨ o.op = .assign x) {d : Option Nat} (hd : d = o.dst) {k : Option Nat} (h : At g s a w) (hok : (putS g.n d ⟨true,upAV k (opd s.t x).dat⟩ s).1 = true) :
  Does P g a w o (putS g.n d ⟨true,upAV k (opd s.t x).dat⟩ s).2 :=
 putS_sound hd h hok fun m reg h1 _=>⟨_,exec_move ho,upAV_V (V.dat _ _ (opdV h1 x)),upAV_light (V.dat _ _ (opdV h1 x)) (AV.dat_isOwn _)⟩
theorem pure_val {o : Oper} {d : Option Nat} (hd : d = o.dst) (h : At g s a w) (hok : (putS g.n d (pureOp P s.o o.op (fun x=>ung true (opd s.t x))) s).1 = true) :
  Does P g a w o (putS g.n d (pureOp P s.o o.op (fun x=>ung true (opd s.t x))) s).2 :=
 putS_sound hd h hok fun m reg h1 hr=>by
  obtain ⟨v,q1,q2⟩:=pureOp_sound (P:=P) (w:=w) (oo:=o) h1.len h1.ob (fun x=>ung_V rfl (opdV h1 x)) hr
  exact ⟨v,q1,q2,.inl (pureOp_light hr)⟩
theorem pick_val {o : Oper} {c x y : Operand} (ho : o.op = .pick c x y) (h : At g s a w) (hok : (putS g.n o.dst (pickR true (opd s.t c) (opd s.t x) (opd s.t y)) s).1 = true) :
  Does P g a w o (putS g.n o.dst (pickR true (opd s.t c) (opd s.t x) (opd s.t y)) s).2 :=
 putS_sound rfl h hok fun m reg h1 hr=>by
  unfold pickR at hr ⊢
  split at hr
  ·rename_i b hc
   have hv:=ung_V (g:=true) rfl (opdV h1 c)
   rw [hc] at hv
   simp only [V] at hv
   have run : (execOp a.eval o).run P w = .ok (.value (if b then a.eval x else a.eval y)) w:=by
    unfold execOp
    rw [ho]
    simp only [hv]
    show Sem.run P (asBool (.bool b) >>= _) w = _
    rw [srun_bind_ok (x:=b) (w':=w) rfl];rfl
   split at hr
   ·rename_i p q hp hq
    refine ⟨_,run,?_,.inl ?_⟩
    ·simp only [hc,hp,hq]
     cases b
     ·have:=ung_V (g:=true && !false) rfl (opdV h1 y)
      rw [hq] at this;simpa using this
     ·have:=ung_V (g:=true && true) rfl (opdV h1 x)
      rw [hp] at this;simpa using this
    ·simp only [hc,hp,hq];rfl
   ·rename_i p hp hne
    have hb : b = true:=hr
    subst hb
    refine ⟨_,run,?_,.inl ?_⟩
    ·have:=ung_V (g:=true && true) rfl (opdV h1 x)
     rw [hp] at this
     simp only [hc,hp]
     simpa using this
    ·simp only [hc,hp]
     rfl
   ·rename_i q hq hne
    have hb : b = false:=by simpa using hr
    subst hb
    refine ⟨_,run,?_,.inl ?_⟩
    ·have:=ung_V (g:=true && !false) rfl (opdV h1 y)
     rw [hq] at this
     simp only [hc,hq]
     simpa using this
    ·simp only [hc,hq]
     rfl
   ·simp [R1.no] at hr
  ·simp [R1.no] at hr
theorem newS_box {up : Bool} {o : Oper} {e : TypeId} {x : Operand} (ho : o.op = .box e x) (h : At g s a w) (hp : (opd s.t x).dat.okPart = true) (hok : (newS up P g.n o.dst e (opd s.t x).dat.cellsOf s).1 = true) :
  Does P g a w o (newS up P g.n o.dst e (opd s.t x).dat.cellsOf s).2:=by
 refine newS_sound (vs:=(a.eval x).cells.toList) h hok (fun m reg h1=>part_V (V.dat _ _ (opdV h1 x)) hp) ?_
 unfold execOp
 rw [ho]
 simp only
 have : (Instr.box e (a.eval x)).run P w = .ok (.pointer (some ⟨w.heap.size,0,none⟩)) { w with heap:=w.heap.push (.cells (a.eval x).cells e (0,0)) }:=rfl
 rw [srun_bind_ok this]
 simp [srun_pure]
theorem newS_alloc {up : Bool} {o : Oper} {e : TypeId} {z : AV} (ho : o.op = .alloc e) (hz : zeroAV P e = some z) (h : At g s a w) (hok : (newS up P g.n o.dst e z.cellsOf s).1 = true) :
  Does P g a w o (newS up P g.n o.dst e z.cellsOf s).2:=by
 obtain ⟨zv,hz1,hz2,hz3⟩:=zero_cells hz
 refine newS_sound (vs:=zv.cells.toList) h hok (fun m reg h1=>hz3 w _ m) ?_
 unfold execOp
 rw [ho]
 simp only
 have : (Instr.alloc e true (.tuple #[])).run P w = .ok (.pointer (some ⟨w.heap.size,0,none⟩)) { w with heap:=w.heap.push (.cells zv.cells e (0,0)) }:=by
  unfold Instr.alloc
  rw [srun_bind_ok (hz1 w)]
  rfl
 rw [srun_bind_ok this]
 simp [srun_pure]
theorem step1_sound {o : Oper} {tk : List Nat} (h : At g s a w) (hok : (step1 P g.n tk o s).1 = true) : Does P g a w o (step1 P g.n tk o s).2:=by
 unfold step1 at hok ⊢
 cases hop : o.op
 case move x =>
  simp only [hop] at hok ⊢
  split at hok
  ·rename_i k d hd
   split at hok
   ·rename_i htk
    simp only [htk,if_true]
    exact mvS_sound hd h hok (exec_move (x:=.tmp k) (.inl hop))
   ·rename_i htk
    simp only [htk,if_false,Bool.false_eq_true]
    exact mv_val (x:=.tmp k) (.inl hop) hd.symm h hok
  ·exact mv_val (.inl hop) rfl h hok
 case assign x =>
  simp only [hop] at hok ⊢
  split at hok
  ·rename_i k d hd
   exact mvS_sound hd h hok (exec_move (x:=.tmp k) (.inr hop))
  ·exact mv_val (.inr hop) rfl h hok
 case load t x =>
  simp only [hop] at hok ⊢
  split at hok
  ·rename_i d hd
   split at hok
   ·rename_i htk
    simp only [htk,if_true]
    exact takeS_sound hd hop h hok
   ·rename_i htk
    simp only [htk,if_false,Bool.false_eq_true]
    refine putS_sound hd.symm h hok fun m reg h1 hr=>?_
    obtain ⟨v,q1,q2⟩:=loadR_sound (P:=P) h1.len h1.ob hr (ung_V rfl (opdV h1 x))
    refine ⟨v,?_,q2,.inl (R1_loadR_isOwn ..)⟩
    unfold execOp
    rw [hop]
    simp only
    rw [srun_bind_ok q1];rfl
  ·simp [SR.no] at hok
 case box e x =>
  simp only [hop] at hok ⊢
  split at hok
  ·rename_i hp
   simp only [hp,if_true]
   exact newS_box hop h hp hok
  ·simp [SR.no] at hok
 case alloc e =>
  simp only [hop] at hok ⊢
  split at hok
  ·rename_i z hz
   exact newS_alloc hop hz h hok
  ·simp [SR.no] at hok
 case store t x y =>
  simp only [hop] at hok ⊢
  split at hok
  ·rename_i hd
   rw [if_pos hd]
   exact storeS_sound hop hd h hok
  ·simp [SR.no] at hok
 case mapUpdate t x k v =>
  simp only [hop] at hok ⊢
  split at hok
  ·rename_i hd
   rw [if_pos hd]
   exact msetS_sound (.inl hop) hd h hok
  ·simp [SR.no] at hok
 case insert t x k v =>
  simp only [hop] at hok ⊢
  split at hok
  ·rename_i hd
   rw [if_pos hd]
   exact msetS_sound (.inr hop) hd h hok
  ·simp [SR.no] at hok
 case makeMap t r =>
  simp only [hop] at hok ⊢
  split at hok
  ·exact mkMapS_sound hop h hok
  ·simp [SR.no] at hok
 case makeSlice t l c =>
  simp only [hop] at hok ⊢
  exact mkSliceS_sound hop h hok
 case buildSlice t len parts =>
  simp only [hop] at hok ⊢
  split at hok
  ·rename_i hc
   rw [if_pos hc]
   exact bslS_sound hop hc.2 h hok
  ·rename_i hc
   rw [if_neg hc]
   exact bslR_sound hop h hok
 case build t parts =>
  simp only [hop] at hok ⊢
  exact buildR_sound hop h hok
 case call c =>
  simp only [hop] at hok ⊢
  split at hok
  ·rename_i hc
   split at hok
   ·rename_i k x t t2 ha hat
    have ea : c.args = #[.tmp k,x]:=by rw [← Array.toArray_toList (xs:=c.args),ha]
    have et : c.argTypes = #[t,t2]:=by rw [← Array.toArray_toList (xs:=c.argTypes),hat]
    split at hok
    ·rename_i hf
     rw [if_pos hf]
     exact appOS_sound hop hc ea et h hok
    ·rename_i hf
     rw [if_neg hf]
     exact appS_sound hop hc ea et h hok
   ·simp [SR.no] at hok
  ·rename_i hnc
   have:=pure_val (P:=P) (o:=o) rfl h (by rw [hop];exact hok)
   rw [hop] at this
   exact this
 case pick c x y =>
  simp only [hop] at hok ⊢
  exact pick_val hop h hok
 all_goals
  simp only [hop] at hok ⊢
  have:=pure_val (P:=P) (o:=o) rfl h (by rw [hop];exact hok)
  rw [hop] at this
  exact this
end
end Go.AW
namespace Go.AW
open Go
set_option linter.unusedSimpArgs false
set_option linter.unusedVariables false
mutual
/-- A value whose objects go by other numbers. -/
def AV.ren (φ : Nat → Nat) : AV → AV
 | .ref id off len=>.ref (φ id) off len
 | .ptr id idx off=>.ptr (φ id) idx off
 | .mp id=>.mp (φ id)
 | .fn f caps=>.fn f (AV.rens φ caps)
 | .agg cs=>.agg (AV.rens φ cs)
 | .tup cs=>.tup (AV.rens φ cs)
 | .ifc t v=>.ifc t (AV.ren φ v)
 | .bm t v=>.bm t (AV.ren φ v)
 | .gd g v=>.gd g (AV.ren φ v)
 | .any=>.any
 | .b x=>.b x
 | .i k n=>.i k n
 | .s x=>.s x
 | .sl sz rows=>.sl sz rows
 | .own sz rows=>.own sz rows
 | .ep row off=>.ep row off
 | .nilp=>.nilp
 | .nilm=>.nilm
 | .nsl=>.nsl
 | .esl=>.esl
 | .nilf=>.nilf
 | .nili=>.nili
def AV.rens (φ : Nat → Nat) : List AV → List AV
 | []=>[]
 | v :: r=>AV.ren φ v :: AV.rens φ r
end
theorem rens_map (φ : Nat → Nat) : ∀ l : List AV,AV.rens φ l = l.map (AV.ren φ)
 | []=>rfl
 | a :: l=>by simp [AV.rens,rens_map φ l]
section
variable {w : World} {Y : CS}
mutual
/-- Forth: the objects are found under the new numbers. -/
theorem V.ren {m m' : List MB} {φ : Nat → Nat} (h : ∀ (id : Nat) mb,m[id]? = some mb → m'[φ id]? = some mb) : ∀ (a : AV) (v : Value),V w Y m a v → V w Y m' (a.ren φ) v
 | .any,_,_=>by simp only [AV.ren,V]
 | .b _,_,k=>by simpa only [AV.ren,V] using k
 | .i _ _,_,k=>by simpa only [AV.ren,V] using k
 | .s _,_,k=>by simpa only [AV.ren,V] using k
 | .sl _ _,_,k=>by simpa only [AV.ren,V] using k
 | .own _ _,_,k=>by simpa only [AV.ren,V] using k
 | .ref id _ _,_,k=>by
  simp only [AV.ren,V] at k ⊢
  obtain ⟨mb,a,cap,h1,h2⟩:=k
  exact ⟨mb,a,cap,h _ _ h1,h2⟩
 | .ptr id _ _,_,k=>by
  simp only [AV.ren,V] at k ⊢
  obtain ⟨mb,h1,h2⟩:=k
  exact ⟨mb,h _ _ h1,h2⟩
 | .ep _ _,_,k=>by simpa only [AV.ren,V] using k
 | .nilp,_,k=>by simpa only [AV.ren,V] using k
 | .mp _,_,k=>by
  simp only [AV.ren,V] at k ⊢
  obtain ⟨mb,h1,h2⟩:=k
  exact ⟨mb,h _ _ h1,h2⟩
 | .nilm,_,k=>by simpa only [AV.ren,V] using k
 | .nsl,_,k=>by simpa only [AV.ren,V] using k
 | .esl,_,k=>by simpa only [AV.ren,V] using k
 | .fn f caps,_,k=>by
  simp only [AV.ren,V] at k ⊢
  obtain ⟨cs,h1,h2⟩:=k
  exact ⟨cs,h1,Vs.ren h caps _ h2⟩
 | .nilf,_,k=>by simpa only [AV.ren,V] using k
 | .agg cs,_,k=>by
  simp only [AV.ren,V] at k ⊢
  obtain ⟨vs,h1,h2⟩:=k
  exact ⟨vs,h1,Vs.ren h cs _ h2⟩
 | .tup cs,_,k=>by
  simp only [AV.ren,V] at k ⊢
  obtain ⟨vs,h1,h2⟩:=k
  exact ⟨vs,h1,Vs.ren h cs _ h2⟩
 | .nili,_,k=>by simpa only [AV.ren,V] using k
 | .ifc t x,_,k=>by
  simp only [AV.ren,V] at k ⊢
  obtain ⟨y,h1,h2⟩:=k
  exact ⟨y,h1,V.ren h x y h2⟩
 | .bm t x,_,k=>by
  simp only [AV.ren,V] at k ⊢
  obtain ⟨y,h1,h2⟩:=k
  exact ⟨y,h1,V.ren h x y h2⟩
 | .gd g x,v,k=>by
  simp only [AV.ren,V] at k ⊢
  exact ⟨fun hg=>V.ren h x v (k.1 hg),k.2⟩
theorem Vs.ren {m m' : List MB} {φ : Nat → Nat} (h : ∀ (id : Nat) mb,m[id]? = some mb → m'[φ id]? = some mb) : ∀ (l : List AV) (vs : List Value),Vs w Y m l vs → Vs w Y m' (AV.rens φ l) vs
 | [],_,k=>by simpa only [AV.rens,Vs] using k
 | c :: r,_,k=>by
  simp only [AV.rens,Vs] at k ⊢
  obtain ⟨v,t,h1,h2,h3⟩:=k
  exact ⟨v,t,h1,V.ren h c v h2,Vs.ren h r t h3⟩
end
mutual
/-- Back. -/
theorem V.unren {m m' : List MB} {φ : Nat → Nat} {n : Nat} (h : ∀ (id : Nat) mb,id < n → m'[φ id]? = some mb → m[id]? = some mb) : ∀ (a : AV) (v : Value),a.ltk n = true → V w Y m' (a.ren φ) v → V w Y m a v
 | .any,_,_,_=>by simp only [V]
 | .b _,_,_,k=>by simpa only [AV.ren,V] using k
 | .i _ _,_,_,k=>by simpa only [AV.ren,V] using k
 | .s _,_,_,k=>by simpa only [AV.ren,V] using k
 | .sl _ _,_,_,k=>by simpa only [AV.ren,V] using k
 | .own _ _,_,_,k=>by simpa only [AV.ren,V] using k
 | .ref id _ _,_,l,k=>by
  simp only [AV.ren,V,AV.ltk,decide_eq_true_eq] at k l ⊢
  obtain ⟨mb,a,cap,h1,h2⟩:=k
  exact ⟨mb,a,cap,h _ _ l h1,h2⟩
 | .ptr id _ _,_,l,k=>by
  simp only [AV.ren,V,AV.ltk,decide_eq_true_eq] at k l ⊢
  obtain ⟨mb,h1,h2⟩:=k
  exact ⟨mb,h _ _ l h1,h2⟩
 | .ep _ _,_,_,k=>by simpa only [AV.ren,V] using k
 | .nilp,_,_,k=>by simpa only [AV.ren,V] using k
 | .mp _,_,l,k=>by
  simp only [AV.ren,V,AV.ltk,decide_eq_true_eq] at k l ⊢
  obtain ⟨mb,h1,h2⟩:=k
  exact ⟨mb,h _ _ l h1,h2⟩
 | .nilm,_,_,k=>by simpa only [AV.ren,V] using k
 | .nsl,_,_,k=>by simpa only [AV.ren,V] using k
 | .esl,_,_,k=>by simpa only [AV.ren,V] using k
 | .fn f caps,_,l,k=>by
  simp only [AV.ren,V,AV.ltk] at k l ⊢
  obtain ⟨cs,h1,h2⟩:=k
  exact ⟨cs,h1,Vs.unren h caps _ l h2⟩
 | .nilf,_,_,k=>by simpa only [AV.ren,V] using k
 | .agg cs,_,l,k=>by
  simp only [AV.ren,V,AV.ltk] at k l ⊢
  obtain ⟨vs,h1,h2⟩:=k
  exact ⟨vs,h1,Vs.unren h cs _ l h2⟩
 | .tup cs,_,l,k=>by
  simp only [AV.ren,V,AV.ltk] at k l ⊢
  obtain ⟨vs,h1,h2⟩:=k
  exact ⟨vs,h1,Vs.unren h cs _ l h2⟩
 | .nili,_,_,k=>by simpa only [AV.ren,V] using k
 | .ifc t x,_,l,k=>by
  simp only [AV.ren,V,AV.ltk] at k l ⊢
  obtain ⟨y,h1,h2⟩:=k
  exact ⟨y,h1,V.unren h x y l h2⟩
 | .bm t x,_,l,k=>by
  simp only [AV.ren,V,AV.ltk] at k l ⊢
  obtain ⟨y,h1,h2⟩:=k
  exact ⟨y,h1,V.unren h x y l h2⟩
 | .gd g x,v,l,k=>by
  simp only [AV.ren,V,AV.ltk] at k l ⊢
  exact ⟨fun hg=>V.unren h x v l (k.1 hg),k.2⟩
theorem Vs.unren {m m' : List MB} {φ : Nat → Nat} {n : Nat} (h : ∀ (id : Nat) mb,id < n → m'[φ id]? = some mb → m[id]? = some mb) : ∀ (l : List AV) (vs : List Value),AV.ltks n l = true → Vs w Y m' (AV.rens φ l) vs → Vs w Y m l vs
 | [],_,_,k=>by simpa only [AV.rens,Vs] using k
 | c :: r,_,l,k=>by
  simp only [AV.rens,Vs,AV.ltks,Bool.and_eq_true] at k l ⊢
  obtain ⟨v,t,h1,h2,h3⟩:=k
  exact ⟨v,t,h1,V.unren h c v l.1 h2,Vs.unren h r t l.2 h3⟩
end
end
def Ob.ren (φ : Nat → Nat) : Ob → Ob
 | .cells sz rows=>.cells sz (rows.map fun r=>r.map (AV.ren φ))
 | .frz sz rows=>.frz sz rows
 | .mapo es=>.mapo (es.map fun e=>(e.1.ren φ,e.2.ren φ))
 | .dead=>.dead
theorem Ob.ren_live (φ : Nat → Nat) (x : Ob) : (x.ren φ).live ↔ x.live:=by cases x<;>exact Iff.rfl
section
variable {w : World} {Y : CS} {m m' : List MB} {φ : Nat → Nat}
theorem ObR.ren (h : ∀ (id : Nat) mb,m[id]? = some mb → m'[φ id]? = some mb) {mb : MB} (x : Ob) (hx : ObR w Y m mb x) : ObR w Y m' mb (x.ren φ):=by
 cases x with
 | cells sz rows =>
  obtain ⟨h1,h2,h3,h4⟩:=hx
  refine ⟨h1,by simpa using h2,fun r row hr=>?_,fun r row c av hr hc=>?_⟩
  ·simp only [List.getElem?_map] at hr
   cases hq : rows[r]? with
   | none=>simp [hq] at hr
   | some q=>simp only [hq,Option.map_some,Option.some.injEq] at hr;subst hr;simpa using h3 r q hq
  ·simp only [List.getElem?_map] at hr
   cases hq : rows[r]? with
   | none=>simp [hq] at hr
   | some q =>
    simp only [hq,Option.map_some,Option.some.injEq] at hr;subst hr
    simp only [List.getElem?_map] at hc
    cases hz : q[c]? with
    | none=>simp [hz] at hc
    | some z =>
     simp only [hz,Option.map_some,Option.some.injEq] at hc;subst hc
     obtain ⟨v,e1,e2⟩:=h4 r q c z hq hz
     exact ⟨v,e1,V.ren h z v e2⟩
 | frz sz rows=>exact hx
 | mapo es =>
  obtain ⟨c,e,h1,h2,h3⟩:=hx
  refine ⟨c,e,h1,?_,h3⟩
  have key : ∀ (es : List (AV × AV)) (l : List MapEntry),MapR w Y m es l → MapR w Y m' (es.map fun e=>(e.1.ren φ,e.2.ren φ)) l:=by
   intro es
   induction es with
   | nil=>intro l hl;simpa only [List.map_nil,MapR] using hl
   | cons a es ih =>
    intro l hl
    obtain ⟨k,v⟩:=a
    simp only [List.map_cons,MapR] at hl ⊢
    obtain ⟨e,t,g1,g2,g3,g4⟩:=hl
    exact ⟨e,t,g1,V.ren h _ _ g2,V.ren h _ _ g3,ih t g4⟩
  exact key es _ h2
 | dead=>trivial
theorem ObR.unren {n : Nat} (h : ∀ (id : Nat) mb,id < n → m'[φ id]? = some mb → m[id]? = some mb) {mb : MB} (x : Ob) (hl : x.ltk n = true) (hx : ObR w Y m' mb (x.ren φ)) : ObR w Y m mb x:=by
 cases x with
 | cells sz rows =>
  obtain ⟨h1,h2,h3,h4⟩:=hx
  simp only [Ob.ltk,List.all_eq_true] at hl
  refine ⟨h1,by simpa using h2,fun r row hr=>?_,fun r row c av hr hc=>?_⟩
  ·have:=h3 r (row.map (AV.ren φ)) (by simp [hr])
   simpa using this
  ·obtain ⟨v,e1,e2⟩:=h4 r (row.map (AV.ren φ)) c (av.ren φ) (by simp [hr]) (by simp [hc])
   exact ⟨v,e1,V.unren h av v (hl row (List.mem_of_getElem? hr) av (List.mem_of_getElem? hc)) e2⟩
 | frz sz rows=>exact hx
 | mapo es =>
  obtain ⟨c,e,h1,h2,h3⟩:=hx
  refine ⟨c,e,h1,?_,h3⟩
  simp only [Ob.ltk] at hl
  have key : ∀ (es : List (AV × AV)) (l : List MapEntry),(es.all fun e=>e.1.ltk n && e.2.ltk n) = true → MapR w Y m' (es.map fun e=>(e.1.ren φ,e.2.ren φ)) l → MapR w Y m es l:=by
   intro es
   induction es with
   | nil=>intro l _ hl;simpa only [List.map_nil,MapR] using hl
   | cons a es ih =>
    intro l ha hl
    obtain ⟨k,v⟩:=a
    simp only [List.map_cons,MapR,List.all_cons,Bool.and_eq_true] at hl ha ⊢
    obtain ⟨e,t,g1,g2,g3,g4⟩:=hl
    exact ⟨e,t,g1,V.unren h _ _ ha.1.1 g2,V.unren h _ _ ha.1.2 g3,ih t (by simpa using ha.2) g4⟩
  exact key es _ hl h2
 | dead=>trivial
end
end Go.AW
namespace Go.AW
open Go
set_option linter.unusedSimpArgs false
set_option linter.unusedVariables false
structure Hand (o : List Ob) (ids : List Nat) (oc : List Ob) : Prop where
 len : oc.length = ids.length
 nodup : ids.Nodup
 get : ∀ (j i : Nat),ids[j]? = some i → ∃ x,oc[j]? = some x ∧ o[i]? = some (x.ren fun k=>ids.getD k 0) ∧ x.ltk ids.length = true
section
variable {w : World} {Z : CS} {m : List MB} {reg : Pl → Option Reg} {t : Nat → AV} {u : Nat → Value} {o oc : List Ob} {ids : List Nat} {S n : Nat} {ac : Nat → AV}
def mDown (m : List MB) (ids : List Nat) : List MB:=ids.map fun i=>m.getD i ⟨0,0,0,0⟩
def plUp (ids : List Nat) (S n : Nat) : Pl → Option Pl
 | .t k=>if k < n then some (.t (S + k)) else none
 | .o j r c=>(ids[j]?).map fun i=>.o i r c
def regDown (reg : Pl → Option Reg) (ids : List Nat) (S n : Nat) : Pl → Option Reg:=fun p=>(plUp ids S n p).bind reg
theorem plUp_inj (hn : ids.Nodup) {p q : Pl} {x : Pl} (hp : plUp ids S n p = some x) (hq : plUp ids S n q = some x) : p = q:=by
 cases p with
 | t k =>
  simp only [plUp] at hp
  split at hp
  ·obtain rfl:=Option.some.inj hp
   cases q with
   | t k' =>
    simp only [plUp] at hq
    split at hq
    ·have:=Option.some.inj hq
     simp only [Pl.t.injEq] at this
     rw [show k = k' by omega]
    ·cases hq
   | o j r c=>simp only [plUp] at hq;cases h : ids[j]?<;>simp [h] at hq
  ·cases hp
 | o j r c =>
  simp only [plUp] at hp
  cases hj : ids[j]? with
  | none=>simp [hj] at hp
  | some i =>
   simp only [hj,Option.map_some,Option.some.injEq] at hp
   subst hp
   cases q with
   | t k'=>simp only [plUp] at hq;split at hq<;>simp at hq
   | o j' r' c' =>
    simp only [plUp] at hq
    cases hj' : ids[j']? with
    | none=>simp [hj'] at hq
    | some i' =>
     simp only [hj',Option.map_some,Option.some.injEq,Pl.o.injEq] at hq
     obtain ⟨rfl,rfl,rfl⟩:=hq
     have h1 : j < ids.length:=(List.getElem?_eq_some_iff.1 hj).1
     have h2 : j' < ids.length:=(List.getElem?_eq_some_iff.1 hj').1
     have : j = j':=by
      have e1:=(List.getElem?_eq_some_iff.1 hj).2
      have e2:=(List.getElem?_eq_some_iff.1 hj').2
      exact (List.getElem_inj hn).1 (e1.trans e2.symm)
     rw [this]
theorem mDown_get (H : Hand o ids oc) (hl : m.length = o.length) {j i : Nat} (hj : ids[j]? = some i) : (mDown m ids)[j]? = m[i]? ∧ i < m.length:=by
 obtain ⟨x,_,h2,_⟩:=H.get j i hj
 have hi : i < m.length:=by rw [hl];exact (List.getElem?_eq_some_iff.1 h2).1
 refine ⟨?_,hi⟩
 simp only [mDown,List.getElem?_map,hj,Option.map_some,List.getD_eq_getElem?_getD,List.getElem?_eq_getElem hi,Option.getD_some]
theorem mDown_some (H : Hand o ids oc) (hl : m.length = o.length) {j : Nat} {mb : MB} (h : (mDown m ids)[j]? = some mb) : ∃ i,ids[j]? = some i ∧ m[i]? = some mb:=by
 have hj : j < ids.length:=by have:=(List.getElem?_eq_some_iff.1 h).1;simpa [mDown] using this
 have e:=List.getElem?_eq_getElem hj
 exact ⟨_,e,by rw [← (mDown_get H hl e).1];exact h⟩
theorem hand_some (H : Hand o ids oc) {j : Nat} {x : Ob} (h : oc[j]? = some x) : ∃ i,ids[j]? = some i ∧ o[i]? = some (x.ren fun k=>ids.getD k 0) ∧ x.ltk ids.length = true:=by
 have hj : j < ids.length:=by rw [← H.len];exact (List.getElem?_eq_some_iff.1 h).1
 have e:=List.getElem?_eq_getElem hj
 obtain ⟨y,h1,h2,h3⟩:=H.get j _ e
 rw [h] at h1
 obtain rfl:=Option.some.inj h1
 exact ⟨_,e,h2,h3⟩
theorem XS_down (h : Rel w Z m reg t u o) (H : Hand o ids oc) : ∀ b x,XS (mDown m ids) (regDown reg ids S n) oc b x → XS m reg o b x:=by
 rintro b x (⟨j,ob,mb,h1,h2,h3,h4⟩ | ⟨p,r,h1,h2⟩)
 ·obtain ⟨i,e1,e2,_⟩:=hand_some H h1
  obtain ⟨i',e3,e4⟩:=mDown_some H h.len h3
  rw [e1] at e3
  obtain rfl:=Option.some.inj e3
  exact .inl ⟨i,_,mb,e2,(Ob.ren_live _ _).2 h2,e4,h4⟩
 ·simp only [regDown] at h1
  cases hp : plUp ids S n p with
  | none=>simp [hp] at h1
  | some q=>simp only [hp,Option.bind_some] at h1;exact .inr ⟨q,r,h1,h2⟩
def ZDown (Z : CS) (m : List MB) (reg : Pl → Option Reg) (o : List Ob) (ids : List Nat) (S n : Nat) (oc : List Ob) : CS :=
 fun b x=>YS Z m reg o b x ∧ ¬ XS (mDown m ids) (regDown reg ids S n) oc b x
theorem YS_down (h : Rel w Z m reg t u o) (H : Hand o ids oc) : ∀ b x,YS (ZDown Z m reg o ids S n oc) (mDown m ids) (regDown reg ids S n) oc b x ↔ YS Z m reg o b x:=by
 intro b x
 constructor
 ·rintro (k | k)
  ·exact .inl (XS_down h H b x k)
  ·exact k.1
 ·intro k
  by_cases hx : XS (mDown m ids) (regDown reg ids S n) oc b x
  ·exact .inl hx
  ·exact .inr ⟨k,hx⟩
theorem Rel.down (h : Rel w Z m reg t u o) (H : Hand o ids oc) (hac : ∀ k,k < n → t (S + k) = (ac k).ren (fun j=>ids.getD j 0) ∧ (ac k).ltk ids.length = true) :
  Rel w (ZDown Z m reg o ids S n oc) (mDown m ids) (regDown reg ids S n) (fun k=>if k < n then ac k else .any) (fun k=>if k < n then u (S + k) else undef) oc:=by
 have hφ : ∀ (id : Nat) mb,id < ids.length → m[ids.getD id 0]? = some mb → (mDown m ids)[id]? = some mb:=by
  intro id mb hid hm
  have e:=List.getElem?_eq_getElem hid
  rw [(mDown_get H h.len e).1]
  rw [List.getD_eq_getElem?_getD,e] at hm
  exact hm
 have K : ∀ mm,Keeps w (YS Z m reg o) mm w (YS (ZDown Z m reg o ids S n oc) (mDown m ids) (regDown reg ids S n) oc) mm:=fun mm=>Keeps.sub mm fun b x k=>(YS_down h H b x).1 k
 refine ⟨by simp [mDown,H.len],?_,?_,?_,?_,?_,?_,?_,?_,?_⟩
 ·intro k
  by_cases hk : k < n
  ·simp only [if_pos hk]
   obtain ⟨e1,e2⟩:=hac k hk
   have:=h.tv (S + k)
   rw [e1] at this
   exact V.keep (K _) _ _ (V.unren hφ _ _ e2 this)
  ·simp only [if_neg hk,V]
 ·intro j x mb hj hm
  obtain ⟨i,e1,e2,e3⟩:=hand_some H hj
  obtain ⟨i',e4,e5⟩:=mDown_some H h.len hm
  rw [e1] at e4
  obtain rfl:=Option.some.inj e4
  have:=h.ob i _ mb e2 e5
  exact Ob.keep (K _) x (fun _=>rfl) (ObR.unren hφ x e3 this)
 ·intro j j' x y a b hj hj' lx ly ha hb e
  obtain ⟨i,e1,e2,_⟩:=hand_some H hj
  obtain ⟨i',e1',e2',_⟩:=hand_some H hj'
  obtain ⟨k,q1,q2⟩:=mDown_some H h.len ha
  obtain ⟨k',q1',q2'⟩:=mDown_some H h.len hb
  rw [e1] at q1;rw [e1'] at q1'
  obtain rfl:=Option.some.inj q1
  obtain rfl:=Option.some.inj q1'
  have hii:=h.inj i i' _ _ a b e2 e2' ((Ob.ren_live _ _).2 lx) ((Ob.ren_live _ _).2 ly) q2 q2' e
  subst hii
  have h1:=(List.getElem?_eq_some_iff.1 e1)
  have h2:=(List.getElem?_eq_some_iff.1 e1')
  exact (List.getElem_inj H.nodup).1 (h1.2.trans h2.2.symm)
 ·intro p r hp
  simp only [regDown] at hp
  cases hq : plUp ids S n p with
  | none=>simp [hq] at hp
  | some q=>simp only [hq,Option.bind_some] at hp;exact h.rok q r hp
 ·intro p r j x mb hp hj hl hm
  simp only [regDown] at hp
  obtain ⟨i,e1,e2,_⟩:=hand_some H hj
  obtain ⟨k,q1,q2⟩:=mDown_some H h.len hm
  rw [e1] at q1
  obtain rfl:=Option.some.inj q1
  cases hq : plUp ids S n p with
  | none=>simp [hq] at hp
  | some q=>simp only [hq,Option.bind_some] at hp;exact h.rob q r i _ mb hp e2 ((Ob.ren_live _ _).2 hl) q2
 ·intro p q r s hpq hp hq
  simp only [regDown] at hp hq
  cases hp' : plUp ids S n p with
  | none=>simp [hp'] at hp
  | some p' =>
   cases hq' : plUp ids S n q with
   | none=>simp [hq'] at hq
   | some q' =>
    simp only [hp',hq',Option.bind_some] at hp hq
    exact h.rdj p' q' r s (fun e=>hpq (plUp_inj H.nodup hp' (e ▸ hq'))) hp hq
 ·intro p sz rows v hl hv
  cases p with
  | t k =>
   simp only [leaf,Option.some.injEq] at hl
   simp only [valAt,Option.some.injEq] at hv
   split at hl
   ·rename_i hk
    rw [if_pos hk] at hv
    obtain ⟨e1,_⟩:=hac k hk
    rw [hl] at e1
    have:=h.own (.t (S + k)) sz rows v (by simp [leaf,e1,AV.ren]) (by simp [valAt,hv])
    simpa [regDown,plUp,hk] using this
   ·cases hl
  | o j r c =>
   simp only [leaf] at hl
   cases hj : oc[j]? with
   | none=>simp [hj] at hl
   | some x =>
    obtain ⟨i,e1,e2,_⟩:=hand_some H hj
    cases x with
    | cells sz' rows' =>
     simp only [hj] at hl
     have hl' : leaf t o (.o i r c) = some (.own sz rows):=by
      simp only [leaf,e2,Ob.ren,List.getElem?_map]
      cases hr : rows'[r]? with
      | none=>simp [hr] at hl
      | some row =>
       simp only [hr,Option.bind_some] at hl
       simp [hl,AV.ren]
     simp only [valAt] at hv
     cases hm : (mDown m ids)[j]? with
     | none=>simp [hm] at hv
     | some mb =>
      simp only [hm,Option.bind_some] at hv
      obtain ⟨k,q1,q2⟩:=mDown_some H h.len hm
      rw [e1] at q1
      obtain rfl:=Option.some.inj q1
      have:=h.own _ sz rows v hl' (by simp only [valAt,q2,Option.bind_some,hv])
      simpa [regDown,plUp,e1] using this
    | _=>simp [hj] at hl
 ·rintro b x ⟨_,k2⟩ hx
  exact k2 hx
 ·rintro b x ⟨k1,_⟩
  rcases k1 with k1 | k1
  ·exact h.xlt k1
  ·exact h.zs b x k1
end
end Go.AW
namespace Go.AW
open Go
set_option linter.unusedSimpArgs false
set_option linter.unusedVariables false
def ixOf : List Nat → Nat → Option Nat
 | [],_=>none
 | a :: l,i=>if a = i then some 0 else (ixOf l i).map (· + 1)
theorem ixOf_get : ∀ {l : List Nat} {i j : Nat},ixOf l i = some j → l[j]? = some i
 | [],i,j,h=>by cases h
 | a :: l,i,j,h=>by
  simp only [ixOf] at h
  split at h
  ·rename_i e;subst e;obtain rfl:=Option.some.inj h;rfl
  ·cases hq : ixOf l i with
   | none=>simp [hq] at h
   | some k=>simp only [hq,Option.map_some,Option.some.injEq] at h;subst h;simpa using ixOf_get hq
theorem ixOf_none : ∀ {l : List Nat} {i : Nat},ixOf l i = none → ∀ (j : Nat),l[j]? ≠ some i
 | [],i,_,j=>by simp
 | a :: l,i,h,j=>by
  simp only [ixOf] at h
  split at h
  ·cases h
  ·rename_i e
   cases hq : ixOf l i with
   | some k=>simp [hq] at h
   | none =>
    cases j with
    | zero=>simpa using e
    | succ j=>simpa using ixOf_none hq j
theorem nodup_get {l : List Nat} (hn : l.Nodup) {i j k : Nat} (h1 : l[j]? = some i) (h2 : l[k]? = some i) : j = k:=by
 have e1:=List.getElem?_eq_some_iff.1 h1
 have e2:=List.getElem?_eq_some_iff.1 h2
 exact (List.getElem_inj hn).1 (e1.2.trans e2.2.symm)
theorem ixOf_of_get {l : List Nat} (hn : l.Nodup) {i j : Nat} (h : l[j]? = some i) : ixOf l i = some j:=by
 cases hq : ixOf l i with
 | none=>exact absurd h (ixOf_none hq j)
 | some k=>rw [nodup_get hn h (ixOf_get hq)]
def back : List Nat → List Ob → List Ob → List Ob
 | i :: ids,x :: xs,o=>back ids xs (o.set i x)
 | _,_,o=>o
theorem back_length : ∀ (ids : List Nat) (xs o : List Ob),(back ids xs o).length = o.length
 | [],_,_=>rfl
 | _ :: _,[],_=>rfl
 | i :: ids,x :: xs,o=>by simp only [back];rw [back_length ids xs];simp
theorem back_other : ∀ (ids : List Nat) (xs o : List Ob) (i : Nat),(∀ (j : Nat),ids[j]? ≠ some i) → (back ids xs o)[i]? = o[i]?
 | [],_,_,_,_=>rfl
 | _ :: _,[],_,_,_=>rfl
 | a :: ids,x :: xs,o,i,h=>by
  simp only [back]
  rw [back_other ids xs _ i (fun j=>by have:=h (j + 1);simpa using this),List.getElem?_set_ne]
  have:=h 0;simpa using this
theorem back_get : ∀ (ids : List Nat) (xs o : List Ob) (i j : Nat),ids.Nodup → xs.length = ids.length → ids[j]? = some i → i < o.length → (back ids xs o)[i]? = xs[j]?
 | [],_,_,_,_,_,_,h,_=>by simp at h
 | a :: ids,[],_,_,_,_,hl,_,_=>by simp at hl
 | a :: ids,x :: xs,o,i,j,hn,hl,h,hi=>by
  simp only [back]
  cases j with
  | zero =>
   simp only [List.getElem?_cons_zero,Option.some.injEq] at h
   subst h
   rw [back_other ids xs _ a (fun k hk=>(List.nodup_cons.1 hn).1 (List.mem_of_getElem? hk))]
   simp [hi]
  | succ j =>
   simp only [List.getElem?_cons_succ] at h ⊢
   exact back_get ids xs _ i j (List.nodup_cons.1 hn).2 (by simpa using hl) h (by simpa using hi)
def phi (ids : List Nat) (n0 : Nat) : Nat → Nat:=fun j=>if j < ids.length then ids.getD j 0 else n0 + (j - ids.length)
def after (o : List Ob) (ids : List Nat) (o' : List Ob) : List Ob :=
 back ids ((o'.take ids.length).map (Ob.ren (phi ids o.length))) o ++ (o'.drop ids.length).map (Ob.ren (phi ids o.length))
section
variable {w w' : World} {Z : CS} {m m' : List MB} {reg reg' : Pl → Option Reg} {t t1 : Nat → AV} {u u1 : Nat → Value} {o oc o' : List Ob} {ids : List Nat} {S n d : Nat} {ac : Nat → AV} {r : AV} {v : Value}
def plBack (ids : List Nat) (n0 S n d : Nat) : Pl → Option (Pl ⊕ Pl)
 | .t k=>if k = d then some (.inl (.t 0)) else if S ≤ k ∧ k < S + n then none else some (.inr (.t k))
 | .o i r c=>match ixOf ids i with
  | some j=>some (.inl (.o j r c))
  | none=>if i < n0 then some (.inr (.o i r c)) else some (.inl (.o (i - n0 + ids.length) r c))
def regBack (reg reg' : Pl → Option Reg) (ids : List Nat) (n0 S n d : Nat) : Pl → Option Reg:=fun p =>
 match plBack ids n0 S n d p with
 | some (.inl q)=>reg' q
 | some (.inr q)=>reg q
 | none=>none
theorem plBack_inj (hn : ids.Nodup) {n0 : Nat} {p q : Pl} {x : Pl ⊕ Pl} (hp : plBack ids n0 S n d p = some x) (hq : plBack ids n0 S n d q = some x) : p = q:=by
 cases p with
 | t k =>
  cases q with
  | t k' =>
   simp only [plBack] at hp hq
   split at hp
   ·rename_i e
    obtain rfl:=Option.some.inj hp
    split at hq
    ·rename_i e';rw [e,e']
    ·split at hq
     ·cases hq
     ·cases hq
   ·split at hp
    ·cases hp
    ·obtain rfl:=Option.some.inj hp
     split at hq
     ·cases hq
     ·split at hq
      ·cases hq
      ·have:=Option.some.inj hq
       simp only [Sum.inr.injEq,Pl.t.injEq] at this
       rw [this]
  | o i r c =>
   simp only [plBack] at hp hq
   split at hp
   ·obtain rfl:=Option.some.inj hp
    split at hq
    ·cases hq
    ·split at hq<;>cases hq
   ·split at hp
    ·cases hp
    ·obtain rfl:=Option.some.inj hp
     split at hq
     ·cases hq
     ·split at hq<;>cases hq
 | o i r c =>
  cases q with
  | t k =>
   simp only [plBack] at hp hq
   split at hq
   ·obtain rfl:=Option.some.inj hq
    split at hp
    ·cases hp
    ·split at hp<;>cases hp
   ·split at hq
    ·cases hq
    ·obtain rfl:=Option.some.inj hq
     split at hp
     ·cases hp
     ·split at hp<;>cases hp
  | o i' r' c' =>
   simp only [plBack] at hp hq
   cases h1 : ixOf ids i with
   | some j =>
    simp only [h1,Option.some.injEq] at hp
    subst hp
    have l1:=(List.getElem?_eq_some_iff.1 (ixOf_get h1)).1
    cases h2 : ixOf ids i' with
    | some j' =>
     simp only [h2,Option.some.injEq,Sum.inl.injEq,Pl.o.injEq] at hq
     obtain ⟨rfl,rfl,rfl⟩:=hq
     have:=(ixOf_get h1).symm.trans (ixOf_get h2)
     rw [Option.some.inj this]
    | none =>
     simp only [h2] at hq
     split at hq
     ·simp at hq
     ·simp only [Option.some.injEq,Sum.inl.injEq,Pl.o.injEq] at hq
      omega
   | none =>
    simp only [h1] at hp
    split at hp
    ·obtain rfl:=Option.some.inj hp
     cases h2 : ixOf ids i' with
     | some j'=>simp [h2] at hq
     | none =>
      simp only [h2] at hq
      split at hq
      ·simp only [Option.some.injEq,Sum.inr.injEq,Pl.o.injEq] at hq
       rw [hq.1,hq.2.1,hq.2.2]
      ·simp at hq
    ·rename_i hge
     obtain rfl:=Option.some.inj hp
     cases h2 : ixOf ids i' with
     | some j' =>
      have l2:=(List.getElem?_eq_some_iff.1 (ixOf_get h2)).1
      simp only [h2,Option.some.injEq,Sum.inl.injEq,Pl.o.injEq] at hq
      omega
     | none =>
      simp only [h2] at hq
      split at hq
      ·simp at hq
      ·rename_i hge'
       simp only [Option.some.injEq,Sum.inl.injEq,Pl.o.injEq] at hq
       have : i = i':=by omega
       rw [this,hq.2.1,hq.2.2]
theorem plBack_private {n0 : Nat} {p q : Pl} (hp : plBack ids n0 S n d p = some (.inr q)) : ∀ x,plUp ids S n x ≠ some q:=by
 intro x hx
 cases p with
 | t k =>
  simp only [plBack] at hp
  split at hp
  ·cases hp
  ·split at hp
   ·cases hp
   ·rename_i hsc
    simp only [Option.some.injEq,Sum.inr.injEq] at hp
    subst hp
    cases x with
    | t k' =>
     simp only [plUp] at hx
     split at hx
     ·have:=Option.some.inj hx
      simp only [Pl.t.injEq] at this
      exact hsc ⟨by omega,by omega⟩
     ·cases hx
    | o j r c=>simp only [plUp] at hx;cases h : ids[j]?<;>simp [h] at hx
 | o i r c =>
  simp only [plBack] at hp
  cases h1 : ixOf ids i with
  | some j=>simp [h1] at hp
  | none =>
   simp only [h1] at hp
   split at hp
   ·simp only [Option.some.injEq,Sum.inr.injEq] at hp
    subst hp
    cases x with
    | t k'=>simp only [plUp] at hx;split at hx<;>simp at hx
    | o j r' c' =>
     simp only [plUp] at hx
     cases h2 : ids[j]? with
     | none=>simp [h2] at hx
     | some i' =>
      simp only [h2,Option.map_some,Option.some.injEq,Pl.o.injEq] at hx
      exact ixOf_none h1 j (by rw [h2,hx.1])
   ·cases hp
theorem Rel.up (h : Rel w Z m reg t u o) (H : Hand o ids oc)
  (hr : Rel w' (ZDown Z m reg o ids S n oc) m' reg' (fun k=>if k = 0 then r else .any) (fun k=>if k = 0 then v else undef) o')
  (hE : Evol w (XS (mDown m ids) (regDown reg ids S n) oc) w') (hX : ∀ b x,XS m' reg' o' b x → XS (mDown m ids) (regDown reg ids S n) oc b x ∨ w.heap.size ≤ b)
  (hm : ∀ (id : Nat) mb,(mDown m ids)[id]? = some mb → m'[id]? = some mb)
  (tv1 : ∀ k,V w (YS Z m reg o) m (t1 k) (u1 k)) (own1 : ∀ k sz rows,t1 k = .own sz rows → ¬ (S ≤ k ∧ k < S + n) → OwnAt w (reg (.t k)) sz rows.length (u1 k))
  (own2 : ∀ k sz rows,t1 k = .own sz rows → S ≤ k ∧ k < S + n → OwnAt w none sz rows.length (u1 k)) :
  Rel w' Z (m ++ m'.drop ids.length) (regBack reg reg' ids o.length S n d) (upd t1 d (r.ren (phi ids o.length))) (upd u1 d v) (after o ids o') ∧ Evol w (XS m reg o) w' ∧
   (∀ b x,XS (m ++ m'.drop ids.length) (regBack reg reg' ids o.length S n d) (after o ids o') b x → XS m reg o b x ∨ w.heap.size ≤ b):=by
 have hlc : ids.length ≤ m'.length:=by
  rcases Nat.lt_or_ge m'.length ids.length with h0 | h0
  ·have hl : m'.length < (mDown m ids).length:=by simpa [mDown] using h0
   have:=hm m'.length _ (List.getElem?_eq_getElem hl)
   rw [List.getElem?_eq_none (Nat.le_refl _)] at this
   cases this
  ·exact h0
 have hlo : ids.length ≤ o'.length:=by rw [← hr.len];exact hlc
 have hids : ∀ {j i : Nat},ids[j]? = some i → i < o.length:=fun hj=>by
  obtain ⟨x,_,h2,_⟩:=H.get _ _ hj
  exact (List.getElem?_eq_some_iff.1 h2).1
 -- the objects,seen from the callee
 have aft_old : ∀ {i : Nat},i < o.length → (∀ (j : Nat),ids[j]? ≠ some i) → (after o ids o')[i]? = o[i]?:=by
  intro i hi hno
  unfold after
  rw [List.getElem?_append_left (by rw [back_length];exact hi),back_other _ _ _ _ hno]
 have aft_hand : ∀ {i j : Nat},ids[j]? = some i → (after o ids o')[i]? = (o'[j]?).map (Ob.ren (phi ids o.length)):=by
  intro i j hj
  have hjl:=(List.getElem?_eq_some_iff.1 hj).1
  unfold after
  rw [List.getElem?_append_left (by rw [back_length];exact hids hj),back_get _ _ _ i j H.nodup (by simp;omega) hj (hids hj)]
  rw [List.getElem?_map,List.getElem?_take,if_pos hjl]
 have aft_new : ∀ {i : Nat},o.length ≤ i → (after o ids o')[i]? = (o'[i - o.length + ids.length]?).map (Ob.ren (phi ids o.length)):=by
  intro i hi
  unfold after
  rw [List.getElem?_append_right (by rw [back_length];exact hi),back_length,List.getElem?_map,List.getElem?_drop,Nat.add_comm]
 have m_old : ∀ {i : Nat},i < o.length → (m ++ m'.drop ids.length)[i]? = m[i]?:=fun hi=>List.getElem?_append_left (by rw [h.len];exact hi)
 have m_new : ∀ {i : Nat},o.length ≤ i → (m ++ m'.drop ids.length)[i]? = m'[i - o.length + ids.length]?:=by
  intro i hi
  rw [List.getElem?_append_right (by rw [h.len];exact hi),h.len,List.getElem?_drop,Nat.add_comm]
 have hφ : ∀ (id : Nat) mb,m'[id]? = some mb → (m ++ m'.drop ids.length)[phi ids o.length id]? = some mb:=by
  intro id mb hmb
  unfold phi
  split
  ·rename_i hlt
   have e:=List.getElem?_eq_getElem hlt
   rw [List.getD_eq_getElem?_getD,e,Option.getD_some,m_old (hids e)]
   obtain ⟨q1,q2⟩:=mDown_get H h.len e
   have:=hm id (m[ids[id]]'q2) (by rw [q1,List.getElem?_eq_getElem q2])
   rw [hmb] at this
   rw [List.getElem?_eq_getElem q2,← this]
  ·rename_i hge
   rw [m_new (by omega),show o.length + (id - ids.length) - o.length + ids.length = id by omega]
   exact hmb
 -- kinds of objects behind the call
 have cases_ob : ∀ {i : Nat} {x : Ob} {mb : MB},(after o ids o')[i]? = some x → (m ++ m'.drop ids.length)[i]? = some mb →
   (∃ j x',o'[j]? = some x' ∧ x = x'.ren (phi ids o.length) ∧ m'[j]? = some mb ∧ phi ids o.length j = i) ∨ (i < o.length ∧ (∀ (j : Nat),ids[j]? ≠ some i) ∧ o[i]? = some x ∧ m[i]? = some mb):=by
  intro i x mb hx hmb
  by_cases hi : i < o.length
  ·cases hq : ixOf ids i with
   | some j =>
    have hj:=ixOf_get hq
    rw [aft_hand hj] at hx
    cases ho' : o'[j]? with
    | none=>simp [ho'] at hx
    | some x' =>
     simp only [ho',Option.map_some,Option.some.injEq] at hx
     rw [m_old hi] at hmb
     obtain ⟨q1,_⟩:=mDown_get H h.len hj
     have hjl:=(List.getElem?_eq_some_iff.1 hj)
     exact .inl ⟨j,x',ho',hx.symm,hm j mb (by rw [q1,hmb]),by unfold phi;rw [if_pos hjl.1,List.getD_eq_getElem?_getD,hj];rfl⟩
   | none =>
    have hno:=ixOf_none hq
    rw [aft_old hi hno] at hx
    rw [m_old hi] at hmb
    exact .inr ⟨hi,hno,hx,hmb⟩
  ·have hi:=Nat.not_lt.1 hi
   rw [aft_new hi] at hx
   rw [m_new hi] at hmb
   cases ho' : o'[i - o.length + ids.length]? with
   | none=>simp [ho'] at hx
   | some x' =>
    simp only [ho',Option.map_some,Option.some.injEq] at hx
    exact .inl ⟨_,x',ho',hx.symm,hmb,by unfold phi;rw [if_neg (by omega)];omega⟩
 -- a callee's block is none of the caller's own
 have sep : ∀ {b x : Nat},XS m' reg' o' b x → (∀ (i : Nat) y mb,i < o.length → (∀ (j : Nat),ids[j]? ≠ some i) → o[i]? = some y → y.live → m[i]? = some mb → mb.blk ≠ b) ∧
   ∀ p q rg,plBack ids o.length S n d p = some (.inr q) → reg q = some rg → rg.blk ≠ b:=by
  intro b x hx
  rcases hX b x hx with hx | hx
  ·rcases hx with ⟨j,ob,mb',g1,g2,g3,g4⟩ | ⟨p',rg',g1,g2⟩
   ·obtain ⟨i',e1,e2,_⟩:=hand_some H g1
    obtain ⟨i2,e3,e4⟩:=mDown_some H h.len g3
    rw [e1] at e3
    obtain rfl:=Option.some.inj e3
    refine ⟨fun i y mb hi hno hy hl hmb e=>?_,fun p q rg hp hrg e=>?_⟩
    ·have:=h.inj i i' _ _ mb mb' hy e2 hl ((Ob.ren_live _ _).2 g2) hmb e4 (by rw [e,g4])
     exact hno j (by rw [e1,this])
    ·exact h.rob q rg i' _ mb' hrg e2 ((Ob.ren_live _ _).2 g2) e4 (by rw [g4,e])
   ·simp only [regDown] at g1
    cases hp' : plUp ids S n p' with
    | none=>simp [hp'] at g1
    | some q' =>
     simp only [hp',Option.bind_some] at g1
     refine ⟨fun i y mb hi hno hy hl hmb e=>?_,fun p q rg hp hrg e=>?_⟩
     ·exact h.rob q' rg' i y mb g1 hy hl hmb (by rw [e,g2.1])
     ·refine h.rdj q q' rg rg' (fun eq=>?_) hrg g1 (by rw [e,g2.1])
      subst eq
      exact plBack_private hp p' hp'
  ·refine ⟨fun i y mb hi hno hy hl hmb e=>?_,fun p q rg hp hrg e=>?_⟩
   ·have:=h.blk hy hl hmb;omega
   ·have:=h.rok q rg hrg;omega
 -- what is written behind the call is the callee's or the caller's own
 have hXX : ∀ b x,XS (m ++ m'.drop ids.length) (regBack reg reg' ids o.length S n d) (after o ids o') b x → XS m' reg' o' b x ∨ (XS m reg o b x ∧ ¬ XS (mDown m ids) (regDown reg ids S n) oc b x):=by
  rintro b x (⟨i,ob,mb,g1,g2,g3,g4⟩ | ⟨p,rg,g1,g2⟩)
  ·rcases cases_ob g1 g3 with ⟨j,x',e1,e2,e3,_⟩ | ⟨e1,e2,e3,e4⟩
   ·subst e2
    exact .inl (.inl ⟨j,x',mb,e1,(Ob.ren_live _ _).1 g2,e3,g4⟩)
   ·refine .inr ⟨.inl ⟨i,ob,mb,e3,g2,e4,g4⟩,?_⟩
    rintro (⟨j,ob',mb',q1,q2,q3,q4⟩ | ⟨p',rg',q1,q2⟩)
    ·obtain ⟨i',f1,f2,_⟩:=hand_some H q1
     obtain ⟨i2,f3,f4⟩:=mDown_some H h.len q3
     rw [f1] at f3
     obtain rfl:=Option.some.inj f3
     have:=h.inj i i' _ _ mb mb' e3 f2 g2 ((Ob.ren_live _ _).2 q2) e4 f4 (by rw [g4,q4])
     exact e2 j (by rw [f1,this])
    ·simp only [regDown] at q1
     cases hp' : plUp ids S n p' with
     | none=>simp [hp'] at q1
     | some q' =>
      simp only [hp',Option.bind_some] at q1
      exact h.rob q' rg' i ob mb q1 e3 g2 e4 (by rw [g4,q2.1])
  ·simp only [regBack] at g1
   split at g1
   ·rename_i q hq
    exact .inl (.inr ⟨q,rg,g1,g2⟩)
   ·rename_i q hq
    refine .inr ⟨.inr ⟨q,rg,g1,g2⟩,?_⟩
    rintro (⟨j,ob',mb',q1,q2,q3,q4⟩ | ⟨p',rg',q1,q2⟩)
    ·obtain ⟨i',f1,f2,_⟩:=hand_some H q1
     obtain ⟨i2,f3,f4⟩:=mDown_some H h.len q3
     rw [f1] at f3
     obtain rfl:=Option.some.inj f3
     exact h.rob q rg i' _ mb' g1 f2 ((Ob.ren_live _ _).2 q2) f4 (by rw [q4,g2.1])
    ·simp only [regDown] at q1
     cases hp' : plUp ids S n p' with
     | none=>simp [hp'] at q1
     | some q' =>
      simp only [hp',Option.bind_some] at q1
      refine h.rdj q q' rg rg' (fun eq=>?_) g1 q1 (by rw [g2.1,q2.1])
      subst eq
      exact plBack_private hq p' hp'
   ·cases g1
 have notX : ∀ {p q : Pl} {rg : Reg},plBack ids o.length S n d p = some (.inr q) → reg q = some rg → ∀ x,¬ XS (mDown m ids) (regDown reg ids S n) oc rg.blk x:=by
  intro p q rg hq g1 x
  rintro (⟨j,ob',mb',q1,q2,q3,q4⟩ | ⟨p',rg',q1,q2⟩)
  ·obtain ⟨i',f1,f2,_⟩:=hand_some H q1
   obtain ⟨i2,f3,f4⟩:=mDown_some H h.len q3
   rw [f1] at f3
   obtain rfl:=Option.some.inj f3
   exact h.rob q rg i' _ mb' g1 f2 ((Ob.ren_live _ _).2 q2) f4 q4
  ·simp only [regDown] at q1
   cases hp' : plUp ids S n p' with
   | none=>simp [hp'] at q1
   | some q' =>
    simp only [hp',Option.bind_some] at q1
    refine h.rdj q q' rg rg' (fun eq=>?_) g1 q1 q2.1.symm
    subst eq
    exact plBack_private hq p' hp'
 have hXf : ∀ b x,XS (m ++ m'.drop ids.length) (regBack reg reg' ids o.length S n d) (after o ids o') b x → XS m reg o b x ∨ w.heap.size ≤ b:=by
  intro b x k
  rcases hXX b x k with k | k
  ·rcases hX b x k with k | k
   ·exact .inl (XS_down h H b x k)
   ·exact .inr k
  ·exact .inl k.1
 have hEv : Evol w (XS m reg o) w':=hE.mono fun b x k=>.inl (XS_down h H b x k)
 -- readings are handed on
 have KC : ∀ mm,Keeps w' (YS (ZDown Z m reg o ids S n oc) m' reg' o') mm w' (YS Z (m ++ m'.drop ids.length) (regBack reg reg' ids o.length S n d) (after o ids o')) mm:=by
  intro mm
  refine Keeps.sub mm fun b x k=>?_
  rcases k with k | k
  ·rcases hXX b x k with k | k
   ·exact .inl k
   ·exact .inr ⟨.inl k.1,k.2⟩
  ·exact .inr ⟨.inr k,fun k'=>h.zx b x k (XS_down h H b x k')⟩
 have KO : Keeps w (YS Z m reg o) m w' (YS Z (m ++ m'.drop ids.length) (regBack reg reg' ids o.length S n d) (after o ids o')) (m ++ m'.drop ids.length):=by
  refine ⟨fun b x v hc hy=>⟨hE.cell b x v (fun k=>hy (.inl (XS_down h H b x k))) hc,?_⟩,fun id mb hmb=>?_⟩
  ·rintro (k | k)
   ·rcases hXf b x k with k | k
    ·exact hy (.inl k)
    ·have:=cell_lt hc;omega
   ·exact hy (.inr k)
  ·rw [m_old (by rw [← h.len];exact (List.getElem?_eq_some_iff.1 hmb).1)];exact hmb
 have keepBlk : ∀ {i : Nat} {y : Ob} {mb : MB},i < o.length → (∀ (j : Nat),ids[j]? ≠ some i) → o[i]? = some y → y.live → m[i]? = some mb → w'.heap[mb.blk]? = w.heap[mb.blk]?:=by
  intro i y mb hi hno hy hl hmb
  refine hE.block _ (h.blk hy hl hmb) fun x k=>?_
  rcases k with ⟨j,ob',mb',q1,q2,q3,q4⟩ | ⟨p',rg',q1,q2⟩
  ·obtain ⟨i',f1,f2,_⟩:=hand_some H q1
   obtain ⟨i2,f3,f4⟩:=mDown_some H h.len q3
   rw [f1] at f3
   obtain rfl:=Option.some.inj f3
   have:=h.inj i i' _ _ mb mb' hy f2 hl ((Ob.ren_live _ _).2 q2) hmb f4 q4.symm
   exact hno j (by rw [f1,this])
  ·simp only [regDown] at q1
   cases hp' : plUp ids S n p' with
   | none=>simp [hp'] at q1
   | some q' =>
    simp only [hp',Option.bind_some] at q1
    exact h.rob q' rg' i y mb q1 hy hl hmb q2.1.symm
 refine ⟨⟨?_,?_,?_,?_,?_,?_,?_,?_,?_,?_⟩,hEv,hXf⟩
 ·simp only [after,List.length_append,back_length,List.length_map,List.length_drop,h.len,hr.len]
 ·intro k
  unfold upd
  split
  ·have:=hr.tv 0
   simp only [if_true] at this
   exact V.keep (KC _) _ _ (V.ren hφ _ _ this)
  ·exact V.keep KO _ _ (tv1 k)
 ·intro i x mb hx hmb
  rcases cases_ob hx hmb with ⟨j,x',e1,e2,e3,_⟩ | ⟨e1,e2,e3,e4⟩
  ·subst e2
   exact Ob.keep (KC _) _ (fun _=>rfl) (ObR.ren hφ x' (hr.ob j x' mb e1 e3))
  ·exact Ob.keep KO x (fun hl=>keepBlk e1 e2 e3 hl e4) (h.ob i x mb e3 e4)
 ·intro i j x y a b hi hj lx ly ha hb e
  rcases cases_ob hi ha with ⟨i1,x',e1,rfl,e3,e4⟩ | ⟨e1,e2,e3,e4⟩
  ·rcases cases_ob hj hb with ⟨j1,y',f1,rfl,f3,f4⟩ | ⟨f1,f2,f3,f4⟩
   ·have:=hr.inj i1 j1 x' y' a b e1 f1 ((Ob.ren_live _ _).1 lx) ((Ob.ren_live _ _).1 ly) e3 f3 e
    rw [← e4,← f4,this]
   ·exact absurd e.symm ((sep (b:=a.blk) (x:=0) (.inl ⟨i1,x',a,e1,(Ob.ren_live _ _).1 lx,e3,rfl⟩)).1 j y b f1 f2 f3 ly f4)
  ·rcases cases_ob hj hb with ⟨j1,y',f1,rfl,f3,f4⟩ | ⟨f1,f2,f3,f4⟩
   ·exact absurd e ((sep (b:=b.blk) (x:=0) (.inl ⟨j1,y',b,f1,(Ob.ren_live _ _).1 ly,f3,rfl⟩)).1 i x a e1 e2 e3 lx e4)
   ·exact h.inj i j x y a b e3 f3 lx ly e4 f4 e
 ·intro p rg hp
  simp only [regBack] at hp
  split at hp
  ·exact hr.rok _ rg hp
  ·exact Nat.lt_of_lt_of_le (h.rok _ rg hp) hE.size
  ·cases hp
 ·intro p rg i x mb hp hi hl hmb
  simp only [regBack] at hp
  split at hp
  ·rename_i q hq
   rcases cases_ob hi hmb with ⟨j,x',e1,rfl,e3,_⟩ | ⟨e1,e2,e3,e4⟩
   ·exact hr.rob q rg j x' mb hp e1 ((Ob.ren_live _ _).1 hl) e3
   ·exact (sep (b:=rg.blk) (x:=rg.lo) (.inr ⟨q,rg,hp,rfl,Nat.le_refl _⟩)).1 i x mb e1 e2 e3 hl e4
  ·rename_i q hq
   rcases cases_ob hi hmb with ⟨j,x',e1,rfl,e3,_⟩ | ⟨e1,e2,e3,e4⟩
   ·exact ((sep (b:=mb.blk) (x:=0) (.inl ⟨j,x',mb,e1,(Ob.ren_live _ _).1 hl,e3,rfl⟩)).2 p q rg hq hp).symm
   ·exact h.rob q rg i x mb hp e3 hl e4
  ·cases hp
 ·intro p q r1 s1 hpq hp hq
  simp only [regBack] at hp hq
  split at hp
  ·rename_i p' hp'
   split at hq
   ·rename_i q' hq'
    exact hr.rdj p' q' r1 s1 (fun e=>hpq (plBack_inj H.nodup hp' (e ▸ hq'))) hp hq
   ·rename_i q' hq'
    exact ((sep (b:=r1.blk) (x:=r1.lo) (.inr ⟨p',r1,hp,rfl,Nat.le_refl _⟩)).2 q q' s1 hq' hq).symm
   ·cases hq
  ·rename_i p' hp'
   split at hq
   ·rename_i q' hq'
    exact (sep (b:=s1.blk) (x:=s1.lo) (.inr ⟨q',s1,hq,rfl,Nat.le_refl _⟩)).2 p p' r1 hp' hp
   ·rename_i q' hq'
    exact h.rdj p' q' r1 s1 (fun e=>hpq (plBack_inj H.nodup hp' (e ▸ hq'))) hp hq
   ·cases hq
  ·cases hp
 ·intro p sz rows v0 hl hv
  have lift : ∀ {q : Pl} {n1 : Nat} {v1 : Value},plBack ids o.length S n d p = some (.inr q) → OwnAt w (reg q) sz n1 v1 → OwnAt w' (reg q) sz n1 v1:=by
   rintro q n1 v1 hq ⟨a,cap,e1,e2⟩
   refine ⟨a,cap,e1,fun hlt=>?_⟩
   obtain ⟨blk,off,lo,c,e,f1,f2,f3,f4,f5⟩:=e2 hlt
   refine ⟨blk,off,lo,c,e,f1,f2,f3,?_,f5⟩
   rw [hE.block blk (h.rok q _ f2) (fun x=>notX hq f2 x)]
   exact f4
  cases p with
  | t k =>
   simp only [leaf,Option.some.injEq] at hl
   simp only [valAt,Option.some.injEq] at hv
   subst hv
   unfold upd at hl ⊢
   by_cases hk : k = d
   ·subst hk
    simp only [if_true] at hl ⊢
    have hr0 : r = .own sz rows:=by
     cases r<;>simp only [AV.ren] at hl<;>first | exact hl | cases hl
    have:=hr.own (.t 0) sz rows v (by simp [leaf,hr0]) (by simp [valAt])
    simpa [regBack,plBack] using this
   ·simp only [if_neg hk] at hl ⊢
    by_cases hsc : S ≤ k ∧ k < S + n
    ·obtain ⟨a,cap,e1,e2⟩:=own2 k sz rows hl hsc
     exact ⟨a,cap,e1,fun hlt=>by obtain ⟨_,_,_,_,_,_,f,_⟩:=e2 hlt;cases f⟩
    ·have hq : plBack ids o.length S n d (.t k) = some (.inr (.t k)):=by simp only [plBack,if_neg hk,if_neg hsc]
     have:=lift hq (own1 k sz rows hl hsc)
     simpa only [regBack,hq] using this
  | o i r1 c =>
   cases hm' : (m ++ m'.drop ids.length)[i]? with
   | none=>simp [valAt,hm'] at hv
   | some mb =>
    cases ho' : (after o ids o')[i]? with
    | none=>simp [leaf,ho'] at hl
    | some y =>
     rcases cases_ob ho' hm' with ⟨j,x',e1,e2,e3,e4⟩ | ⟨e1,e2,e3,e4⟩
     ·have hq : plBack ids o.length S n d (.o i r1 c) = some (.inl (.o j r1 c)):=by
       simp only [plBack]
       unfold phi at e4
       split at e4
       ·rename_i hlt
        have e:=List.getElem?_eq_getElem hlt
        rw [List.getD_eq_getElem?_getD,e,Option.getD_some] at e4
        rw [e4] at e
        rw [ixOf_of_get H.nodup e]
       ·rename_i hge
        have : ixOf ids i = none:=by
         cases hx : ixOf ids i with
         | none=>rfl
         | some j'=>have:=hids (ixOf_get hx);omega
        simp only [this]
        rw [if_neg (by omega)]
        rw [show i - o.length + ids.length = j by omega]
      simp only [regBack,hq]
      refine hr.own (.o j r1 c) sz rows v0 ?_ ?_
      ·simp only [leaf,ho'] at hl
       simp only [leaf,e1]
       subst e2
       cases x' with
       | cells sz' rows' =>
        simp only [Ob.ren,List.getElem?_map] at hl
        cases hr1 : rows'[r1]? with
        | none=>simp [hr1] at hl
        | some row =>
         simp only [hr1,Option.map_some,Option.bind_some,List.getElem?_map] at hl ⊢
         cases hc : row[c]? with
         | none=>simp [hc] at hl
         | some a =>
          simp only [hc,Option.map_some,Option.some.injEq] at hl ⊢
          cases a<;>simp only [AV.ren] at hl<;>first | exact hl | cases hl
       | _=>simp [Ob.ren] at hl
      ·simp only [valAt,hm',Option.bind_some] at hv
       simp only [valAt,e3,Option.bind_some,hv]
     ·have hno : ixOf ids i = none:=by
       cases hx : ixOf ids i with
       | none=>rfl
       | some j'=>exact absurd (ixOf_get hx) (e2 j')
      have hq : plBack ids o.length S n d (.o i r1 c) = some (.inr (.o i r1 c)):=by
       simp only [plBack,hno]
       rw [if_pos e1]
      have hlive : y.live:=by
       simp only [leaf,ho'] at hl
       cases y with
       | cells _ _=>trivial
       | _=>simp at hl
      have hb:=keepBlk e1 e2 e3 hlive e4
      have:=h.own (.o i r1 c) sz rows v0 (by simpa only [leaf,ho',e3] using hl) (by
       simp only [valAt,hm',Option.bind_some] at hv
       simp only [valAt,e4,Option.bind_some]
       rw [← hv];unfold World.cell?;rw [hb])
      simpa only [regBack,hq] using lift hq this
 ·intro b x hz k
  rcases hXX b x k with k | k
  ·rcases hX b x k with k | k
   ·exact h.zx b x hz (XS_down h H b x k)
   ·have:=h.zs b x hz;omega
  ·exact h.zx b x hz k.1
 ·intro b x hz
  exact Nat.lt_of_lt_of_le (h.zs b x hz) hE.size
end
end Go.AW
namespace Go.AW
open Go
set_option linter.unusedSimpArgs false
set_option linter.unusedVariables false
structure Le (a b : AV) : Prop where
 v : ∀ w Y m v,V w Y m a v → V w Y m b v
 own : b.isOwn = true → a = b ∨ a = .nsl
theorem Le.refl (a : AV) : Le a a:=⟨fun _ _ _ _ h=>h,fun _=>.inl rfl⟩
theorem Le.any (a : AV) : Le a .any:=⟨fun _ _ _ _ _=>by simp only [V],fun h=>by cases h⟩
theorem Le.nslO (sz : Nat) : Le .nsl (.own sz []):=⟨fun w Y m v h=>by
 simp only [V] at h ⊢
 exact ⟨none,0,h,Nat.le_refl _,Nat.zero_le _,.inl trivial⟩,fun h=>.inr rfl⟩
theorem Le.dat (sz : Nat) (rows : List (List AV)) : Le (.own sz rows) (.sl sz rows):=⟨fun w Y m v h=>by simpa only [V] using h,fun h=>by cases h⟩
theorem Le.of_eq {a b : AV} (h : a = b) : Le a b:=h ▸ .refl a
theorem Le.dat' (a : AV) : Le a a.dat:=⟨fun w Y m v h=>V.dat a v h,fun h=>by rw [AV.dat_isOwn] at h;cases h⟩
section
variable {w w' : World} {Z : CS} {m : List MB} {reg : Pl → Option Reg} {t t' : Nat → AV} {u u' : Nat → Value} {o : List Ob}
theorem Rel.weak (h : Rel w Z m reg t u o) (hle : ∀ k,Le (t k) (t' k)) : Rel w Z m reg t' u o:=by
 refine h.slots (fun p r h=>⟨p,h⟩) h.rdj (fun k=>(hle k).v _ _ _ _ (h.tv k)) ?_
 intro p sz rows v hl hv
 cases p with
 | o id r c=>exact h.own _ sz rows v hl hv
 | t k =>
  simp only [leaf,Option.some.injEq] at hl
  rcases (hle k).own (by rw [hl];rfl) with e | e
  ·exact h.own (.t k) sz rows v (by rw [leaf,e,hl]) hv
  ·have h1:=h.tv k
   rw [e] at h1
   simp only [V] at h1
   have h2:=(hle k).v _ _ _ _ (h.tv k)
   rw [hl] at h2
   simp only [V] at h2
   obtain ⟨a,cap,q1,q2,_⟩:=h2
   simp only [valAt,Option.some.injEq] at hv
   subst hv
   rw [h1] at q1
   simp only [Value.slice.injEq] at q1
   obtain ⟨rfl,q3,q4⟩:=q1
   exact ⟨none,cap,by rw [h1,← q3,← q4],fun hn=>by omega⟩
theorem Rel.one (h : Rel w Z m reg t u o) (k : Nat) :
  Rel w Z m (fun p=>match p with | .t j=>if j = 0 then reg (.t k) else none | p=>reg p) (fun j=>if j = 0 then t k else .any) (fun j=>if j = 0 then u k else undef) o ∧
  (∀ b x,XS m (fun p=>match p with | .t j=>if j = 0 then reg (.t k) else none | p=>reg p) o b x → XS m reg o b x):=by
 have hs : ∀ p r,(match p with | .t j=>if j = 0 then reg (.t k) else none | p=>reg p) = some r → ∃ q,reg q = some r ∧ (p = .t 0 ∧ q = .t k ∨ ∃ i r c,p = .o i r c ∧ q = p):=by
  intro p r hp
  cases p with
  | t j =>
   simp only at hp
   split at hp
   ·rename_i e;subst e;exact ⟨_,hp,.inl ⟨rfl,rfl⟩⟩
   ·cases hp
  | o i r' c=>exact ⟨_,hp,.inr ⟨i,r',c,rfl,rfl⟩⟩
 refine ⟨h.slots (fun p r hp=>let ⟨q,hq,_⟩:=hs p r hp;⟨q,hq⟩) ?_ ?_ ?_,?_⟩
 ·intro p q r s hpq hp hq
  obtain ⟨p',hp',cp⟩:=hs p r hp
  obtain ⟨q',hq',cq⟩:=hs q s hq
  refine h.rdj p' q' r s ?_ hp' hq'
  rintro rfl
  rcases cp with ⟨rfl,rfl⟩ | ⟨_,_,_,rfl,e⟩
  ·rcases cq with ⟨rfl,_⟩ | ⟨_,_,_,rfl,e'⟩
   ·exact hpq rfl
   ·cases e'
  ·rcases cq with ⟨rfl,e'⟩ | ⟨_,_,_,rfl,e'⟩
   ·rw [e] at e';cases e'
   ·exact hpq (e.symm.trans e')
 ·intro j
  by_cases hj : j = 0
  ·simp only [if_pos hj];exact h.tv k
  ·simp only [if_neg hj,V]
 ·intro p sz rows v hl hv
  cases p with
  | t j =>
   simp only [leaf,Option.some.injEq] at hl
   simp only [valAt,Option.some.injEq] at hv
   by_cases hj : j = 0
   ·rw [if_pos hj] at hl hv
    simpa only [if_pos hj] using h.own (.t k) sz rows v (by rw [leaf,hl]) (by rw [valAt,hv])
   ·rw [if_neg hj] at hl;cases hl
  | o i r c=>exact h.own _ sz rows v hl hv
 ·rintro b x (k' | ⟨p,r,h1,h2⟩)
  ·exact .inl k'
  ·obtain ⟨q,hq,_⟩:=hs p r h1
   exact .inr ⟨q,r,hq,h2⟩
end
def callOk (P : Program) (f : FuncId) : Bool := match P.funcs[f]? with | some fn => !(fn.name == "runtime.NumGoroutine") && !fn.body.isNone | none => false
theorem callOk_run {P : Program} {f : FuncId} (h : callOk P f = true) (args : Array Value) (w : World) : (callFunc f args).run P w = .ok (.enter f args) w:=by
 unfold callOk at h
 unfold callFunc
 rw [srun_bind_ok srun_program]
 split at h
 ·rename_i fn hf
  rw [hf]
  simp only [Bool.and_eq_true,Bool.not_eq_true'] at h
  simp only [h.1,h.2,Bool.false_eq_true,if_false]
  rfl
 ·cases h
def ACalls (P : Program) (f : FuncId) (ac : List AV) (oc : List Ob) (R : AV → List Ob → Prop) : Prop:=callOk P f = true ∧
 ∀ (w : World) (Z : CS) (m : List MB) (reg : Pl → Option Reg) (vs : List Value),vs.length = ac.length →
  Rel w Z m reg (fun k=>ac.getD k .any) (fun k=>vs.getD k undef) oc →
  Calls P f vs.toArray w fun e w'=>∃ v r o' m' reg',e = .returned v ∧ R r o' ∧
   Rel w' Z m' reg' (fun k=>if k = 0 then r else .any) (fun k=>if k = 0 then v else undef) o' ∧ Evol w (XS m reg oc) w' ∧
   (∀ b x,XS m' reg' o' b x → XS m reg oc b x ∨ w.heap.size ≤ b) ∧ ∀ (id : Nat) mb,m[id]? = some mb → m'[id]? = some mb
def rotL {α : Type} (d : α) : Bool → List α → List α
 | false,l=>l
 | true,l=>l.getLastD d :: l.dropLast
def ACallsR (P : Program) (b : Bool) (f : FuncId) (ac : List AV) (oc : List Ob) (R : AV → List Ob → Prop) : Prop:=callOk P f = true ∧
 ∀ (w : World) (Z : CS) (m : List MB) (reg : Pl → Option Reg) (vs : List Value),vs.length = ac.length →
  Rel w Z m reg (fun k=>ac.getD k .any) (fun k=>vs.getD k undef) oc →
  Calls P f (rotL undef b vs).toArray w fun e w'=>∃ v r o' m' reg',e = .returned v ∧ R r o' ∧
   Rel w' Z m' reg' (fun k=>if k = 0 then r else .any) (fun k=>if k = 0 then v else undef) o' ∧ Evol w (XS m reg oc) w' ∧
   (∀ b x,XS m' reg' o' b x → XS m reg oc b x ∨ w.heap.size ≤ b) ∧ ∀ (id : Nat) mb,m[id]? = some mb → m'[id]? = some mb
def calleeV : AV → Option (Bool × FuncId × List AV)
 | .fn f caps=>some (false,f,caps)
 | .bm f v=>some (true,f,[v])
 | _=>none
def calV (b : Bool) (f : FuncId) (cs : Array Value) : Value:=if b then .func (.func f) cs #[] else .func (.func f) #[] cs
theorem calleeV_V {w : World} {Y : CS} {m : List MB} {a : AV} {v : Value} {b : Bool} {f : FuncId} {caps : List AV} (h : calleeV a = some (b,f,caps)) (hv : V w Y m a v) :
  ∃ cs : Array Value,v = calV b f cs ∧ Vs w Y m caps cs.toList ∧ (b = true → ∃ y,cs = #[y]):=by
 unfold calleeV at h
 split at h
 ·simp only [Option.some.injEq,Prod.mk.injEq] at h
  obtain ⟨rfl,rfl,rfl⟩:=h
  simp only [V] at hv
  obtain ⟨cs,h1,h2⟩:=hv
  exact ⟨cs,h1,h2,fun e=>by cases e⟩
 ·simp only [Option.some.injEq,Prod.mk.injEq] at h
  obtain ⟨rfl,rfl,rfl⟩:=h
  simp only [V] at hv
  obtain ⟨y,h1,h2⟩:=hv
  exact ⟨#[y],h1,by simp only [Vs];exact ⟨y,[],rfl,h2,rfl⟩,fun _=>⟨y,rfl⟩⟩
 ·cases h
theorem Rel.perm {w : World} {Z : CS} {m : List MB} {reg : Pl → Option Reg} {t : Nat → AV} {u : Nat → Value} {o : List Ob} (h : Rel w Z m reg t u o) (π : Nat → Nat) (hπ : ∀ i j,π i = π j → i = j) :
  Rel w Z m (fun p=>match p with | .t k=>reg (.t (π k)) | p=>reg p) (fun k=>t (π k)) (fun k=>u (π k)) o ∧
   ∀ b x,XS m (fun p=>match p with | .t k=>reg (.t (π k)) | p=>reg p) o b x → XS m reg o b x:=by
 have hX : ∀ b x,XS m (fun p=>match p with | .t k=>reg (.t (π k)) | p=>reg p) o b x → XS m reg o b x:=by
  rintro b x (k | ⟨p,r,h1,h2⟩)
  ·exact .inl k
  ·cases p with
   | t k=>exact .inr ⟨.t (π k),r,h1,h2⟩
   | o i r' c=>exact .inr ⟨.o i r' c,r,h1,h2⟩
 have K : Keeps w (YS Z m reg o) m w (YS Z m (fun p=>match p with | .t k=>reg (.t (π k)) | p=>reg p) o) m:=Keeps.sub m fun b x k=>k.imp (hX b x) (fun h=>h)
 refine ⟨⟨h.len,fun k=>V.keep K _ _ (h.tv (π k)),fun id x mb h1 h2=>Ob.keep K x (fun _=>rfl) (h.ob id x mb h1 h2),h.inj,?_,?_,?_,?_,fun b x hz hx=>h.zx b x hz (hX b x hx),h.zs⟩,hX⟩
 ·intro p r hr
  cases p with
  | t k=>exact h.rok _ _ hr
  | o i r' c=>exact h.rok _ _ hr
 ·intro p r id x mb hr
  cases p with
  | t k=>exact h.rob _ _ id x mb hr
  | o i r' c=>exact h.rob _ _ id x mb hr
 ·intro p q r s hne h1 h2
  cases p with
  | t k =>
   cases q with
   | t j=>exact h.rdj _ _ r s (fun e=>hne (by rw [hπ _ _ (Pl.t.inj e)])) h1 h2
   | o i r' c=>exact h.rdj _ _ r s (by simp) h1 h2
  | o i r' c =>
   cases q with
   | t j=>exact h.rdj _ _ r s (by simp) h1 h2
   | o i2 r2 c2=>exact h.rdj _ _ r s hne h1 h2
 ·intro p sz rows v h1 h2
  cases p with
  | t k=>exact h.own (.t (π k)) sz rows v h1 h2
  | o i r' c=>exact h.own (.o i r' c) sz rows v h1 h2
def rotN (N k : Nat) : Nat:=if k = 0 then N else if k ≤ N then k - 1 else k
theorem rotN_inj (N : Nat) : ∀ i j,rotN N i = rotN N j → i = j:=by
 intro i j h
 unfold rotN at h
 split at h<;>split at h<;>(try split at h)<;>(try split at h)<;>omega
theorem rotL_get {α : Type} (d : α) (l : List α) (h : l ≠ []) (k : Nat) : (rotL d true l).getD k d = l.getD (rotN (l.length - 1) k) d:=by
 have hl : 0 < l.length:=List.length_pos_iff.2 h
 unfold rotN
 cases k with
 | zero =>
  simp only [rotL,List.getD_cons_zero,if_true]
  rw [List.getLastD_eq_getLast?,List.getLast?_eq_getElem?,List.getD_eq_getElem?_getD]
 | succ k =>
  simp only [rotL,List.getD_cons_succ]
  rw [if_neg (by omega)]
  split
  ·rename_i hk
   rw [Nat.add_sub_cancel,List.getD_eq_getElem?_getD,List.getD_eq_getElem?_getD,List.getElem?_dropLast,if_pos (by omega)]
  ·rename_i hk
   rw [List.getD_eq_getElem?_getD,List.getD_eq_getElem?_getD,List.getElem?_eq_none (by simp;omega),List.getElem?_eq_none (by omega)]
theorem ACalls.rot {P : Program} {b : Bool} {f : FuncId} {ac : List AV} {oc : List Ob} {R : AV → List Ob → Prop} (hb : b = true → ac ≠ []) (h : ACalls P f (rotL .any b ac) oc R) : ACallsR P b f ac oc R:=by
 cases b with
 | false=>exact h
 | true =>
  have hne:=hb rfl
  refine ⟨h.1,fun w Z m reg vs hl hr=>?_⟩
  have hvn : vs ≠ []:=by
   intro e;rw [e] at hl
   exact hne (List.length_eq_zero_iff.1 hl.symm)
  obtain ⟨h1,h2⟩:=hr.perm (rotN (ac.length - 1)) (rotN_inj _)
  have e1 : (fun k=>(rotL AV.any true ac).getD k .any) = fun k=>ac.getD (rotN (ac.length - 1) k) .any:=funext fun k=>rotL_get _ _ hne k
  have e2 : (fun k=>(rotL undef true vs).getD k undef) = fun k=>vs.getD (rotN (ac.length - 1) k) undef:=funext fun k=>by rw [← hl];exact rotL_get _ _ hvn k
  rw [← e1,← e2] at h1
  refine Calls.mono (h.2 w Z m _ (rotL undef true vs) (by simp [rotL,hl]) h1) ?_
  rintro e w' ⟨v,r,o',m',reg',k1,k2,k3,k4,k5,k6⟩
  exact ⟨v,r,o',m',reg',k1,k2,k3,k4.mono (fun b x k=>.inl (h2 b x k)),fun b x k=>(k5 b x k).imp (h2 b x) (fun h=>h),k6⟩
theorem ACalls.mono {P : Program} {f : FuncId} {ac : List AV} {oc : List Ob} {R R' : AV → List Ob → Prop} (h : ACalls P f ac oc R) (hR : ∀ r o',R r o' → R' r o') : ACalls P f ac oc R' :=
 ⟨h.1,fun w Z m reg vs hl hr=>Calls.mono (h.2 w Z m reg vs hl hr) fun e w' ⟨v,r,o',m',reg',h1,h2,h3⟩=>⟨v,r,o',m',reg',h1,hR _ _ h2,h3⟩⟩
section
variable {P : Program} {n : Nat} {Q : Exit → St → Prop} {s : St}
def W (P : Program) (n : Nat) (c : Code) (Q : Exit → St → Prop) (s : St) : Prop :=
 ∀ (g : G) (a : Act) (w : World),g.n = n → At g s a w → c.wp P (fun e a' w'=>∃ s',Q e s' ∧ At g s' a' w') a w
theorem W.mono {c : Code} {Q' : Exit → St → Prop} (h : W P n c Q s) (hq : ∀ e s,Q e s → Q' e s) : W P n c Q' s :=
 fun g a w hn h0=>wp_mono (h g a w hn h0) fun e a' w' ⟨s',h1,h2⟩=>⟨s',hq _ _ h1,h2⟩
theorem W_skip (h : Q .normal s) : W P n .skip Q s:=fun _ _ _ _ h0=>wp_skip ⟨s,h,h0⟩
theorem W_label {l : Nat} (h : Q .normal s) : W P n (.label l) Q s:=fun _ _ _ _ h0=>wp_label ⟨s,h,h0⟩
theorem W_ret (h : Q .ret s) : W P n .ret Q s:=fun _ _ _ _ h0=>wp_ret ⟨s,h,h0⟩
theorem W_exit {id : Nat} (h : Q (.exit id) s) : W P n (.exit id) Q s:=fun _ _ _ _ h0=>wp_exit ⟨s,h,h0⟩
def seqQ (P : Program) (n : Nat) (c : Code) (Q : Exit → St → Prop) : Exit → St → Prop
 | .normal,s=>W P n c Q s
 | e,s=>Q e s
theorem W_seq {x y : Code} (h : W P n x (seqQ P n y Q) s) : W P n (.seq x y) Q s:=by
 intro g a w hn h0
 refine wp_seq (wp_mono (h g a w hn h0) ?_)
 rintro e a' w' ⟨s',h1,h2⟩
 cases e with
 | normal=>exact h1 g a' w' hn h2
 | _=>exact ⟨s',h1,h2⟩
theorem seqQ_normal {c : Code} (h : W P n c Q s) : seqQ P n c Q .normal s:=h
theorem seqQ_ret {c : Code} (h : Q .ret s) : seqQ P n c Q .ret s:=h
theorem seqQ_exit {c : Code} {id : Nat} (h : Q (.exit id) s) : seqQ P n c Q (.exit id) s:=h
def blockQ (id : Nat) (Q : Exit → St → Prop) : Exit → St → Prop
 | .exit id',s=>if id' = id then Q .normal s else Q (.exit id') s
 | e,s=>Q e s
theorem W_block {id : Nat} {c : Code} (h : W P n c (blockQ id Q) s) : W P n (.block id c) Q s:=by
 intro g a w hn h0
 refine wp_block (wp_mono (h g a w hn h0) ?_)
 rintro e a' w' ⟨s',h1,h2⟩
 cases e with
 | exit id' =>
  simp only [blockQ] at h1
  simp only [Exit.inBlock]
  split
  ·rename_i e;rw [if_pos e] at h1;exact ⟨s',h1,h2⟩
  ·rename_i e;rw [if_neg e] at h1;exact ⟨s',h1,h2⟩
 | _=>exact ⟨s',h1,h2⟩
theorem blockQ_normal {id : Nat} (h : Q .normal s) : blockQ id Q .normal s:=h
theorem blockQ_ret {id : Nat} (h : Q .ret s) : blockQ id Q .ret s:=h
theorem blockQ_same {id : Nat} (h : Q .normal s) : blockQ id Q (.exit id) s:=by simp only [blockQ,if_true];exact h
theorem blockQ_other {id id' : Nat} (hne : id' ≠ id) (h : Q (.exit id') s) : blockQ id Q (.exit id') s:=by simp only [blockQ,if_neg hne];exact h
theorem W_cond {c : Operand} {x y : Code} {b : Bool} (hc : ung true (opd s.t c) = .b b) (h1 : b = true → W P n x Q s) (h2 : b = false → W P n y Q s) : W P n (.cond c x y) Q s:=by
 intro g a w hn h0
 have hv : a.eval c = .bool b:=by
  obtain ⟨m,reg,h,_⟩:=h0.rel
  have:=ung_V (g:=true) rfl (opd_V h.tv c)
  rw [hc] at this
  simpa only [V] using this
 exact wp_cond_split hv (fun e=>h1 e g a w hn h0) (fun e=>h2 e g a w hn h0)
def topA (a : AV) : AV:=if a.isOwn then a else (ung true a).dat
theorem topA_le (a : AV) : Le a (topA a):=by
 unfold topA
 split
 ·exact .refl a
 ·exact ⟨fun w Y m v h=>V.dat _ _ (ung_V rfl h),fun h=>by rw [AV.dat_isOwn] at h;cases h⟩
def res1 (P : Program) (s : St) : ResultVar → Option AV
 | .tmp k=>some (ung true (s.t k)).dat
 | .cell k t=>match loadR P s.o t (ung true (s.t k)) with | ⟨true,v⟩=>some v.dat | _=>none
def resL (P : Program) (s : St) : List ResultVar → Option (List AV)
 | []=>some []
 | x :: r=>match res1 P s x,resL P s r with | some a,some l=>some (a :: l) | _,_=>none
def resAV (P : Program) (rs : List ResultVar) (s : St) : Option AV :=
 match rs with
 | [.tmp k]=>some (topA (s.t k))
 | [x]=>res1 P s x
 | rs=>match resL P s rs with | some l=>some (.tup l) | none=>none
def endQ (P : Program) (rs : List ResultVar) (no : Nat) (R : AV → List Ob → Prop) : Exit → St → Prop
 | .normal,s | .ret,s=>∃ r r' k,resAV P rs s = some r ∧ Le r r' ∧ no ≤ k ∧ k ≤ s.o.length ∧ ((s.o.take k).all (Ob.ltk k) = true) ∧ r'.ltk k = true ∧ R r' (s.o.take k)
 | _,_=>False
theorem results_one {fn : Func} {k : Nat} {u : Array Value} {w : World} (h : fn.results.toList = [.tmp k]) : (results fn u).run P w = .ok (u.getD k undef) w:=by
 have h' : fn.results = #[.tmp k]:=by rw [← h]
 unfold results
 rw [h']
 simp [srun_pure,Array.mapM_eq_mapM_toList]
def resRun (u : Array Value) : ResultVar → Sem Value
 | .tmp t=>pure (u.getD t undef)
 | .cell a t=>do loadVar t (← asAddr (u.getD a undef))
theorem res1_sound {w : World} {Z : CS} {m : List MB} {reg : Pl → Option Reg} {u : Array Value} (h : Rel w Z m reg s.t (fun k=>u.getD k undef) s.o) {x : ResultVar} {a : AV} (hx : res1 P s x = some a) :
  ∃ v,(resRun u x).run P w = .ok v w ∧ V w (YS Z m reg s.o) m a v ∧ a.isOwn = false:=by
 cases x with
 | tmp k =>
  simp only [res1,Option.some.injEq] at hx
  subst hx
  exact ⟨_,rfl,V.dat _ _ (ung_V rfl (h.tv k)),AV.dat_isOwn _⟩
 | cell k t =>
  simp only [res1] at hx
  split at hx
  ·rename_i v hv
   obtain rfl:=Option.some.inj hx
   have hp:=ung_V (g:=true) rfl (h.tv k)
   obtain ⟨y,q1,q2⟩:=loadR_sound (P:=P) h.len h.ob (by rw [hv]) hp
   rw [hv] at q2
   refine ⟨y,?_,V.dat _ _ q2,AV.dat_isOwn _⟩
   have hptr : ∃ ad,u.getD k undef = .pointer (some ad):=by
    unfold loadR at hv
    split at hv
    ·rename_i id idx off e
     rw [e] at hp;simp only [V] at hp
     obtain ⟨mb,_,e2⟩:=hp
     exact ⟨_,e2⟩
    ·rename_i row off e
     rw [e] at hp;simp only [V] at hp
     obtain ⟨blk,base,e2,_⟩:=hp
     exact ⟨_,e2⟩
    ·simp [R1.no] at hv
   obtain ⟨ad,had⟩:=hptr
   unfold Instr.loadAt at q1
   rw [had,srun_bind_ok (sure_ptr _)] at q1
   show Sem.run P (asAddr (u.getD k undef) >>= fun a=>loadVar t a) w = _
   rw [had,srun_bind_ok (x:=ad) (w':=w) rfl,q1]
  ·cases hx
theorem resL_sound {w : World} {Z : CS} {m : List MB} {reg : Pl → Option Reg} {u : Array Value} (h : Rel w Z m reg s.t (fun k=>u.getD k undef) s.o) : ∀ {rs : List ResultVar} {l : List AV},resL P s rs = some l →
  ∃ vs : List Value,(rs.mapM (m:=Sem) (resRun u)).run P w = .ok vs w ∧ Vs w (YS Z m reg s.o) m l vs ∧ vs.length = rs.length
 | [],l,hl=>by simp only [resL,Option.some.injEq] at hl;subst hl;exact ⟨[],rfl,by simp only [Vs],rfl⟩
 | x :: rs,l,hl=>by
  simp only [resL] at hl
  split at hl
  ·rename_i a l' e1 e2
   obtain rfl:=Option.some.inj hl
   obtain ⟨v,q1,q2,_⟩:=res1_sound h e1
   obtain ⟨vs,q3,q4,q5⟩:=resL_sound h e2
   refine ⟨v :: vs,?_,?_,by simp [q5]⟩
   ·rw [List.mapM_cons,srun_bind_ok q1,srun_bind_ok q3];rfl
   ·simp only [Vs];exact ⟨v,vs,rfl,q2,q4⟩
  ·cases hl
theorem srun_bind_fmap {α β : Type} {a : Sem α} {f : α → β} {x : α} {w w' : World} (h : a.run P w = .ok x w') : (f <$> a).run P w = .ok (f x) w':=by
 have : f <$> a = a >>= fun x=>pure (f x):=by
  show Functor.map f a = _
  rw [map_eq_pure_bind]
 rw [this,srun_bind_ok h,srun_pure]
theorem results_run (fn : Func) (u : Array Value) (w : World) : (results fn u).run P w = (match (fn.results.toList.mapM (m:=Sem) (resRun u)).run P w with | .ok vs w'=>.ok (if h : vs.toArray.size = 1 then vs.toArray[0] else .tuple vs.toArray) w' | .halt h w'=>.halt h w'):=by
 have key : ∀ f : ResultVar → Sem Value,f = resRun u → (Array.mapM f fn.results >>= fun vs=>pure (if h : vs.size = 1 then vs[0] else .tuple vs)).run P w =
   (match (fn.results.toList.mapM (m:=Sem) (resRun u)).run P w with | .ok vs w'=>.ok (if h : vs.toArray.size = 1 then vs.toArray[0] else .tuple vs.toArray) w' | .halt h w'=>.halt h w'):=by
  rintro f rfl
  rw [srun_bind,Array.mapM_eq_mapM_toList]
  cases hq : (fn.results.toList.mapM (m:=Sem) (resRun u)).run P w with
  | ok vs w' =>
   have:=srun_bind_fmap (P:=P) (f:=List.toArray) hq
   erw [this]
   rfl
  | halt h w' =>
   have : (List.toArray <$> fn.results.toList.mapM (m:=Sem) (resRun u)).run P w = .halt h w':=by
    have e2 : (List.toArray <$> fn.results.toList.mapM (m:=Sem) (resRun u)) = (fn.results.toList.mapM (m:=Sem) (resRun u)) >>= fun x=>pure x.toArray:=by
     show Functor.map _ _ = _
     rw [map_eq_pure_bind]
    rw [e2,srun_bind,hq]
   erw [this]
 exact key _ (funext fun x=>by cases x<;>rfl)
theorem resAV_cases {rs : List ResultVar} {s : St} {r : AV} (h : resAV P rs s = some r) : (∃ k,rs = [.tmp k] ∧ r = topA (s.t k)) ∨ (∃ x,rs = [x] ∧ res1 P s x = some r) ∨
  ∃ l,rs.length ≠ 1 ∧ resL P s rs = some l ∧ r = .tup l:=by
 unfold resAV at h
 split at h
 ·exact .inl ⟨_,rfl,(Option.some.inj h).symm⟩
 ·exact .inr (.inl ⟨_,rfl,h⟩)
 ·rename_i h1 h2
  split at h
  ·rename_i l hl
   refine .inr (.inr ⟨l,?_,hl,(Option.some.inj h).symm⟩)
   intro hlen
   match rs,hlen with
   | [x],_=>exact h2 x rfl
  ·cases h
theorem ACalls_of {f : FuncId} {fn : Func} {c : Code} {ac : List AV} {oc : List Ob} {R : AV → List Ob → Prop} (hf : P.funcs[f]? = some fn) (hb : fn.body = some c) (hn : ac.length ≤ fn.ntmps) (hk : callOk P f = true)
  (h : W P fn.ntmps c (endQ P fn.results.toList oc.length R) ⟨fun k=>ac.getD k .any,oc⟩) : ACalls P f ac oc R:=by
 refine ⟨hk,?_⟩
 intro w Z m reg vs hl hr
 refine calls_of_wp hf hb ?_
 have hg : (fun k=>((⟨vs.toArray ++ Array.replicate (fn.ntmps - vs.toArray.size) undef,[]⟩ : Act)).tmps.getD k undef) = fun k=>vs.getD k undef:=by
  funext k
  simp only [Array.getD_eq_getD_getElem?,List.getD_eq_getElem?_getD,Array.getElem?_append,List.size_toArray,List.getElem?_toArray]
  split
  ·rfl
  ·rename_i hk
   rw [List.getElem?_eq_none (Nat.not_lt.1 hk)]
   simp only [Array.getElem?_replicate]
   split<;>rfl
 have hat : At ⟨w,XS m reg oc,Z,m,fn.ntmps,[]⟩ ⟨fun k=>ac.getD k .any,oc⟩ ⟨vs.toArray ++ Array.replicate (fn.ntmps - vs.toArray.size) undef,[]⟩ w:=by
  refine At.mk' (m:=m) (reg:=reg) ?_ (fun b x k=>.inl k) (fun _ _ h=>h) (Evol.refl _ _) ?_ rfl
  ·rw [hg];exact hr
  ·simp;omega
 refine wp_mono (h _ _ _ rfl hat) ?_
 have fin : ∀ (a' : Act) (w' : World) (s' : St),At ⟨w,XS m reg oc,Z,m,fn.ntmps,[]⟩ s' a' w' →
   (∃ r r' k,resAV P fn.results.toList s' = some r ∧ Le r r' ∧ oc.length ≤ k ∧ k ≤ s'.o.length ∧ ((s'.o.take k).all (Ob.ltk k) = true) ∧ r'.ltk k = true ∧ R r' (s'.o.take k)) →
   a'.defers = [] ∧ ∃ v,(results fn a'.tmps).run P w' = .ok v w' ∧ ∃ v' r o' m' reg',Ending.returned v = .returned v' ∧ R r o' ∧
   Rel w' Z m' reg' (fun k=>if k = 0 then r else .any) (fun k=>if k = 0 then v' else undef) o' ∧ Evol w (XS m reg oc) w' ∧
   (∀ b x,XS m' reg' o' b x → XS m reg oc b x ∨ w.heap.size ≤ b) ∧ ∀ (id : Nat) mb,m[id]? = some mb → m'[id]? = some mb:=by
  rintro a' w' s' ⟨⟨m1,reg1,h1,h2,h3⟩,h4,h5,h6⟩ ⟨r,r',k,e1,e2,e3,e4,e5,e6,e7⟩
  refine ⟨h6,?_⟩
  have key : ∀ (v : Value) (reg2 : Pl → Option Reg),Rel w' Z m1 reg2 (fun j=>if j = 0 then r else .any) (fun j=>if j = 0 then v else undef) s'.o → (∀ b x,XS m1 reg2 s'.o b x → XS m1 reg1 s'.o b x) →
    ∃ v' r o' m' reg',Ending.returned v = .returned v' ∧ R r o' ∧
    Rel w' Z m' reg' (fun k=>if k = 0 then r else .any) (fun k=>if k = 0 then v' else undef) o' ∧ Evol w (XS m reg oc) w' ∧
    (∀ b x,XS m' reg' o' b x → XS m reg oc b x ∨ w.heap.size ≤ b) ∧ ∀ (id : Nat) mb,m[id]? = some mb → m'[id]? = some mb:=by
   intro v reg2 g1 g2
   have g3 : Rel w' Z m1 reg2 (fun j=>if j = 0 then r' else .any) (fun j=>if j = 0 then v else undef) s'.o:=g1.weak fun j=>by
    by_cases hj : j = 0
    ·simp only [if_pos hj];exact e2
    ·simp only [if_neg hj];exact .any _
   obtain ⟨g4,g5⟩:=g3.cut k e5
   refine ⟨v,r',_,_,_,rfl,e7,g4.weak (fun j=>?_),h4,fun b x hx=>h2 b x (g2 b x (g5 b x hx)),fun id mb hid=>?_⟩
   ·by_cases hj : j = 0
    ·simp only [if_pos hj,AV.cut,e6,if_true];exact .refl _
    ·simp only [if_neg hj];exact .any _
   ·have hlt : id < k:=by
     have:=(List.getElem?_eq_some_iff.1 hid).1
     rw [hr.len] at this
     omega
    rw [take_get hlt];exact h3 id mb hid
  rcases resAV_cases e1 with ⟨j,q1,q2⟩ | ⟨x,q1,q2⟩ | ⟨l,q1,q2,q3⟩
  ·refine ⟨_,results_one q1,?_⟩
   obtain ⟨g1,g2⟩:=h1.one j
   refine key _ _ (g1.weak fun i=>?_) g2
   by_cases hi : i = 0
   ·simp only [if_pos hi];rw [q2];exact topA_le _
   ·simp only [if_neg hi];exact .any _
  ·obtain ⟨v,hv1,hv2,hv3⟩:=res1_sound h1 q2
   refine ⟨v,?_,?_⟩
   ·rw [results_run,q1]
    have : (List.mapM (m:=Sem) (resRun a'.tmps) [x]).run P w' = .ok [v] w':=by
     rw [List.mapM_cons,srun_bind_ok hv1];rfl
    rw [this];rfl
   ·have g0:=h1.put 0 hv2 (.inl hv3)
    obtain ⟨g1,g2⟩:=g0.one 0
    simp only [upd_same] at g1
    refine key _ _ g1 fun b x hx=>?_
    rcases g2 b x hx with k1 | ⟨p,rg,k1,k2⟩
    ·exact .inl k1
    ·simp only at k1
     split at k1
     ·cases k1
     ·exact .inr ⟨p,rg,k1,k2⟩
  ·obtain ⟨vs,hv1,hv2,hv3⟩:=resL_sound h1 q2
   refine ⟨.tuple vs.toArray,?_,?_⟩
   ·rw [results_run,hv1]
    have : ¬ vs.toArray.size = 1:=by simp [hv3];exact q1
    simp only [dif_neg this]
   ·have hv : V w' (YS Z m1 reg1 s'.o) m1 r (.tuple vs.toArray):=by
     rw [q3];simp only [V];exact ⟨_,rfl,hv2⟩
    have g0:=h1.put 0 hv (.inl (by rw [q3];rfl))
    obtain ⟨g1,g2⟩:=g0.one 0
    simp only [upd_same] at g1
    refine key _ _ g1 fun b x hx=>?_
    rcases g2 b x hx with k1 | ⟨p,rg,k1,k2⟩
    ·exact .inl k1
    ·simp only at k1
     split at k1
     ·cases k1
     ·exact .inr ⟨p,rg,k1,k2⟩
 rintro e a' w' ⟨s',hq,hat'⟩
 cases e with
 | normal=>exact fin a' w' s' hat' hq
 | ret=>exact fin a' w' s' hat' hq
 | _=>exact hq.elim
end
end Go.AW
