/-
AW, part J: 'pureOp' is sound: slices, maps, lengths, and the whole.
-/
import Derived.Test.YtfjdiofipbchcaaKaa
import Derived.IntWalk
namespace Go.AW
open Go
set_option linter.unusedSimpArgs false
set_option linter.unusedVariables false
section
variable {P : Program} {w : World} {Y : CS} {m : List MB} {o : List Ob}
theorem Rs.take {blk sz : Nat} : ∀ {rows : List (List AV)} {off : Nat} (n : Nat),Rs w Y sz blk off rows → Rs w Y sz blk off (rows.take n)
 | [],_,_,h=>by simpa using h
 | r :: t,off,0,_=>by simp [Rs]
 | r :: t,off,n + 1,h=>by
  simp only [List.take_succ_cons,Rs] at h ⊢
  exact ⟨h.1,h.2.1,Rs.take n h.2.2⟩
theorem Rs.drop {blk sz : Nat} : ∀ {rows : List (List AV)} {off : Nat} (n : Nat),Rs w Y sz blk off rows → Rs w Y sz blk (off + n * sz) (rows.drop n)
 | rows,off,0,h=>by simpa using h
 | [],off,n + 1,h=>by simp [Rs]
 | r :: t,off,n + 1,h=>by
  simp only [List.drop_succ_cons,Rs] at h ⊢
  have:=Rs.drop n h.2.2
  rwa [show off + sz + n * sz = off + (n + 1) * sz by rw [Nat.add_mul];omega] at this
theorem sliceR_sound {t : TypeId} {a : AV} {v : Value} {lo hi mx : Option AV} {clo chi cmx : Option Value} (ho : ∀ (id : Nat) (x : Ob) (mb : MB),o[id]? = some x → m[id]? = some mb → ObR w Y m mb x) (hok : (sliceR P o t a lo hi mx).ok = true) (hv : V w Y m a v)
  (vlo : ∀ a,lo = some a → ∃ v,clo = some v ∧ V w Y m a v) (vhi : ∀ a,hi = some a → ∃ v,chi = some v ∧ V w Y m a v) (nlo : lo = none → clo = none) (nhi : hi = none → chi = none)
  (nmx : mx = none → cmx = none) : Gives P w Y m (Instr.sliceAt t v clo chi cmx) (sliceR P o t a lo hi mx).v:=by
 cases mx with
 | some _=>simp [sliceR,R1.no] at hok
 | none =>
  rw [nmx rfl]
  have sl : ∀ {e : TypeId} {sz : Nat} {rows : List (List AV)} {v : Value} {l h : Int},ukOf P t = .slice e → bnd lo 0 = some l → bnd hi rows.length = some h →
    (decide (0 ≤ l) && decide (l ≤ h) && decide (h ≤ rows.length) && sz == szOf P e && ukOf P e != .other) = true → V w Y m (.sl sz rows) v →
    Gives P w Y m (Instr.sliceAt t v clo chi none) (.sl sz ((rows.take h.toNat).drop l.toNat)):=by
   intro e sz rows v l h ht hl hh hok hv
   simp only [Bool.and_eq_true,decide_eq_true_eq,beq_iff_eq,bne_iff_ne,ne_eq] at hok
   obtain ⟨⟨⟨⟨h0,h1⟩,h2⟩,rfl⟩,he⟩:=hok
   simp only [V] at hv
   obtain ⟨a,cap,rfl,h3,h4,hr⟩:=hv
   obtain ⟨d,hd⟩:=uk_some he
   obtain ⟨i,hi'⟩:=und_info hd
   have hb:=run_bounds (P:=P) (w:=w) (Y:=Y) (m:=m) (isS:=true) (len:=rows.length) (cap:=cap) hl hh vlo vhi nlo nhi h0 h1 h2 h3
   refine ⟨.slice (if cap = l.toNat then a else a.map (·.add (l.toNat * szOf P e))) (h.toNat - l.toNat) (cap - l.toNat),?_,?_⟩
   ·unfold Instr.sliceAt
    rw [srun_bind_ok (run_und (uk_slice ht))]
    simp only
    unfold Instr.slice
    rw [srun_bind_ok (run_und (uk_slice ht))]
    simp only
    rw [srun_bind_ok hb]
    simp only
    rw [srun_bind_ok (run_size hi')]
    rfl
   ·simp only [V]
    have hlen : ((rows.take h.toNat).drop l.toNat).length = h.toNat - l.toNat:=by simp;omega
    refine ⟨_,_,by rw [hlen],by rw [hlen];omega,by omega,?_⟩
    by_cases hz : (rows.take h.toNat).drop l.toNat = []
    ·exact .inl hz
    ·right
     have hpos : 0 < h.toNat - l.toNat:=by rw [← hlen];exact List.length_pos_iff.2 hz
     rcases hr with rfl | ⟨blk,off,rfl,hr⟩
     ·simp at hz
     ·rw [if_neg (by omega)]
      exact ⟨blk,off + l.toNat * szOf P e,by simp [addr_add],(hr.take _).drop _⟩
  unfold sliceR at hok ⊢
  simp only at hok ⊢
  split at hok
  ·rename_i x ht
   split at hok
   ·rename_i l h hl hh
    simp only [hl,hh]
    simp only [Bool.and_eq_true,decide_eq_true_eq] at hok
    simp only [V] at hv;subst hv
    have hb:=run_bounds (P:=P) (w:=w) (Y:=Y) (m:=m) (isS:=false) (len:=x.size) (cap:=x.size) hl hh vlo vhi nlo nhi hok.1.1 hok.1.2 hok.2 (Nat.le_refl _)
    apply Gives.str
    unfold Instr.sliceAt
    rw [srun_bind_ok (run_und (uk_str ht))]
    simp only
    unfold Instr.slice
    rw [srun_bind_ok (run_und (uk_str ht))]
    simp only [Option.isSome_none,Bool.false_eq_true,if_false]
    rw [srun_bind_ok hb]
    rfl
   ·simp [R1.no] at hok
  ·rename_i e sz rows ht
   split at hok
   ·rename_i l h hl hh
    simp only [hl,hh]
    exact sl ht hl hh hok hv
   ·simp [R1.no] at hok
  ·rename_i e sz rows ht
   split at hok
   ·rename_i l h hl hh
    simp only [hl,hh]
    exact sl ht hl hh hok (by simpa only [V] using hv)
   ·simp [R1.no] at hok
  ·rename_i e ht
   split at hok
   ·rename_i l h hl hh
    simp only [hl,hh]
    simp only [Bool.and_eq_true,beq_iff_eq,bne_iff_ne,ne_eq] at hok
    obtain ⟨⟨rfl,rfl⟩,he⟩:=hok
    simp only [V] at hv;subst hv
    obtain ⟨d,hd⟩:=uk_some he
    obtain ⟨i,hi'⟩:=und_info hd
    have hb:=run_bounds (P:=P) (w:=w) (Y:=Y) (m:=m) (isS:=true) (len:=0) (cap:=0) hl hh vlo vhi nlo nhi (by omega) (by omega) (by omega) (by omega)
    refine ⟨.slice none 0 0,?_,by simp [V]⟩
    unfold Instr.sliceAt
    rw [srun_bind_ok (run_und (uk_slice ht))]
    simp only
    unfold Instr.slice
    rw [srun_bind_ok (run_und (uk_slice ht))]
    simp only
    rw [srun_bind_ok hb]
    simp only
    rw [srun_bind_ok (run_size hi')]
    rfl
   ·simp [R1.no] at hok
  ·rename_i e id off len ht
   split at hok
   ·rename_i l h hl hh
    simp only [hl,hh]
    simp only [Bool.and_eq_true,decide_eq_true_eq,beq_iff_eq,bne_iff_ne,ne_eq] at hok
    obtain ⟨⟨⟨⟨h0,h1⟩,h2⟩,he⟩,hrs⟩:=hok
    simp only [V] at hv
    obtain ⟨mb,a,cap,hm,rfl,h3,h4,hr⟩:=hv
    have hsz : mb.sz = szOf P e:=by
     unfold refSz at hrs
     split at hrs
     ·rename_i sz rows hid
      rw [← Option.some.inj hrs];exact (ho id _ mb hid hm).1
     ·rename_i sz rows hid
      rw [← Option.some.inj hrs];exact (ho id _ mb hid hm).1
     ·cases hrs
    obtain ⟨d,hd⟩:=uk_some he
    obtain ⟨i,hi'⟩:=und_info hd
    have hb:=run_bounds (P:=P) (w:=w) (Y:=Y) (m:=m) (isS:=true) (len:=len) (cap:=cap) hl hh vlo vhi nlo nhi h0 h1 h2 h3
    refine ⟨.slice (if cap = l.toNat then a else a.map (·.add (l.toNat * szOf P e))) (h.toNat - l.toNat) (cap - l.toNat),?_,?_⟩
    ·unfold Instr.sliceAt
     rw [srun_bind_ok (run_und (uk_slice ht))]
     simp only
     unfold Instr.slice
     rw [srun_bind_ok (run_und (uk_slice ht))]
     simp only
     rw [srun_bind_ok hb]
     simp only
     rw [srun_bind_ok (run_size hi')]
     rfl
    ·simp only [V]
     refine ⟨mb,_,_,hm,rfl,by omega,by omega,?_⟩
     by_cases hz : cap = l.toNat
     ·exact .inl ⟨by omega,by omega⟩
     ·rcases hr with hr | ⟨rfl,hr⟩
      ·exact .inl ⟨by omega,by omega⟩
      ·right
       rw [if_neg hz]
       exact ⟨by simp only [Option.map_some,addr_add,hsz,Nat.add_mul,Nat.add_assoc],by omega⟩
   ·simp [R1.no] at hok
  ·simp [R1.no] at hok
theorem mfind_sound {kt : TypeId} {k : AV} {kv : Value} (hk : keyOk (ukOf P kt) k = true) (hkv : V w Y m k kv) :
  ∀ (es : List (AV × AV)) (ents : List MapEntry) (i : Nat) (r : Option AV),MapR w Y m es ents → mfind k es = some r →
   ∃ d,P.underlying kt = some d ∧ match r with
    | none=>Instr.findNow d kv ents i = some none
    | some v=>∃ j u,Instr.findNow d kv ents i = some (some (j,u)) ∧ V w Y m v u:=by
 have hd : ∃ d,P.underlying kt = some d ∧ ∀ (k' : AV) (u : Value) (b : Bool),keq k k' = some b → V w Y m k' u → Instr.sameNow d kv u = some b:=by
  unfold keyOk at hk
  split at hk
  ·split at hk
   ·rename_i kk n _ k2 huk
    refine ⟨_,uk_int huk,fun k' u b hb hu=>?_⟩
    simp only [V] at hkv;subst hkv
    cases k'<;>simp only [keq,reduceCtorEq] at hb<;>try (cases hb;done)
    simp only [V] at hu;subst hu
    exact hb
   ·cases hk
  ·simp only [beq_iff_eq] at hk
   refine ⟨_,uk_str hk,fun k' u b hb hu=>?_⟩
   simp only [V] at hkv;subst hkv
   cases k'<;>simp only [keq,reduceCtorEq] at hb<;>try (cases hb;done)
   simp only [V] at hu;subst hu
   exact hb
  ·simp only [beq_iff_eq] at hk
   refine ⟨_,uk_bool hk,fun k' u b hb hu=>?_⟩
   simp only [V] at hkv;subst hkv
   cases k'<;>simp only [keq,reduceCtorEq] at hb<;>try (cases hb;done)
   simp only [V] at hu;subst hu
   exact hb
  ·cases hk
 obtain ⟨d,hd,hs⟩:=hd
 intro es
 induction es with
 | nil =>
  intro ents i r hm hf
  simp only [MapR] at hm;subst hm
  simp only [mfind,Option.some.injEq] at hf;subst hf
  exact ⟨d,hd,rfl⟩
 | cons a es ih =>
  intro ents i r hm hf
  obtain ⟨k',v'⟩:=a
  simp only [MapR] at hm
  obtain ⟨e,t,rfl,h1,h2,h3⟩:=hm
  simp only [mfind] at hf
  split at hf
  ·rename_i hb
   obtain rfl:=Option.some.inj hf
   exact ⟨d,hd,i,e.val,by simp [Instr.findNow,hs _ _ _ hb h1],h2⟩
  ·rename_i hb
   obtain ⟨d',hd',hr⟩:=ih t (i + 1) r h3 hf
   obtain rfl : d = d':=by rw [hd] at hd';exact Option.some.inj hd'
   refine ⟨d,hd,?_⟩
   cases r with
   | none=>simpa [Instr.findNow,hs _ _ _ hb h1] using hr
   | some v =>
    obtain ⟨j,u,q1,q2⟩:=hr
    exact ⟨j,u,by simpa [Instr.findNow,hs _ _ _ hb h1] using q1,q2⟩
  ·cases hf
theorem run_checkKey {kt : TypeId} {k : AV} {kv : Value} {b : Bool} (hk : keyOk (ukOf P kt) k = true) (hkv : V w Y m k kv) : (Instr.checkKey b 10000 kt kv).run P w = .ok () w:=by
 rw [show 10000 = 9999 + 1 from rfl]
 generalize 9999 = n
 unfold keyOk at hk
 unfold Instr.checkKey
 split at hk
 ·split at hk
  ·rename_i huk
   simp only [V] at hkv;subst hkv
   rw [srun_bind_ok (run_und (uk_int huk))];rfl
  ·cases hk
 ·simp only [beq_iff_eq] at hk
  simp only [V] at hkv;subst hkv
  rw [srun_bind_ok (run_und (uk_str hk))];rfl
 ·simp only [beq_iff_eq] at hk
  simp only [V] at hkv;subst hkv
  rw [srun_bind_ok (run_und (uk_bool hk))];rfl
 ·cases hk
theorem rdcs_V (w : World) (Y : CS) (m : List MB) : ∀ l : List Value,Vs w Y m (l.map rdc) l
 | []=>by simp [Vs]
 | a :: l=>by simp only [List.map_cons,Vs];exact ⟨a,l,rfl,rdc_V ..,rdcs_V w Y m l⟩
theorem zOf_V (w : World) (Y : CS) (m : List MB) (v : Value) : V w Y m (zOf v) v:=by
 unfold zOf
 split
 ·rename_i cs
  simp only [V]
  exact ⟨cs,rfl,rdcs_V ..⟩
 ·exact rdc_V ..
theorem zero_sound {t : TypeId} {z : AV} (h : zeroAV P t = some z) : ∃ v,(zeroValue t).run P w = .ok v w ∧ V w Y m z v:=by
 unfold zeroAV at h
 split at h
 ·rename_i i hi
  cases hz : i.zero with
  | none=>simp [hz] at h
  | some v =>
   simp only [hz,Option.map_some,Option.some.injEq] at h
   refine ⟨v,?_,?_⟩
   ·unfold zeroValue
    rw [srun_bind_ok (run_info hi),hz];rfl
   ·subst h
    exact zOf_V ..
 ·simp at h
theorem lookE_sound {kt et : TypeId} {b : AV} {u : Value} {ok : Bool} {es : List (AV × AV)} {ents : Array MapEntry} (hu : V w Y m b u) (hm : MapR w Y m es ents.toList)
  (hok : (lookE P kt et es b ok).ok = true) :
  Gives P w Y m (do
   Instr.checkKey ents.isEmpty 10000 kt u
   let (v,okk) ← match ← Instr.findKey kt u ents.toList with
    | some (_,v)=>pure (v,true)
    | none=>pure (← zeroValue et,false)
   pure (if ok then .tuple #[v,.bool okk] else v)) (lookE P kt et es b ok).v:=by
 have fin : ∀ (z : AV) (x : Value) (f : Bool),V w Y m z x → V w Y m (if ok then .tup [z,.b f] else z) (if ok then .tuple #[x,.bool f] else x):=by
  intro z x f hz
  cases ok
  ·simpa using hz
  ·simp only [if_true,V]
   exact ⟨_,rfl,by simp only [Vs];exact ⟨x,_,rfl,hz,.bool f,_,rfl,by simp [V],rfl⟩⟩
 unfold lookE at hok ⊢
 split at hok
 ·simp [R1.no] at hok
 ·rename_i r hf
  have hk : keyOk (ukOf P kt) b = true:=hok
  obtain ⟨d,hd,j,x,hfn,hx⟩:=mfind_sound (P:=P) hk hu es ents.toList 0 _ hm hf
  refine ⟨_,?_,fin r.dat x true (V.dat _ _ hx)⟩
  rw [srun_bind_ok (run_checkKey hk hu)]
  unfold Instr.findKey
  simp only [srun_bind,run_und hd,hfn,srun_pure]
 ·rename_i hf
  split at hok
  ·rename_i z hz
   have hk : keyOk (ukOf P kt) b = true:=hok
   obtain ⟨d,hd,hfn⟩:=mfind_sound (P:=P) hk hu es ents.toList 0 _ hm hf
   simp only at hfn
   obtain ⟨x,hx1,hx2⟩:=zero_sound (P:=P) (w:=w) (Y:=Y) (m:=m) hz
   refine ⟨_,?_,by simp only;exact fin z.dat x false (V.dat _ _ hx2)⟩
   rw [srun_bind_ok (run_checkKey hk hu)]
   unfold Instr.findKey
   simp only [srun_bind,run_und hd,hfn,srun_pure,hx1]
  ·simp [R1.no] at hok
theorem lookR_sound {t : TypeId} {a b : AV} {v u : Value} {ok : Bool} (ho : ∀ (id : Nat) (x : Ob) (mb : MB),o[id]? = some x → m[id]? = some mb → ObR w Y m mb x)
  (hok : (lookR P o t a b ok).ok = true) (hv : V w Y m a v) (hu : V w Y m b u) : Gives P w Y m (Instr.lookup t v u ok) (lookR P o t a b ok).v:=by
 unfold lookR at hok ⊢
 split at hok
 ·rename_i kt et ht
  split at hok
  ·simp [R1.no] at hok
  ·rename_i es hes
   have hcases : (a = .nilm ∧ es = []) ∨ ∃ id,a = .mp id ∧ o[id]? = some (.mapo es):=by
    unfold mapEs at hes
    split at hes
    ·exact .inl ⟨rfl,by simpa using hes.symm⟩
    ·split at hes
     ·rename_i id es' hid
      obtain rfl:=Option.some.inj hes
      exact .inr ⟨_,rfl,hid⟩
     ·cases hes
    ·cases hes
   rcases hcases with ⟨rfl,rfl⟩ | ⟨id,rfl,hid⟩
   ·simp only [V] at hv;subst hv
    obtain ⟨x,h1,h2⟩:=lookE_sound (P:=P) (es:=[]) (ents:=#[]) hu (by simp [MapR]) hok
    refine ⟨x,?_,h2⟩
    unfold Instr.lookup
    rw [srun_bind_ok (run_und (uk_map ht))]
    exact h1
   ·simp only [V] at hv
    obtain ⟨mb,hm,rfl⟩:=hv
    obtain ⟨ents,clock,hb,hmr,_⟩:=ho id _ mb hid hm
    obtain ⟨x,h1,h2⟩:=lookE_sound (P:=P) hu hmr hok
    refine ⟨x,?_,h2⟩
    unfold Instr.lookup
    rw [srun_bind_ok (run_und (uk_map ht))]
    have hg : (getObj mb.blk).run P w = .ok (.map ents clock) w:=by simp [getObj,Sem.run,hb]
    simp only
    rw [srun_bind_ok hg]
    exact h1
 ·simp [R1.no] at hok
theorem MapR.length : ∀ {es : List (AV × AV)} {ents : List MapEntry},MapR w Y m es ents → ents.length = es.length
 | [],_,h=>by simp only [MapR] at h;subst h;rfl
 | (_,_) :: r,_,h=>by
  simp only [MapR] at h
  obtain ⟨e,t,rfl,_,_,h3⟩:=h
  simp [MapR.length h3]
theorem lenR_sound {t ty : TypeId} {a : AV} {v : Value} (ho : ∀ (id : Nat) (x : Ob) (mb : MB),o[id]? = some x → m[id]? = some mb → ObR w Y m mb x)
  (hok : (lenR P o t a).ok = true) (hv : V w Y m a v) : Gives P w Y m (Builtin.len_ #[t] ty #[v]) (lenR P o t a).v:=by
 unfold lenR at hok ⊢
 split at hok
 all_goals (rename_i ht)
 ·simp only [V] at hv;subst hv
  apply Gives.int
  simp [Builtin.len_,srun_bind,run_und (uk_str ht),srun_pure,goInt]
 ·simp only [V] at hv;obtain ⟨a,cap,rfl,_⟩:=hv
  apply Gives.int
  simp [Builtin.len_,srun_bind,run_und (uk_slice ht),srun_pure,goInt]
 ·simp only [V] at hv;obtain ⟨a,cap,rfl,_⟩:=hv
  apply Gives.int
  simp [Builtin.len_,srun_bind,run_und (uk_slice ht),srun_pure,goInt]
 ·simp only [V] at hv;obtain ⟨mb,a,cap,_,rfl,_⟩:=hv
  apply Gives.int
  simp [Builtin.len_,srun_bind,run_und (uk_slice ht),srun_pure,goInt]
 ·simp only [V] at hv;subst hv
  apply Gives.int
  simp [Builtin.len_,srun_bind,run_und (uk_slice ht),srun_pure,goInt]
 ·simp only [V] at hv;obtain ⟨ad,rfl⟩:=hv
  apply Gives.int
  simp [Builtin.len_,srun_bind,run_und (uk_slice ht),srun_pure,goInt]
 ·apply Gives.int
  simp [Builtin.len_,srun_bind,run_und (uk_arr ht),srun_pure,goInt]
 ·simp only [V] at hv;subst hv
  apply Gives.int
  simp [Builtin.len_,srun_bind,run_und (uk_map ht),srun_pure,goInt]
 ·split at hok
  ·rename_i es hid
   simp only [hid]
   simp only [V] at hv;obtain ⟨mb,hm,rfl⟩:=hv
   obtain ⟨ents,clock,hb,hmr,_⟩:=ho _ _ mb hid hm
   have hg : (getObj mb.blk).run P w = .ok (.map ents clock) w:=by simp [getObj,Sem.run,hb]
   apply Gives.int
   simp only [Builtin.len_,List.getElem?_toArray,List.getElem?_cons_zero,srun_bind,run_und (uk_map ht),hg,srun_pure,goInt]
   rw [← MapR.length hmr];simp
  ·simp [R1.no] at hok
 ·simp [R1.no] at hok
theorem foldlM_two {f : Value → Value → Sem Value} (a b : Value) : [b].foldlM f a = f a b:=by
 simp only [List.foldlM_cons,List.foldlM_nil]
 have : ∀ s : Sem Value,(s >>= pure) = s:=by
  intro s
  show Sem.bind s Sem.pure = s
  induction s with
  | pure a=>rfl
  | load m a k ih=>simp only [Sem.bind];congr;funext v;exact ih v
  | store m a v k ih=>simp only [Sem.bind,ih]
  | new o k ih=>simp only [Sem.bind];congr;funext v;exact ih v
  | shape r k ih=>simp only [Sem.bind];congr;funext v;exact ih v
  | freeze a n k ih=>simp only [Sem.bind,ih]
  | frozen a k ih=>simp only [Sem.bind];congr;funext v;exact ih v
  | getObj r k ih=>simp only [Sem.bind];congr;funext v;exact ih v
  | setObj r o k ih=>simp only [Sem.bind,ih]
  | choose q k ih=>simp only [Sem.bind];congr;funext v;exact ih v
  | sys c k ih=>simp only [Sem.bind];congr;funext v;exact ih v
  | program k ih=>simp only [Sem.bind];congr;funext v;exact ih v
  | mark m k ih=>simp only [Sem.bind,ih]
  | halt h=>rfl
 exact this _
def GivesOp (P : Program) (w : World) (Y : CS) (m : List MB) (s : Sem Next) (a : AV) : Prop:=∃ v,s.run P w = .ok (.value v) w ∧ V w Y m a v
theorem Gives.op {s : Sem Value} {a : AV} (h : Gives P w Y m s a) : GivesOp P w Y m (do pure (.value (← s))) a:=by
 obtain ⟨v,h1,h2⟩:=h
 exact ⟨v,by rw [srun_bind_ok h1];rfl,h2⟩
theorem GivesOp.pure {v : Value} {a : AV} (h : V w Y m a v) : GivesOp P w Y m (pure (.value v)) a:=⟨v,rfl,h⟩
theorem pureOp_sound {oo : Oper} {av : Operand → AV} {cv : Operand → Value} (hl : m.length = o.length) (ho : ∀ (id : Nat) (x : Ob) (mb : MB),o[id]? = some x → m[id]? = some mb → ObR w Y m mb x)
  (hv : ∀ x,V w Y m (av x) (cv x)) (hok : (pureOp P o oo.op av).ok = true) : GivesOp P w Y m (execOp cv oo) (pureOp P o oo.op av).v:=by
 have vopt : ∀ (x : Option Operand) (a : AV),x.map av = some a → ∃ v,x.map cv = some v ∧ V w Y m a v:=by
  intro x a h
  cases x with
  | none=>simp at h
  | some x=>simp only [Option.map_some,Option.some.injEq] at h ⊢;subst h;exact ⟨_,rfl,hv x⟩
 have nopt : ∀ (x : Option Operand),x.map av = none → x.map cv = none:=by
  intro x h;cases x with
  | none=>rfl
  | some x=>simp at h
 have vlist : ∀ (l : List Operand),Vs w Y m (l.map fun x=>(av x).dat) (l.map cv):=by
  intro l
  induction l with
  | nil=>simp [Vs]
  | cons a l ih=>simp only [List.map_cons,Vs];exact ⟨_,_,rfl,V.dat _ _ (hv a),ih⟩
 unfold execOp
 cases hop : oo.op<;>rw [hop] at hok<;>simp only [pureOp] at hok ⊢<;>try (simp [R1.no] at hok;done)
 case move x=>exact .pure (V.dat _ _ (hv x))
 case assign x=>exact .pure (V.dat _ _ (hv x))
 case pick c a b =>
  split at hok
  ·rename_i x hc
   split at hok
   ·rename_i p q hp hq
    have h:=hv c
    rw [hc] at h
    simp only [V] at h
    refine ⟨if x then cv a else cv b,?_,?_⟩
    ·rw [h]
     show Sem.run P (asBool (.bool x) >>= _) w = _
     rw [srun_bind_ok (x:=x) (w':=w) rfl];rfl
    ·simp only [hc,hp,hq]
     cases x
     ·have:=ung_V (g:=!false) rfl (hv b)
      rw [hq] at this;simpa using this
     ·have:=ung_V (g:=true) rfl (hv a)
      rw [hp] at this;simpa using this
   ·simp [R1.no] at hok
  ·simp [R1.no] at hok
 case load t a=>exact (loadR_sound hl ho hok (hv a)).op
 case nilCheck x =>
  have h:=hv x
  split at hok
  ·rename_i q;rw [q] at h;simp only [q]
   have h':=h
   simp only [V] at h'
   obtain ⟨mb,_,e⟩:=h'
   rw [e] at h ⊢;exact .pure h
  ·rename_i q;rw [q] at h;simp only [q]
   have h':=h
   simp only [V] at h'
   obtain ⟨b1,b2,e,_⟩:=h'
   rw [e] at h ⊢;exact .pure h
  ·rename_i q;rw [q] at h;simp only [q]
   have h':=h
   simp only [V] at h'
   obtain ⟨cs,e,_⟩:=h'
   rw [e] at h ⊢;exact .pure h
  ·simp [R1.no] at hok
 case binOp op xt x y yt=>exact (binAV_sound hok (hv x) (hv y) x y).op
 case unOp op xt x=>exact (unAV_sound hok (hv x)).op
 case convert s d x=>exact (convAV_sound hok (hv x)).op
 case fieldAddr s x f=>exact (fieldR_sound hok (hv x)).op
 case field s x f =>
  split at hok
  ·rename_i fo ft cs hf hx
   have h:=hv x
   rw [hx] at h
   simp only [V] at h
   obtain ⟨vs,e,hvs⟩:=h
   obtain ⟨fs,fd,h1,h2,rfl,rfl⟩:=fld_some hf
   refine Gives.op ?_
   obtain ⟨v,g1,g2⟩:=run_part (P:=P) (t:=fd.type) (off:=fd.offset) hvs hok
   refine ⟨v,?_,g2⟩
   unfold Instr.field
   rw [srun_bind_ok (run_und h1)]
   simp only [h2,e]
   rw [srun_bind_ok (x:=vs) (w':=w) rfl]
   exact g1
  ·simp [R1.no] at hok
 case indexAddr t x ix=>exact (idxR_sound hl ho hok (hv x) (hv ix)).op
 case index t x ix=>exact (indexR_sound hok (hv x) (hv ix)).op
 case extract x k =>
  split at hok
  ·rename_i vs hx
   simp only [decide_eq_true_eq] at hok
   have h:=hv x
   rw [hx] at h
   simp only [V] at h
   obtain ⟨us,e,hvs⟩:=h
   simp only [hx]
   refine Gives.op ?_
   have : ∀ (l : List AV) (us : List Value) (k : Nat),Vs w Y m l us → k < l.length → ∃ u,us[k]? = some u ∧ V w Y m (l.getD k .any) u:=by
    intro l
    induction l with
    | nil=>intro us k _ hk;simp at hk
    | cons a l ih =>
     intro us k h hk
     simp only [Vs] at h
     obtain ⟨u,t,rfl,h1,h2⟩:=h
     cases k with
     | zero=>exact ⟨u,rfl,h1⟩
     | succ k=>simpa using ih t k h2 (by simpa using hk)
   obtain ⟨u,h1,h2⟩:=this vs us.toList k hvs hok
   refine ⟨u,?_,V.dat _ _ h2⟩
   unfold Instr.extract
   rw [e]
   have : us[k]? = some u:=by rw [← Array.getElem?_toList];exact h1
   simp only [this];rfl
  ·simp [R1.no] at hok
 case slice t x lo hi mx=>exact (sliceR_sound ho hok (hv x) (vopt lo) (vopt hi) (nopt lo) (nopt hi) (nopt mx)).op
 case lookup t x ix ok=>exact (lookR_sound ho hok (hv x) (hv ix)).op
 case makeFunc f first caps =>
  cases f with
  | func f =>
   by_cases he : first = #[]
   ·subst he
    refine Gives.op ⟨_,rfl,?_⟩
    simp only [List.isEmpty_toArray,List.isEmpty_nil,Array.isEmpty_empty,if_true,V]
    exact ⟨caps.map cv,by simp,by simpa using vlist caps.toList⟩
   ·have hf : first.isEmpty = false:=by simpa using he
    simp only [hf,Bool.false_or,Bool.and_eq_true,beq_iff_eq,Array.isEmpty_iff] at hok
    obtain ⟨h1,rfl⟩:=hok
    obtain ⟨y,rfl⟩ : ∃ y,first = #[y]:=by
     obtain ⟨l⟩:=first
     match l,h1 with
     | [y],_=>exact ⟨y,rfl⟩
    refine Gives.op ⟨_,rfl,?_⟩
    simp only [hf,Bool.false_eq_true,if_false,V]
    exact ⟨cv y,by simp,V.dat _ _ (hv y)⟩
  | _=>simp [R1.no] at hok
 case makeInterface t x =>
  simp only [Bool.and_eq_true,bne_iff_ne,ne_eq] at hok
  obtain ⟨d,hd⟩:=uk_some hok.1
  refine Gives.op ⟨.iface t (cv x),?_,?_⟩
  ·unfold Instr.makeInterface
   rw [srun_bind_ok (run_und hd)]
   have h2:=hok.2
   unfold ukOf at h2
   rw [hd] at h2
   cases d<;>first | rfl | exact absurd rfl h2
  ·simp only [V];exact ⟨_,rfl,V.dat _ _ (hv x)⟩
 case call c =>
  split at hok
  ·rename_i hc
   split at hok
   ·rename_i x t hx ht
    have:=(lenR_sound (ty:=oo.type) ho hok (hv x)).op
    have ea : c.args = #[x]:=by rw [← Array.toArray_toList (xs:=c.args),hx]
    have et : c.argTypes = #[t]:=by rw [← Array.toArray_toList (xs:=c.argTypes),ht]
    obtain ⟨v,h1,h2⟩:=this
    refine ⟨v,?_,by simpa only [hc,hx,ht] using h2⟩
    unfold resolve
    simp only [hc,ea,et]
    rw [srun_bind_ok (srun_pure _)]
    simpa only [invoke,builtin,List.map_toArray,List.map_cons,List.map_nil] using h1
   ·simp [R1.no] at hok
  ·rename_i hc
   unfold maxL at hok ⊢
   split at hok
   ·rename_i k x k' y hm
    obtain ⟨xs,ea⟩ : ∃ p : Operand × Operand,c.args = #[p.1,p.2]:=by
     have hlen:=congrArg List.length hm
     simp only [List.length_map,List.length_cons,List.length_nil] at hlen
     match hl : c.args.toList with
     | [p,q]=>exact ⟨(p,q),by rw [← Array.toArray_toList (xs:=c.args),hl]⟩
     | [] | [_] | _ :: _ :: _ :: _=>rw [hl] at hlen;simp at hlen
    obtain ⟨p,q⟩:=xs
    simp only at ea
    simp only [ea,List.map_cons,List.map_nil,List.cons.injEq,and_true] at hm
    obtain ⟨e1,e2⟩:=hm
    have h1:=hv p;rw [e1] at h1;simp only [V] at h1
    have h2:=hv q;rw [e2] at h2;simp only [V] at h2
    simp only [hc,ea,List.map_cons,List.map_nil,e1,e2]
    refine ⟨.int k (if y > x then y else x),?_,by simp [V]⟩
    unfold resolve
    simp only [hc,ea]
    rw [srun_bind_ok (srun_pure _)]
    simp only [invoke,builtin,Builtin.max_,List.map_toArray,List.map_cons,List.map_nil,h1,h2]
    rw [foldlM_two]
    rfl
   ·simp [R1.no] at hok
  ·rename_i hc
   unfold minL at hok ⊢
   split at hok
   ·rename_i k x k' y hm
    obtain ⟨xs,ea⟩ : ∃ p : Operand × Operand,c.args = #[p.1,p.2]:=by
     have hlen:=congrArg List.length hm
     simp only [List.length_map,List.length_cons,List.length_nil] at hlen
     match hl : c.args.toList with
     | [p,q]=>exact ⟨(p,q),by rw [← Array.toArray_toList (xs:=c.args),hl]⟩
     | [] | [_] | _ :: _ :: _ :: _=>rw [hl] at hlen;simp at hlen
    obtain ⟨p,q⟩:=xs
    simp only at ea
    simp only [ea,List.map_cons,List.map_nil,List.cons.injEq,and_true] at hm
    obtain ⟨e1,e2⟩:=hm
    have h1:=hv p;rw [e1] at h1;simp only [V] at h1
    have h2:=hv q;rw [e2] at h2;simp only [V] at h2
    simp only [hc,ea,List.map_cons,List.map_nil,e1,e2]
    refine ⟨.int k (if y < x then y else x),?_,by simp [V]⟩
    unfold resolve
    simp only [hc,ea]
    rw [srun_bind_ok (srun_pure _)]
    simp only [invoke,builtin,Builtin.min_,List.map_toArray,List.map_cons,List.map_nil,h1,h2]
    rw [foldlM_two]
    rfl
   ·simp [R1.no] at hok
  ·simp [R1.no] at hok
end
end Go.AW
namespace Go.AW
open Go
set_option linter.unusedSimpArgs false
set_option linter.unusedVariables false
section
variable {w w' : World} {Z : CS} {m : List MB} {reg : Pl → Option Reg} {t : Nat → AV} {u : Nat → Value} {o : List Ob}
theorem upd_upd {α : Type} (f : Nat → α) (k : Nat) (a b : α) : upd (upd f k a) k b = upd f k b:=by
 funext j;unfold upd;split<;>rfl
theorem Rel.storeV (h : Rel w Z m reg t u o) {id sz r c : Nat} {rows : List (List AV)} {row : List AV} {mb : MB} {b x : Nat} {av : AV} {v : Value} (q : Nat) (hq : u q = undef)
  (hv : V w (YS Z m reg o) m av v) (hl : Light av v)
  (ho : o[id]? = some (.cells sz rows)) (hm : m[id]? = some mb) (hr : rows[r]? = some row) (hc : c < row.length) (hb : b = mb.blk) (hx : x = mb.base + r * mb.sz + c) :
  ∃ reg',Rel (w.setCell ⟨b,x,none⟩ v) Z m reg' t u (o.set id (.cells sz (rset rows r c av))) ∧ Evol w (XS m reg o) (w.setCell ⟨b,x,none⟩ v) ∧
   (∃ v0,w.cell? ⟨b,x,none⟩ = some v0 ∧ w.frozen? ⟨b,x,none⟩ = false) ∧
   ∀ b x,XS m reg' (o.set id (.cells sz (rset rows r c av))) b x → XS m reg o b x:=by
 have h1:=h.put q hv hl
 obtain ⟨h2,hE,hcell⟩:=h1.store (k:=q) ho hm hr hc hb hx
 simp only [upd_same] at h2 hE hcell
 have hsub1 : ∀ b x,XS m (fun p=>if p = .t q then none else reg p) o b x → XS m reg o b x:=by
  rintro b x (k | ⟨p,rg,g1,g2⟩)
  ·exact .inl k
  ·simp only at g1
   split at g1
   ·simp at g1
   ·exact .inr ⟨p,rg,g1,g2⟩
 have hlq : Light (t q) (u q):=by
  by_cases e : (t q).isOwn = true
  ·cases htq : t q with
   | own sz' rows' =>
    obtain ⟨a,cap,e1,_⟩:=h.own (.t q) sz' rows' (u q) (by simp [leaf,htq]) rfl
    rw [hq] at e1;simp [undef] at e1
   | _=>rw [htq] at e;simp [AV.isOwn] at e
  ·exact .inl (by simpa using e)
 have hXg : ∀ (rg' : Pl → Option Reg),(∀ p r,rg' p = some r → ∃ q,reg q = some r) → ∀ b x,XS m rg' (o.set id (.cells sz (rset rows r c av))) b x → XS m reg o b x:=by
  rintro rg' hg b' x' (⟨j,ob,mb',g1,g2,g3,g4⟩ | ⟨p,rg,g1,g2⟩)
  ·rw [set_get ho] at g1
   split at g1
   ·rename_i e;subst e;exact .inl ⟨j,_,mb',ho,trivial,g3,g4⟩
   ·exact .inl ⟨j,ob,mb',g1,g2,g3,g4⟩
  ·obtain ⟨q',hq'⟩:=hg p rg g1
   exact .inr ⟨q',rg,hq',g2⟩
 have hX2:=hXg _ (fun p rg (g1 : (if p = Pl.o id r c then if True then none else reg (Pl.t q) else if p = Pl.t q then none else if p = Pl.t q then none else reg p) = some rg)=>by
  simp only [if_true] at g1
  split at g1
  ·simp at g1
  ·split at g1
   ·simp at g1
   ·exact ⟨p,g1⟩)
 have hv2 : V (w.setCell ⟨b,x,none⟩ v) (YS Z m (fun p=>if p = Pl.o id r c then if True then none else reg (Pl.t q) else if p = Pl.t q then none else if p = Pl.t q then none else reg p) (o.set id (.cells sz (rset rows r c av)))) m (t q) (u q) :=
  V.keep ⟨fun b' y v' hcv hy=>⟨hE.cell b' y v' (fun k=>hy (.inl (hsub1 b' y k))) hcv,fun k=>hy (k.imp (hX2 b' y) (fun h=>h))⟩,fun _ _ h=>h⟩ _ _ (h.tv q)
 have h3:=h2.put q (av:=t q) (v:=u q) hv2 hlq
 rw [upd_upd,upd_upd,upd_upd,upd_self,upd_self] at h3
 refine ⟨_,h3,hE.mono fun b x k=>.inl (hsub1 b x k),hcell,hXg _ ?_⟩
 intro p rg g1
 have g2 : reg p = some rg:=by
  revert g1
  simp only [if_true]
  repeat' split
  all_goals simp
 exact ⟨p,g2⟩
def setRow (row : List AV) : Nat → List AV → List AV
 | _,[]=>row
 | c,a :: l=>setRow (row.set c a) (c + 1) l
theorem Rel.storeVs (q : Nat) (hq : u q = undef) : ∀ (l : List AV) (vs : List Value) (w : World) (reg : Pl → Option Reg) (o : List Ob) (id sz r c : Nat) (rows : List (List AV)) (row : List AV) (mb : MB),
  Rel w Z m reg t u o → Vs w (YS Z m reg o) m l vs → (∀ (i : Nat) a v,l[i]? = some a → vs[i]? = some v → Light a v) →
  o[id]? = some (.cells sz rows) → m[id]? = some mb → rows[r]? = some row → c + l.length ≤ row.length →
  ∃ reg',Rel (putCells w mb.blk (mb.base + r * mb.sz + c) vs) Z m reg' t u (o.set id (.cells sz (rows.set r (setRow row c l)))) ∧
   Evol w (XS m reg o) (putCells w mb.blk (mb.base + r * mb.sz + c) vs) ∧
   ∀ b x,XS m reg' (o.set id (.cells sz (rows.set r (setRow row c l)))) b x → XS m reg o b x
 | [],vs,w,reg,o,id,sz,r,c,rows,row,mb,h,hvs,hl,ho,hm,hr,hc=>by
  simp only [Vs] at hvs;subst hvs
  have e : o.set id (.cells sz (rows.set r (setRow row c []))) = o:=by
   simp only [setRow]
   have hlt : r < rows.length:=(List.getElem?_eq_some_iff.1 hr).1
   have e1 : rows.set r row = rows:=by
    apply List.ext_getElem?;intro i
    rw [List.getElem?_set]
    split
    ·rename_i e;subst e;simp [hr]
    ·rfl
   rw [e1]
   apply List.ext_getElem?;intro i
   rw [set_get ho];split
   ·rename_i e;rw [e,ho]
   ·rfl
  rw [e]
  exact ⟨reg,h,Evol.refl _ _,fun _ _ k=>k⟩
 | a :: l,vs,w,reg,o,id,sz,r,c,rows,row,mb,h,hvs,hl,ho,hm,hr,hc=>by
  simp only [Vs] at hvs
  obtain ⟨v,vs',rfl,hv,hvs'⟩:=hvs
  simp only [List.length_cons] at hc
  obtain ⟨reg1,h1,hE,_,hX⟩:=h.storeV q hq hv (hl 0 a v rfl rfl) ho hm hr (c:=c) (by omega) rfl rfl
  have hK : Keeps w (YS Z m reg o) m (w.setCell ⟨mb.blk,mb.base + r * mb.sz + c,none⟩ v) (YS Z m reg1 (o.set id (.cells sz (rset rows r c a)))) m :=
   ⟨fun b' y v' hcv hy=>⟨hE.cell b' y v' (fun k=>hy (.inl k)) hcv,fun k=>hy (k.imp (hX b' y) (fun h=>h))⟩,fun _ _ h=>h⟩
  have hrow' : (rset rows r c a)[r]? = some (row.set c a):=by rw [rset_get,if_pos rfl,hr];rfl
  have e1 : rset rows r c a = rows.set r (row.set c a):=by
   have hlt : r < rows.length:=(List.getElem?_eq_some_iff.1 hr).1
   apply List.ext_getElem?;intro i
   rw [rset_get,List.getElem?_set]
   split
   ·rename_i e;subst e;rw [hr];simp [List.getElem?_set,hlt]
   ·rfl
  obtain ⟨reg2,h2,hE2,hX2⟩:=Rel.storeVs q hq l vs' _ reg1 _ id sz r (c + 1) (rset rows r c a) (row.set c a) mb h1 (Vs.keep hK _ _ hvs')
   (fun i a' v' h1 h2=>hl (i + 1) a' v' h1 h2) (by rw [set_get ho,if_pos rfl]) hm hrow' (by simp;omega)
  refine ⟨reg2,?_,?_,?_⟩
  ·simp only [putCells,setRow]
   rw [List.set_set,e1,List.set_set] at h2
   rwa [show mb.base + r * mb.sz + c + 1 = mb.base + r * mb.sz + (c + 1) by omega]
  ·simp only [putCells]
   rw [show mb.base + r * mb.sz + c + 1 = mb.base + r * mb.sz + (c + 1) by omega]
   exact hE.trans hE2 fun b x k=>.inl (hX b x k)
  ·intro b x k
   simp only [setRow] at k
   refine hX b x (hX2 b x ?_)
   rw [List.set_set,e1,List.set_set]
   exact k
end
structure St where
 t : Nat → AV
 o : List Ob
structure G where
 w : World
 X : CS
 Z : CS
 m : List MB
 n : Nat
 ds : List Deferred:=[]
structure At (g : G) (s : St) (a : Act) (w : World) : Prop where
 rel : ∃ m reg,Rel w g.Z m reg s.t (fun k=>a.tmps.getD k undef) s.o ∧ (∀ b x,XS m reg s.o b x → g.X b x ∨ g.w.heap.size ≤ b) ∧
  ∀ (id : Nat) mb,g.m[id]? = some mb → m[id]? = some mb
 evol : Evol g.w g.X w
 size : a.tmps.size = g.n
 defers : a.defers = g.ds
def St.put (s : St) (d : Option Nat) (v : AV) : St :=
 match d with
 | some d=>{ s with t:=upd s.t d v }
 | none=>s
theorem put_getD (a : Act) (d : Nat) (v : Value) (hd : d < a.tmps.size) : (fun k=>(a.put (some d) v).tmps.getD k undef) = upd (fun k=>a.tmps.getD k undef) d v:=by
 funext k
 simp only [Act.put,upd,Array.getD_eq_getD_getElem?,Array.getElem?_setIfInBounds]
 by_cases h : k = d
 ·subst h;simp [hd]
 ·rw [if_neg (fun e=>h e.symm),if_neg h]
theorem put_size (a : Act) (d : Option Nat) (v : Value) : (a.put d v).tmps.size = a.tmps.size:=by cases d<;>simp [Act.put]
theorem put_defers (a : Act) (d : Option Nat) (v : Value) : (a.put d v).defers = a.defers:=by cases d<;>rfl
def dstOk (n : Nat) (d : Option Nat) : Bool:=match d with | some d=>decide (d < n) | none=>true
theorem At.mk' {g : G} {s : St} {a : Act} {w : World} {m : List MB} {reg : Pl → Option Reg} (h1 : Rel w g.Z m reg s.t (fun k=>a.tmps.getD k undef) s.o)
  (h2 : ∀ b x,XS m reg s.o b x → g.X b x ∨ g.w.heap.size ≤ b) (h3 : ∀ (id : Nat) mb,g.m[id]? = some mb → m[id]? = some mb) (h4 : Evol g.w g.X w) (h5 : a.tmps.size = g.n) (h6 : a.defers = g.ds) : At g s a w :=
 ⟨⟨m,reg,h1,h2,h3⟩,h4,h5,h6⟩
theorem At.put {g : G} {s : St} {a : Act} {w : World} {m : List MB} {reg : Pl → Option Reg} (h1 : Rel w g.Z m reg s.t (fun k=>a.tmps.getD k undef) s.o)
  (h2 : ∀ b x,XS m reg s.o b x → g.X b x ∨ g.w.heap.size ≤ b) (h3 : ∀ (id : Nat) mb,g.m[id]? = some mb → m[id]? = some mb) (h4 : Evol g.w g.X w) (h5 : a.tmps.size = g.n) (h6 : a.defers = g.ds)
  {d : Option Nat} {av : AV} {v : Value} (hd : dstOk g.n d = true) (hv : V w (YS g.Z m reg s.o) m av v) (hl : Light av v) : At g (s.put d av) (a.put d v) w:=by
 cases d with
 | none=>exact ⟨⟨m,reg,h1,h2,h3⟩,h4,h5,h6⟩
 | some d =>
  have:=h1.put d hv hl
  refine ⟨⟨m,fun p=>if p = .t d then none else reg p,?_,?_,h3⟩,h4,by rw [put_size,h5],by rw [put_defers,h6]⟩
  ·rw [put_getD a d v (by rw [h5];simpa [dstOk] using hd)]
   exact this
  ·intro b x k
   refine h2 b x ?_
   rcases k with k | ⟨p,rg,g1,g2⟩
   ·exact .inl k
   ·simp only at g1
    split at g1
    ·simp at g1
    ·exact .inr ⟨p,rg,g1,g2⟩
end Go.AW
namespace Go.AW
open Go
set_option linter.unusedSimpArgs false
set_option linter.unusedVariables false
def elSz (P : Program) (t : TypeId) : Option Nat:=match ukOf P t with | .slice e=>some (szOf P e) | _=>none
def upAV (k : Option Nat) : AV → AV
 | .nsl=>match k with | some sz=>.own sz [] | none=>.nsl
 | a=>a
def cellK (P : Program) : Nat → TypeId → List (Option Nat)
 | 0,_=>[]
 | d + 1,t =>
  match P.underlying t with
  | some (.struct fs)=>fs.toList.flatMap fun f=>cellK P d f.type
  | some (.array n e)=>(List.replicate n (cellK P d e)).flatten
  | some (.slice e)=>[some (szOf P e)]
  | _=>[none]
def upT (tk : List Nat) : Bool:=!tk.contains 1000000
def elU (up : Bool) (P : Program) (t : TypeId) : Option Nat:=if up then elSz P t else none
def ckU (up : Bool) (P : Program) (t : TypeId) : List (Option Nat):=if up then cellK P 8 t else []
def upCells : List (Option Nat) → List AV → List AV
 | [],cs=>cs
 | _,[]=>[]
 | k :: ks,c :: cs=>upAV k c :: upCells ks cs
def AV.cellsOf : AV → List AV
 | .agg l=>l
 | a=>[a]
abbrev SR:=Bool × St
def SR.no (s : St) : SR:=(false,s)
def mvS (up : Bool) (P : Program) (n : Nat) (d : Nat) (ty : TypeId) (k : Nat) (s : St) : SR :=
 if (s.t k).isOwn then (decide (k ≠ d) && decide (d < n),{ s with t:=upd (upd s.t k (s.t k).dat) d (s.t k) })
 else (decide (d < n),{ s with t:=upd s.t d (upAV (elU up P ty) (s.t k)) })
def putS (n : Nat) (d : Option Nat) (r : R1) (s : St) : SR:=(r.ok && dstOk n d,s.put d r.v)
def takeS (up : Bool) (P : Program) (n : Nat) (d : Nat) (t : TypeId) (a : AV) (s : St) : SR :=
 match a with
 | .ptr id idx off =>
  match s.o[id]? with
  | some (.cells sz rows) =>
   let row:=rows.getD idx []
   let av:=row.getD off .any
   if av.isOwn then
    (decide (d < n) && decide (idx < rows.length) && decide (off < row.length) && !(ukOf P t).agg && ukOf P t != .other,⟨upd s.t d av,s.o.set id (.cells sz (rset rows idx off av.dat))⟩)
   else (decide (d < n) && decide (idx < rows.length) && decide (off < row.length) && !(ukOf P t).agg && ukOf P t != .other,⟨upd s.t d (upAV (elU up P t) av),s.o⟩)
  | _=>.no s
 | _=>.no s
def newS (up : Bool) (P : Program) (n : Nat) (d : Option Nat) (e : TypeId) (cells : List AV) (s : St) : SR :=
 (dstOk n d && cells.length == szOf P e && cells.all (fun c=>!c.isOwn) && ukOf P e != .other,(⟨s.t,s.o ++ [.cells (szOf P e) [upCells (ckU up P e) cells]]⟩ : St).put d (.ptr s.o.length 0 0))
def storeS (up : Bool) (P : Program) (t : TypeId) (a : AV) (x : Operand) (s : St) : SR :=
 match a with
 | .ptr id idx off =>
  match s.o[id]? with
  | some (.cells sz rows) =>
   let row:=rows.getD idx []
   match opd s.t x with
   | .agg cells =>
    (decide (idx < rows.length) && decide (off + szOf P t ≤ row.length) && cells.length == szOf P t && cells.all (fun c=>!c.isOwn && c.plain) && ukOf P t != .other,
     ⟨s.t,s.o.set id (.cells sz (rows.set idx (setRow row off (upCells (ckU up P t) cells))))⟩)
   | .own k r =>
    match x with
    | .tmp k =>
     (decide (idx < rows.length) && decide (off < row.length) && ukOf P t != .other && szOf P t == 1,⟨upd s.t k (s.t k).dat,s.o.set id (.cells sz (rset rows idx off (s.t k)))⟩)
    | _=>.no s
   | v=>(decide (idx < rows.length) && decide (off < row.length) && ukOf P t != .other && szOf P t == 1 && v.plain,⟨s.t,s.o.set id (.cells sz (rset rows idx off (upAV (elU up P t) v)))⟩)
  | _=>.no s
 | _=>.no s
def mset (k v : AV) : List (AV × AV) → Option (List (AV × AV))
 | []=>some [(k,v)]
 | (k',v') :: r =>
  match keq k k' with
  | some true=>some ((k,v) :: r)
  | some false=>(mset k v r).map ((k',v') :: ·)
  | none=>none
def msetS (P : Program) (t : TypeId) (a k v : AV) (s : St) : SR :=
 match ukOf P t,a with
 | .map kt et,.mp id =>
  match s.o[id]? with
  | some (.mapo es) =>
   match mset k v es with
   | some es'=>(keyOk (ukOf P kt) k,⟨s.t,s.o.set id (.mapo es')⟩)
   | none=>.no s
  | _=>.no s
 | _,_=>.no s
def mkMapS (n : Nat) (d : Option Nat) (s : St) : SR:=(dstOk n d,(⟨s.t,s.o ++ [.mapo []]⟩ : St).put d (.mp s.o.length))
def mkSliceS (P : Program) (n : Nat) (d : Option Nat) (t : TypeId) (l c : AV) (s : St) : SR :=
 match ukOf P t,l,c with
 | .slice e,.i _ x,.i _ y =>
  match zeroAV P e with
  | some z=>(dstOk n d && x == y && decide (0 ≤ x) && decide (P.bytesOf e * x ≤ 140737488355328) && decide (x ≤ 9223372036854775807) && z.cellsOf.length == szOf P e && z.cellsOf.all (fun c=>!c.isOwn) && decide (0 < szOf P e),
    (⟨s.t,s.o ++ [.cells (szOf P e) (List.replicate x.toNat z.cellsOf)]⟩ : St).put d (.ref s.o.length 0 x.toNat))
  | none=>.no s
 | _,_,_=>.no s
def AV.okPart : AV → Bool
 | .agg _=>true
 | a=>a.plain
def partRows (dat : Bool) (sz : Nat) : Nat → List (Nat × AV) → Option (List (List AV))
 | _,[]=>some []
 | i,(j,a) :: r=>if j = i ∧ a.cellsOf.length = sz ∧ (a.cellsOf.all fun c=>!c.isOwn && (!dat || c.ltk 0) && c.plain) = true ∧ a.okPart = true then (partRows dat sz (i + 1) r).map (a.cellsOf :: ·) else none
def bslR (P : Program) (t : TypeId) (len : Nat) (parts : List (Nat × AV)) : R1 :=
 match ukOf P t with
 | .slice e =>
  match partRows true (szOf P e) 0 parts with
  | some rows=>⟨rows.length == len && decide (len * szOf P e ≤ 16777216) && decide (0 < szOf P e) && (zeroAV P e).isSome,if len = 0 then .esl else .own (szOf P e) rows⟩
  | none=>.no
 | _=>.no
def fillA (place : Nat → Option (Nat × Nat)) : List AV → List (Nat × AV) → Option (List AV)
 | cells,[]=>some cells
 | cells,(i,a) :: r =>
  match place i with
  | some (off,sz)=>if a.cellsOf.length = sz ∧ off + sz ≤ cells.length ∧ (a.cellsOf.all fun c=>!c.isOwn) = true ∧ a.okPart = true then fillA place (setRow cells off a.cellsOf) r else none
  | none=>none
def placeOf (P : Program) (t : TypeId) (i : Nat) : Option (Nat × Nat) :=
 match ukOf P t with
 | .struct=>(fldOf P t i).map fun x=>(x.1,szOf P x.2)
 | .arr _ e=>some (i * szOf P e,szOf P e)
 | _=>none
def structOk (P : Program) (t : TypeId) : Bool :=
 match P.underlying t with
 | some (.struct fs)=>fs.toList.all fun f=>(P.info? f.type).isSome
 | some (.array _ e)=>(P.info? e).isSome
 | _=>false
def buildR (P : Program) (t : TypeId) (parts : List (Nat × AV)) : R1 :=
 match zeroAV P t with
 | some z =>
  match fillA (placeOf P t) z.cellsOf parts with
  | some cells=>⟨structOk P t,.agg cells⟩
  | none=>.no
 | none=>.no
def bslS (P : Program) (n : Nat) (d : Option Nat) (t : TypeId) (len : Nat) (parts : List (Nat × AV)) (s : St) : SR :=
 match ukOf P t with
 | .slice e =>
  match partRows false (szOf P e) 0 parts with
  | some rows=>(rows.length == len && decide (len * szOf P e ≤ 16777216) && decide (0 < szOf P e) && (zeroAV P e).isSome && dstOk n d,(⟨s.t,s.o ++ [.cells (szOf P e) rows]⟩ : St).put d (.ref s.o.length 0 len))
  | none=>.no s
 | _=>.no s
def rowsOf (sz : Nat) : AV → Option (List (List AV))
 | .sl k rows=>if k = sz ∨ rows = [] then some rows else none
 | .own k rows=>if k = sz ∨ rows = [] then some rows else none
 | .nsl=>some []
 | .esl=>some []
 | _=>none
def rowsOk (dat : Bool) (rows : List (List AV)) : Bool:=rows.all fun r=>r.all fun c=>!c.isOwn && (!dat || c.ltk 0) && c.plain
def rowsG (dat : Bool) (o : List Ob) (sz : Nat) : AV → Option (List (List AV))
 | .ref id off len =>
  match o[id]? with
  | some (.cells k rows)=>if k = sz ∧ off + len ≤ rows.length ∧ rowsOk dat rows = true then some ((rows.drop off).take len) else none
  | some (.frz k rows)=>if k = sz ∧ off + len ≤ rows.length then some ((rows.drop off).take len) else none
  | _=>none
 | x=>rowsOf sz x
def zeroOk (P : Program) (e : TypeId) : Bool:=match zeroAV P e with | some z=>z.cellsOf.length == szOf P e | none=>false
def appS (P : Program) (n : Nat) (d : Option Nat) (t t2 : TypeId) (k : Nat) (x : AV) (s : St) : SR :=
 match ukOf P t,d with
 | .slice e,some d =>
  match rowsG true s.o (szOf P e) x with
  | some nr =>
   match s.t k with
   | .own sz rows =>
    (decide (d < n) && decide (k < n) && decide (k ≠ d) && sz == szOf P e && ukOf P t2 == .slice e && decide ((rows.length + nr.length) * P.bytesOf e ≤ 140737488355328) && decide (rows.length + nr.length ≤ 9223372036854775807) && zeroOk P e && decide (0 < szOf P e) && decide (0 < P.bytesOf e),
     { s with t:=upd (upd s.t k (s.t k).dat) d (.own (szOf P e) (rows ++ nr)) })
   | .nsl | .esl =>
    (decide (d < n) && decide (k < n) && ukOf P t2 == .slice e && decide (nr.length * P.bytesOf e ≤ 140737488355328) && decide (nr.length ≤ 9223372036854775807) && zeroOk P e && decide (0 < szOf P e) && decide (0 < P.bytesOf e),
     { s with t:=upd s.t d (.own (szOf P e) nr) })
   | _=>.no s
  | none=>.no s
 | _,_=>.no s
def appOS (P : Program) (n : Nat) (d : Option Nat) (t t2 : TypeId) (k : Nat) (x : AV) (s : St) : SR :=
 match ukOf P t,d with
 | .slice e,some d =>
  match rowsG false s.o (szOf P e) x with
  | some nr =>
   match s.t k with
   | .nsl | .esl =>
    (decide (d < n) && decide (k < n) && ukOf P t2 == .slice e && decide (nr.length * P.bytesOf e ≤ 140737488355328) && decide (nr.length ≤ 9223372036854775807) && zeroOk P e && decide (0 < szOf P e) && decide (0 < P.bytesOf e) && decide (0 < nr.length) && (nr.all fun r=>r.all fun c=>!c.isOwn),
     ⟨upd s.t d (.ref s.o.length 0 nr.length),s.o ++ [.cells (szOf P e) nr]⟩)
   | .ref id off len =>
    match s.o[id]? with
    | some (.cells sz rows) =>
     (decide (d < n) && decide (k < n) && sz == szOf P e && ukOf P t2 == .slice e && decide ((len + nr.length) * P.bytesOf e ≤ 140737488355328) && decide (len + nr.length ≤ 9223372036854775807) && zeroOk P e && decide (0 < szOf P e) && decide (0 < P.bytesOf e) && decide (0 < nr.length) && (nr.all fun r=>r.all fun c=>!c.isOwn) &&
      decide (off + len ≤ rows.length) && (rows.all fun r=>r.all fun c=>!c.isOwn && c.plain),
      ⟨upd s.t d (.ref s.o.length 0 (len + nr.length)),s.o.set id .dead ++ [.cells sz ((rows.drop off).take len ++ nr)]⟩)
    | _=>.no s
   | _=>.no s
  | none=>.no s
 | _,_=>.no s
def tkOf (ops : List Oper) : List Nat :=
 ops.filterMap fun o=>match o.op with
  | .call c=>match c.callee,c.args.toList with
   | .builtin .append,.tmp k :: _=>some k
   | _,_=>none
  | _=>none
def step1 (P : Program) (n : Nat) (tk : List Nat) (o : Oper) (s : St) : SR :=
 match o.op with
 | .move x =>
  match x,o.dst with
  | .tmp k,some d=>if tk.contains d then mvS (upT tk) P n d o.type k s else putS n (some d) ⟨true,upAV (elU (upT tk) P o.type) (s.t k).dat⟩ s
  | x,d=>putS n d ⟨true,upAV (elU (upT tk) P o.type) (opd s.t x).dat⟩ s
 | .assign x =>
  match x,o.dst with
  | .tmp k,some d=>mvS (upT tk) P n d o.type k s
  | x,d=>putS n d ⟨true,upAV (elU (upT tk) P o.type) (opd s.t x).dat⟩ s
 | .load t a =>
  match o.dst with
  | some d=>if tk.contains d then takeS (upT tk) P n d t (opd s.t a) s else putS n (some d) (loadR P s.o t (ung true (opd s.t a))) s
  | none=>.no s
 | .box e x=>if (opd s.t x).dat.okPart = true then newS (upT tk) P n o.dst e (opd s.t x).dat.cellsOf s else .no s
 | .alloc e=>match zeroAV P e with | some z=>newS (upT tk) P n o.dst e z.cellsOf s | none=>.no s
 | .store t a x=>if o.dst = none then storeS (upT tk) P t (opd s.t a) x s else .no s
 | .mapUpdate t m k v | .insert t m k v=>if o.dst = none then msetS P t (opd s.t m) (opd s.t k) (opd s.t v).dat s else .no s
 | .makeMap t r=>match r with | none=>mkMapS n o.dst s | some _=>.no s
 | .makeSlice t l c=>mkSliceS P n o.dst t (opd s.t l) (opd s.t c) s
 | .buildSlice t len parts=>if tk.contains 1000000 ∧ len ≠ 0 then bslS P n o.dst t len (parts.toList.map fun p=>(p.1,(ung true (opd s.t p.2)).dat)) s else putS n o.dst (bslR P t len (parts.toList.map fun p=>(p.1,(ung true (opd s.t p.2)).dat))) s
 | .build t parts=>putS n o.dst (buildR P t (parts.toList.map fun p=>(p.1,(ung true (opd s.t p.2)).dat))) s
 | .call c =>
  match c.callee with
  | .builtin .append =>
   match c.args.toList,c.argTypes.toList with
   | [.tmp k,x],[t,t2]=>if tk.contains 1000000 then appOS P n o.dst t t2 k (opd s.t x) s else appS P n o.dst t t2 k (opd s.t x) s
   | _,_=>.no s
  | _=>putS n o.dst (pureOp P s.o o.op (fun x=>ung true (opd s.t x))) s
 | .pick c a b=>putS n o.dst (pickR true (opd s.t c) (opd s.t a) (opd s.t b)) s
 | op=>putS n o.dst (pureOp P s.o op (fun x=>ung true (opd s.t x))) s
end Go.AW
namespace Go.AW
open Go
set_option linter.unusedSimpArgs false
set_option linter.unusedVariables false
section
variable {P : Program} {g : G} {s : St} {a : Act} {w : World}
theorem upAV_V {Y : CS} {m : List MB} {k : Option Nat} {av : AV} {v : Value} (h : V w Y m av v) : V w Y m (upAV k av) v:=by
 unfold upAV
 split
 ·split
  ·simp only [V] at h ⊢;subst h;exact ⟨none,0,rfl,Nat.le_refl _,Nat.zero_le _,.inl trivial⟩
  ·exact h
 ·exact h
theorem upAV_light {Y : CS} {m : List MB} {k : Option Nat} {av : AV} {v : Value} (h : V w Y m av v) (hl : av.isOwn = false) : Light (upAV k av) v:=by
 unfold upAV
 split
 ·split
  ·simp only [V] at h;subst h;exact .inr ⟨_,[],none,rfl,rfl⟩
  ·exact .inl rfl
 ·exact .inl hl
theorem upCells_V {Y : CS} {m : List MB} : ∀ (ks : List (Option Nat)) (cs : List AV) (vs : List Value),Vs w Y m cs vs → Vs w Y m (upCells ks cs) vs
 | [],_,_,h=>h
 | _ :: _,[],_,h=>by simpa only [upCells] using h
 | k :: ks,c :: cs,_,h=>by
  simp only [Vs,upCells] at h ⊢
  obtain ⟨v,t,h1,h2,h3⟩:=h
  exact ⟨v,t,h1,upAV_V h2,upCells_V ks cs t h3⟩
theorem upCells_length : ∀ (ks : List (Option Nat)) (cs : List AV),(upCells ks cs).length = cs.length
 | [],_=>rfl
 | _ :: _,[]=>rfl
 | k :: ks,c :: cs=>by simp [upCells,upCells_length ks cs]
theorem Vs.get {Y : CS} {m : List MB} : ∀ (l : List AV) (us : List Value),Vs w Y m l us → l.length = us.length ∧ (∀ (c : Nat) av,l[c]? = some av → ∃ u,us[c]? = some u ∧ V w Y m av u) ∧ ∀ (c : Nat) u,us[c]? = some u → ∃ av,l[c]? = some av ∧ V w Y m av u:=by
 intro l
 induction l with
 | nil=>intro us h;simp only [Vs] at h;subst h;simp
 | cons a l ih =>
  intro us h
  simp only [Vs] at h
  obtain ⟨u,t,rfl,h1,h2⟩:=h
  obtain ⟨q1,q2,q3⟩:=ih t h2
  refine ⟨by simp [q1],fun c av hc=>?_,fun c x hc=>?_⟩
  ·cases c with
   | zero=>simp only [List.getElem?_cons_zero,Option.some.injEq] at hc ⊢;subst hc;exact ⟨u,rfl,h1⟩
   | succ c=>simpa using q2 c av (by simpa using hc)
  ·cases c with
   | zero=>simp only [List.getElem?_cons_zero,Option.some.injEq] at hc ⊢;subst hc;exact ⟨a,rfl,h1⟩
   | succ c=>simpa using q3 c x (by simpa using hc)
theorem upCells_light {Y : CS} {m : List MB} : ∀ (ks : List (Option Nat)) (cs : List AV) (vs : List Value),Vs w Y m cs vs → (cs.all fun c=>!c.isOwn) = true →
  ∀ (i : Nat) a v,(upCells ks cs)[i]? = some a → vs[i]? = some v → Light a v
 | [],cs,vs,h,ho,i,a,v,h1,h2=>by
  simp only [upCells] at h1
  left
  have:=List.all_eq_true.1 ho a (List.mem_of_getElem? h1)
  simpa using this
 | _ :: _,[],_,_,_,i,a,v,h1,_=>by simp [upCells] at h1
 | k :: ks,c :: cs,_,h,ho,i,a,v,h1,h2=>by
  simp only [Vs] at h
  obtain ⟨u,t,rfl,h3,h4⟩:=h
  simp only [List.all_cons,Bool.and_eq_true,Bool.not_eq_true'] at ho
  cases i with
  | zero =>
   simp only [upCells,List.getElem?_cons_zero,Option.some.injEq] at h1 h2
   subst h1 h2
   exact upAV_light h3 ho.1
  | succ i =>
   simp only [upCells,List.getElem?_cons_succ] at h1 h2
   exact upCells_light ks cs t h4 ho.2 i a v h1 h2
def Does (P : Program) (g : G) (a : Act) (w : World) (o : Oper) (s' : St) : Prop :=
 (∃ v w',(execOp a.eval o).run P w = .ok (.value v) w' ∧ At g s' (a.put o.dst v) w') ∨ ∃ w',(execOp a.eval o).run P w = .ok .skip w' ∧ At g s' (a.put o.dst undef) w'
theorem Does.wp {o : Oper} {s' : St} (h : Does P g a w o s') {next : Act → World → Prop} {Q : Exit → Act → World → Prop} (hn : ∀ a' w',At g s' a' w' → next a' w') : o.wp P a w next Q:=by
 unfold Oper.wp
 rcases h with ⟨v,w',h1,h2⟩ | ⟨w',h1,h2⟩
 ·rw [h1,Oper.upon_value];exact hn _ _ h2
 ·rw [h1,Oper.upon_skip];exact hn _ _ h2
theorem putS_sound {o : Oper} {d : Option Nat} {r : R1} (hd : d = o.dst) (h : At g s a w) (hok : (putS g.n d r s).1 = true)
  (hr : ∀ m reg,Rel w g.Z m reg s.t (fun k=>a.tmps.getD k undef) s.o → r.ok = true → ∃ v,(execOp a.eval o).run P w = .ok (.value v) w ∧ V w (YS g.Z m reg s.o) m r.v v ∧ Light r.v v) :
  Does P g a w o (putS g.n d r s).2:=by
 simp only [putS,Bool.and_eq_true] at hok
 obtain ⟨⟨m,reg,h1,h2,h3⟩,h4,h5,h6⟩:=h
 obtain ⟨v,q1,q2,q3⟩:=hr m reg h1 hok.1
 subst hd
 exact .inl ⟨v,w,q1,At.put h1 h2 h3 h4 h5 h6 hok.2 q2 q3⟩
theorem opdV {m : List MB} {reg : Pl → Option Reg} (h1 : Rel w g.Z m reg s.t (fun k=>a.tmps.getD k undef) s.o) (x : Operand) : V w (YS g.Z m reg s.o) m (opd s.t x) (a.eval x):=opd_V h1.tv x
theorem loadAV_isOwn (P : Program) (t : TypeId) (row : List AV) (off : Nat) : (loadAV P t row off).isOwn = false:=by
 unfold loadAV;split
 ·rfl
 ·exact AV.dat_isOwn _
theorem R1_loadR_isOwn (P : Program) (o : List Ob) (t : TypeId) (a : AV) : (loadR P o t a).v.isOwn = false:=by
 unfold loadR;split
 ·split<;>first | exact loadAV_isOwn .. | rfl
 ·exact loadAV_isOwn ..
 ·rfl
theorem pureOp_light {o : List Ob} {op : Op} {ρ : Operand → AV} (h : (pureOp P o op ρ).ok = true) : (pureOp P o op ρ).v.isOwn = false:=by
 cases op<;>simp only [pureOp] at h ⊢<;>try (simp [R1.no] at h;done)
 case move=>exact AV.dat_isOwn _
 case assign=>exact AV.dat_isOwn _
 case pick=>(repeat' split)<;>first | rfl | (simp_all [R1.no];done)
 case load=>exact R1_loadR_isOwn ..
 case nilCheck=>split<;>rfl
 case binOp op _ _ _ _=>unfold binAV;(try unfold eqAgg);(repeat' split)<;>first | rfl | (cases op<;>rfl)
 case unOp=>unfold unAV;split<;>rfl
 case convert=>unfold convAV;split<;>rfl
 case fieldAddr=>unfold fieldR;(repeat' split)<;>rfl
 case field=>split<;>first | exact loadAV_isOwn .. | rfl
 case indexAddr=>unfold idxR;(repeat' split)<;>rfl
 case index=>unfold indexR;split<;>first | exact loadAV_isOwn .. | rfl
 case extract=>split<;>first | exact AV.dat_isOwn _ | rfl
 case slice=>unfold sliceR;(repeat' split)<;>rfl
 case lookup t x ix ok =>
  unfold lookR lookE
  (repeat' split)<;>first | rfl | exact AV.dat_isOwn _ | (cases ok<;>first | rfl | exact AV.dat_isOwn _)
 case makeFunc f _ _=>cases f<;>first | rfl | (simp only;split<;>rfl)
 case makeInterface=>rfl
 case call c =>
  split
  ·split
   ·unfold lenR;(repeat' split)<;>rfl
   ·rfl
  ·unfold maxL;split<;>rfl
  ·unfold minL;split<;>rfl
  ·rfl
end
end Go.AW
namespace Go.AW
open Go
set_option linter.unusedSimpArgs false
set_option linter.unusedVariables false
section
variable {P : Program} {g : G} {s : St} {a : Act} {w : World}
theorem mvS_sound {up : Bool} {o : Oper} {d k : Nat} {ty : TypeId} (hd : o.dst = some d) (h : At g s a w) (hok : (mvS up P g.n d ty k s).1 = true)
  (hr : (execOp a.eval o).run P w = .ok (.value (a.tmps.getD k undef)) w) : Does P g a w o (mvS up P g.n d ty k s).2:=by
 obtain ⟨⟨m,reg,h1,h2,h3⟩,h4,h5,h6⟩:=h
 unfold mvS at hok ⊢
 by_cases ho : (s.t k).isOwn = true
 ·rw [if_pos ho] at hok ⊢
  simp only [Bool.and_eq_true,decide_eq_true_eq] at hok
  refine .inl ⟨_,w,hr,?_⟩
  have hm:=h1.move k d hok.1
  rw [hd]
  refine At.mk' (m:=m) (reg:=fun p=>if p = .t d then reg (.t k) else if p = .t k then none else reg p) ?_ ?_ h3 h4 (by rw [put_size,h5]) (by rw [put_defers,h6])
  ·rw [put_getD a d _ (by rw [h5];exact hok.2)]
   exact hm
  ·rintro b x (q | ⟨p,rg,g1,g2⟩)
   ·exact h2 b x (.inl q)
   ·simp only at g1
    split at g1
    ·exact h2 b x (.inr ⟨_,rg,g1,g2⟩)
    ·split at g1
     ·simp at g1
     ·exact h2 b x (.inr ⟨_,rg,g1,g2⟩)
 ·rw [if_neg ho] at hok ⊢
  have hv:=h1.tv k
  have:=At.put (d:=some d) (av:=upAV (elU up P ty) (s.t k)) h1 h2 h3 h4 h5 h6 (by simpa [dstOk] using hok) (upAV_V hv) (upAV_light hv (by simpa using ho))
  exact .inl ⟨_,w,hr,by rw [hd];exact this⟩
theorem takeS_sound {up : Bool} {o : Oper} {d : Nat} {t : TypeId} {ad : Operand} (hd : o.dst = some d) (ho : o.op = .load t ad) (h : At g s a w) (hok : (takeS up P g.n d t (opd s.t ad) s).1 = true) :
  Does P g a w o (takeS up P g.n d t (opd s.t ad) s).2:=by
 obtain ⟨⟨m,reg,h1,h2,h3⟩,h4,h5,h6⟩:=h
 have hv:=opdV h1 ad
 unfold takeS at hok ⊢
 split at hok
 ·rename_i id idx off hp
  rw [hp] at hv
  simp only [V] at hv
  obtain ⟨mb,hm,he⟩:=hv
  split at hok
  ·rename_i sz rows hid
   have key : (idx < rows.length ∧ off < (rows.getD idx []).length ∧ (ukOf P t).agg = false ∧ ukOf P t ≠ .other) →
     ∃ v,w.cell? ⟨mb.blk,mb.base + idx * mb.sz + off,none⟩ = some v ∧ (execOp a.eval o).run P w = .ok (.value v) w ∧ rows[idx]? = some (rows.getD idx []) ∧ (rows.getD idx [])[off]? = some ((rows.getD idx []).getD off .any) ∧
      V w (YS g.Z m reg s.o) m ((rows.getD idx []).getD off .any) v:=by
    rintro ⟨q1,q2,q3,q4⟩
    have hr : rows[idx]? = some (rows.getD idx []):=by rw [List.getD_eq_getElem?_getD,List.getElem?_eq_getElem q1];rfl
    have hc : (rows.getD idx [])[off]? = some ((rows.getD idx []).getD off .any):=by rw [List.getD_eq_getElem?_getD (l:=rows.getD idx []),List.getElem?_eq_getElem q2];rfl
    obtain ⟨hsz,_,_,hcell⟩:=h1.ob id _ mb hid hm
    obtain ⟨v,e1,e2⟩:=hcell idx _ off _ hr hc
    rw [← hsz] at e1
    refine ⟨v,e1,?_,hr,hc,e2⟩
    unfold execOp
    rw [ho]
    simp only
    unfold Instr.loadAt
    rw [he]
    unfold loadVar
    simp only [srun_bind,sure_ptr,run_isAgg q4,q3,Bool.false_eq_true,if_false,run_load e1]
    rfl
   by_cases hown : ((rows.getD idx []).getD off .any).isOwn = true
   ·rw [if_pos hown] at hok ⊢
    simp only [Bool.and_eq_true,decide_eq_true_eq,Bool.not_eq_true',bne_iff_ne,ne_eq] at hok
    obtain ⟨⟨⟨⟨q0,q1⟩,q2⟩,q3⟩,q4⟩:=hok
    obtain ⟨v,e1,e2,hr,hc,e3⟩:=key ⟨q1,q2,q3,q4⟩
    have ht:=h1.take (d:=d) hid hm hr hc e1
    refine .inl ⟨v,w,e2,?_⟩
    rw [hd]
    refine At.mk' (m:=m) (reg:=fun p=>if p = .t d then reg (.o id idx off) else if p = .o id idx off then none else reg p) ?_ ?_ h3 h4 (by rw [put_size,h5]) (by rw [put_defers,h6])
    ·rw [put_getD a d _ (by rw [h5];exact q0)]
     exact ht
    ·rintro b x (⟨j,ob,mb',g1,g2,g3,g4⟩ | ⟨p,rg,g1,g2⟩)
     ·simp only at g1
      rw [set_get hid] at g1
      split at g1
      ·rename_i e;subst e;exact h2 b x (.inl ⟨j,_,mb',hid,trivial,g3,g4⟩)
      ·exact h2 b x (.inl ⟨j,ob,mb',g1,g2,g3,g4⟩)
     ·simp only at g1
      split at g1
      ·exact h2 b x (.inr ⟨_,rg,g1,g2⟩)
      ·split at g1
       ·simp at g1
       ·exact h2 b x (.inr ⟨_,rg,g1,g2⟩)
   ·rw [if_neg hown] at hok ⊢
    simp only [Bool.and_eq_true,decide_eq_true_eq,Bool.not_eq_true',bne_iff_ne,ne_eq] at hok
    obtain ⟨⟨⟨⟨q0,q1⟩,q2⟩,q3⟩,q4⟩:=hok
    obtain ⟨v,e1,e2,hr,hc,e3⟩:=key ⟨q1,q2,q3,q4⟩
    have:=At.put (d:=some d) (av:=upAV (elU up P t) ((rows.getD idx []).getD off .any)) h1 h2 h3 h4 h5 h6 (by simpa [dstOk] using q0) (upAV_V e3) (upAV_light e3 (by simpa using hown))
    exact .inl ⟨v,w,e2,by rw [hd];exact this⟩
  ·simp [SR.no] at hok
 ·simp [SR.no] at hok
theorem newS_sound {up : Bool} {o : Oper} {e : TypeId} {cells : List AV} {vs : List Value} (h : At g s a w) (hok : (newS up P g.n o.dst e cells s).1 = true)
  (hvs : ∀ m reg,Rel w g.Z m reg s.t (fun k=>a.tmps.getD k undef) s.o → Vs w (YS g.Z m reg s.o) m cells vs)
  (hr : (execOp a.eval o).run P w = .ok (.value (.pointer (some ⟨w.heap.size,0,none⟩))) { w with heap:=w.heap.push (.cells vs.toArray e (0,0)) }) :
  Does P g a w o (newS up P g.n o.dst e cells s).2:=by
 obtain ⟨⟨m,reg,h1,h2,h3⟩,h4,h5,h6⟩:=h
 have hvs:=hvs m reg h1
 simp only [newS,Bool.and_eq_true,beq_iff_eq,bne_iff_ne,ne_eq] at hok
 obtain ⟨⟨⟨q1,q2⟩,q3⟩,q4⟩:=hok
 have hup:=upCells_V (ckU up P e) cells vs hvs
 obtain ⟨hlen,hget,hget2⟩:=Vs.get _ _ hup
 have hlight:=upCells_light (ckU up P e) cells vs hvs q3
 have hcell : ∀ x,({ w with heap:=w.heap.push (.cells vs.toArray e (0,0)) } : World).cell? ⟨w.heap.size,x,none⟩ = vs[x]?:=by
  intro x
  rw [cell_cells (c:=vs.toArray) (e:=e) (f:=(0,0)) (by rw [push_get,if_pos rfl])]
  simp
 have hn:=h1.new (.cells vs.toArray e (0,0)) (.cells (szOf P e) [upCells (ckU up P e) cells]) (szOf P e) 1 trivial (by
  intro w' Y' m' hw' K
  subst hw'
  refine ⟨rfl,⟨vs.toArray,e,by simp [push_get],by simp [← hlen,upCells_length,q2]⟩,?_,?_⟩
  ·intro r row hrr
   cases r with
   | zero=>simp only [List.getElem?_cons_zero,Option.some.injEq] at hrr;subst hrr;rw [upCells_length,q2]
   | succ r=>simp at hrr
  ·intro r row c av hrr hc
   cases r with
   | zero =>
    simp only [List.getElem?_cons_zero,Option.some.injEq] at hrr;subst hrr
    obtain ⟨u,e1,e2⟩:=hget c av hc
    exact ⟨u,by rw [hcell];simpa using e1,V.keep K _ _ e2⟩
   | succ r=>simp at hrr) (by
  intro r c sz' rows hl
  simp only [leaf,List.getElem?_cons_zero] at hl
  cases r with
  | zero =>
   simp only [List.getElem?_cons_zero,Option.bind_some] at hl
   obtain ⟨u,e1,e2⟩:=hget c _ hl
   have hli:=hlight c _ u hl e1
   -- a light owner in a struct is nil
   have : rows = [] ∧ u = .slice none 0 0:=by
    have hmem:=hl
    have key : ∀ (ks : List (Option Nat)) (cs : List AV) (us : List Value) (i : Nat),Vs w (YS g.Z m reg s.o) m cs us → (cs.all fun c=>!c.isOwn) = true → (upCells ks cs)[i]? = some (.own sz' rows) → us[i]? = some u → rows = [] ∧ u = .slice none 0 0:=by
     intro ks
     induction ks with
     | nil =>
      intro cs us i hh ho hi hu
      simp only [upCells] at hi
      have:=List.all_eq_true.1 ho _ (List.mem_of_getElem? hi)
      simp [AV.isOwn] at this
     | cons k ks ih =>
      intro cs us i hh ho hi hu
      cases cs with
      | nil=>simp [upCells] at hi
      | cons c cs =>
       simp only [Vs] at hh
       obtain ⟨x,us',rfl,g1,g2⟩:=hh
       simp only [List.all_cons,Bool.and_eq_true,Bool.not_eq_true'] at ho
       cases i with
       | zero =>
        simp only [upCells,List.getElem?_cons_zero,Option.some.injEq] at hi hu
        subst hu
        unfold upAV at hi
        split at hi
        ·split at hi
         ·obtain ⟨_,rfl⟩:=AV.own.inj hi
          simp only [V] at g1
          exact ⟨rfl,g1⟩
         ·cases hi
        ·rw [hi] at ho;simp [AV.isOwn] at ho
       | succ i =>
        simp only [upCells,List.getElem?_cons_succ] at hi hu
        exact ih cs us' i g2 ho.2 hi hu
    exact key _ _ _ c hvs q3 hl e1
   refine ⟨this.1,fun v hv=>?_⟩
   rw [hcell] at hv
   simp only [Nat.zero_mul,Nat.add_zero,Nat.zero_add] at hv
   rw [e1] at hv
   rw [← Option.some.inj hv];exact this.2
  | succ r=>simp at hl)
 refine .inl ⟨_,_,hr,?_⟩
 have hev : Evol g.w g.X { w with heap:=w.heap.push (.cells vs.toArray e (0,0)) }:=h4.trans ((Grow.push w _).evol (fun _ _=>False)) (fun _ _ h=>h.elim)
 have hXn : ∀ b x,XS (m ++ [⟨w.heap.size,0,szOf P e,1⟩]) (fun p=>match p with | .o id _ _=>if id = s.o.length then none else reg p | p=>reg p) (s.o ++ [.cells (szOf P e) [upCells (ckU up P e) cells]]) b x → g.X b x ∨ g.w.heap.size ≤ b:=by
  rintro b x (⟨j,ob,mb',g1,g2,g3,g4⟩ | ⟨p,rg,g1,g2⟩)
  ·rw [append_get] at g1 g3
   rw [h1.len] at g3
   split at g1
   ·rename_i ee
    rw [if_pos ee] at g3
    obtain rfl:=Option.some.inj g3
    right;have:=h4.size;simp only at g4;omega
   ·rename_i ee
    rw [if_neg ee] at g3
    exact h2 b x (.inl ⟨j,ob,mb',g1,g2,g3,g4⟩)
  ·refine h2 b x (.inr ⟨p,rg,?_,g2⟩)
   cases p with
   | t k=>exact g1
   | o id r c =>
    simp only at g1
    split at g1
    ·simp at g1
    ·exact g1
 refine At.put (s:=⟨s.t,s.o ++ [.cells (szOf P e) [upCells (ckU up P e) cells]]⟩) (av:=.ptr s.o.length 0 0) hn hXn ?_ hev h5 h6 q1 ?_ (.inl rfl)
 ·intro id mb hg
  rw [append_get]
  rw [if_neg (by have:=(List.getElem?_eq_some_iff.1 (h3 id mb hg)).1;omega)]
  exact h3 id mb hg
 ·simp only [V]
  exact ⟨_,by rw [append_get,h1.len,if_pos rfl],by simp⟩
end
end Go.AW
namespace Go.AW
open Go
set_option linter.unusedSimpArgs false
set_option linter.unusedVariables false
section
variable {P : Program} {g : G} {s : St} {a : Act} {w : World}
theorem run_store1 {blk x : Nat} {v : Value} {c : Array Value} {e : TypeId} (hb : w.heap[blk]? = some (.cells c e (0,0))) (hx : x < c.size) (hv : Value.flat v = true) :
  (store ⟨blk,x,none⟩ v).run P w = .ok () (w.setCell ⟨blk,x,none⟩ v):=by
 have h1 : w.cell? ⟨blk,x,none⟩ = some c[x]:=by rw [cell_cells hb,Array.getElem?_eq_getElem hx]
 have h2 : w.frozen? ⟨blk,x,none⟩ = false:=by simp [World.frozen?,hb]
 unfold store
 cases v<;>simp [Value.flat] at hv<;>simp only [Sem.run,h1,h2]<;>rfl
theorem run_storeCells : ∀ (vs : List Value) (w : World) (blk x i : Nat) (c : Array Value) (e : TypeId),w.heap[blk]? = some (.cells c e (0,0)) → x + i + vs.length ≤ c.size → (∀ v ∈ vs,Value.flat v = true) →
  (storeCells ⟨blk,x,none⟩ vs i).run P w = .ok () (putCells w blk (x + i) vs)
 | [],w,blk,x,i,c,e,_,_,_=>by simp [storeCells,putCells,srun_pure]
 | v :: vs,w,blk,x,i,c,e,hb,hs,hf=>by
  simp only [List.length_cons] at hs
  unfold storeCells
  rw [addr_add,srun_bind_ok (run_store1 hb (by omega) (hf v List.mem_cons_self))]
  rw [run_storeCells vs _ blk x (i + 1) _ e (setCell_cells hb) (by simp;omega) (fun v h=>hf v (List.mem_cons_of_mem _ h))]
  simp only [putCells]
  rw [show x + (i + 1) = x + i + 1 by omega]
theorem run_storeVar {t : TypeId} {blk x : Nat} {v : Value} {c : Array Value} {e : TypeId} (ht : ukOf P t ≠ .other) (hsz : v.cells.size = szOf P t) (hb : w.heap[blk]? = some (.cells c e (0,0)))
  (hx : x + v.cells.size ≤ c.size) (hf : ∀ u ∈ v.cells.toList,Value.flat u = true) :
  (Instr.storeAt t (.pointer (some ⟨blk,x,none⟩)) v).run P w = .ok () (putCells w blk x v.cells.toList):=by
 obtain ⟨d,hd⟩:=uk_some ht
 obtain ⟨i,hi⟩:=und_info hd
 unfold Instr.storeAt
 rw [srun_bind_ok (sure_ptr _)]
 unfold storeVar
 rw [srun_bind_ok (run_size hi),hsz]
 simp only [ne_eq,not_true_eq_false,if_false]
 rw [run_storeCells _ _ _ _ _ _ _ hb (by simpa using hx) hf]
 simp
theorem Vs.flat {Y : CS} {m : List MB} {cells : List AV} {vs : List Value} (h : Vs w Y m cells vs) (hp : cells.all (fun c=>!c.isOwn && c.plain) = true) : ∀ u ∈ vs,Value.flat u = true:=by
 intro u hu
 obtain ⟨i,hi⟩:=List.getElem?_of_mem hu
 obtain ⟨av,h1,h2⟩:=(Vs.get _ _ h).2.2 i u hi
 have:=List.all_eq_true.1 hp av (List.mem_of_getElem? h1)
 simp only [Bool.and_eq_true] at this
 exact (plain_flat h2 this.2).1
theorem undef_at {a : Act} {n : Nat} (h : a.tmps.size = n) : (fun k=>a.tmps.getD k undef) n = undef:=by
 simp [Array.getD_eq_getD_getElem?,Array.getElem?_eq_none (Nat.le_of_eq h)]
theorem storeS_sound {up : Bool} {o : Oper} {t : TypeId} {ad x : Operand} (ho : o.op = .store t ad x) (hd : o.dst = none) (h : At g s a w) (hok : (storeS up P t (opd s.t ad) x s).1 = true) :
  Does P g a w o (storeS up P t (opd s.t ad) x s).2:=by
 obtain ⟨⟨m,reg,h1,h2,h3⟩,h4,h5,h6⟩:=h
 have hva:=opdV h1 ad
 have hvx:=opdV h1 x
 unfold storeS at hok ⊢
 split at hok
 ·rename_i id idx off hp
  rw [hp] at hva
  simp only [V] at hva
  obtain ⟨mb,hm,he⟩:=hva
  split at hok
  ·rename_i sz rows hid
   obtain ⟨hsz,⟨c,e,hblk,hcs⟩,hrl,hcell⟩:=h1.ob id _ mb hid hm
   have hrow : idx < rows.length → rows[idx]? = some (rows.getD idx []):=fun q=>by rw [List.getD_eq_getElem?_getD,List.getElem?_eq_getElem q];rfl
   have hin : ∀ {off n : Nat},idx < rows.length → off + n ≤ (rows.getD idx []).length → mb.base + idx * mb.sz + off + n ≤ c.size:=by
    intro off n q1 q2
    have:=hrl idx _ (hrow q1)
    rw [this] at q2
    rw [hsz]
    have : (idx + 1) * sz ≤ mb.lim * sz:=Nat.mul_le_mul_right _ (by omega)
    rw [Nat.add_mul] at this
    omega
   have fin : ∀ {w' : World} {reg' : Pl → Option Reg} {t' : Nat → AV} {o' : List Ob},Rel w' g.Z m reg' t' (fun k=>a.tmps.getD k undef) o' → (∀ b x,XS m reg' o' b x → XS m reg s.o b x) → Evol w (XS m reg s.o) w' →
     At g ⟨t',o'⟩ (a.put none undef) w':=fun r1 r2 r3 =>
    At.mk' r1 (fun b x k=>h2 b x (r2 b x k)) h3 (h4.trans r3 h2) h5 h6
   split at hok
   ·rename_i cells hcells
    simp only [Bool.and_eq_true,decide_eq_true_eq,beq_iff_eq,bne_iff_ne,ne_eq] at hok
    obtain ⟨⟨⟨⟨q1,q2⟩,q3⟩,q4⟩,q5⟩:=hok
    rw [hcells] at hvx
    simp only [V] at hvx
    obtain ⟨vs,hex,hvs⟩:=hvx
    have hup:=upCells_V (ckU up P t) cells vs.toList hvs
    have hli:=upCells_light (ckU up P t) cells vs.toList hvs (by
     rw [List.all_eq_true] at q4 ⊢
     intro y hy
     have:=q4 y hy
     simp only [Bool.and_eq_true] at this
     exact this.1)
    have hlen : vs.size = szOf P t:=by
     have:=(Vs.get _ _ hvs).1
     rw [q3] at this;simpa using this.symm
    obtain ⟨reg',r1,r2,r3⟩:=Rel.storeVs (u:=fun k=>a.tmps.getD k undef) (t:=s.t) g.n (undef_at h5) _ _ w reg s.o id sz idx off rows _ mb h1 hup hli hid hm (hrow q1) (by rw [upCells_length,q3];exact q2)
    refine .inr ⟨_,?_,by rw [hd];exact fin r1 r3 r2⟩
    unfold execOp
    rw [ho]
    simp only [he,hex]
    rw [srun_bind_ok (run_storeVar q5 (by simpa [Value.cells] using hlen) hblk (by simp only [Value.cells,hlen];exact hin q1 q2) (by simpa [Value.cells] using Vs.flat hvs q4))]
    rfl
   ·rename_i k0 r0 hcells
    split at hok
    ·rename_i k
     simp only [Bool.and_eq_true,decide_eq_true_eq,beq_iff_eq,bne_iff_ne,ne_eq] at hok
     obtain ⟨⟨⟨q1,q2⟩,q3⟩,q4⟩:=hok
     have hpl : (s.t k).plain = true:=by simp only [opd] at hcells;rw [hcells];rfl
     obtain ⟨hfl,hcl⟩:=plain_flat hvx hpl
     obtain ⟨r1,r2,_⟩:=h1.store (k:=k) hid hm (hrow q1) q2 rfl rfl
     have r3 : ∀ b x,XS m (fun p=>if p = .o id idx off then reg (.t k) else if p = .t k then none else reg p) (s.o.set id (.cells sz (rset rows idx off (s.t k)))) b x → XS m reg s.o b x:=by
      rintro b x (⟨j,ob,mb',g1,g2,g3,g4⟩ | ⟨p,rg,g1,g2⟩)
      ·rw [set_get hid] at g1
       split at g1
       ·rename_i ee;subst ee;exact .inl ⟨j,_,mb',hid,trivial,g3,g4⟩
       ·exact .inl ⟨j,ob,mb',g1,g2,g3,g4⟩
      ·simp only at g1
       split at g1
       ·exact .inr ⟨_,rg,g1,g2⟩
       ·split at g1
        ·simp at g1
        ·exact .inr ⟨_,rg,g1,g2⟩
     refine .inr ⟨_,?_,by rw [hd];exact fin r1 r3 r2⟩
     unfold execOp
     rw [ho]
     simp only [he]
     rw [srun_bind_ok (run_storeVar q3 (by rw [hcl];exact q4.symm) hblk (by rw [hcl];exact hin (n:=1) q1 q2) (by rw [hcl];simpa using hfl))]
     rw [hcl];rfl
    ·simp [SR.no] at hok
   ·rename_i nag nown
    simp only [Bool.and_eq_true,decide_eq_true_eq,beq_iff_eq,bne_iff_ne,ne_eq] at hok
    obtain ⟨⟨⟨⟨q1,q2⟩,q3⟩,q4⟩,q5⟩:=hok
    obtain ⟨hfl,hcl⟩:=plain_flat hvx q5
    have hno : (opd s.t x).isOwn = false:=by
     cases hq : (opd s.t x)<;>first | rfl | exact absurd hq (nown _ _)
    obtain ⟨reg',r1,r2,_,r3⟩:=h1.storeV g.n (undef_at h5) (upAV_V (k:=elU up P t) hvx) (upAV_light hvx hno) hid hm (hrow q1) q2 rfl rfl
    refine .inr ⟨_,?_,by rw [hd];exact fin r1 r3 r2⟩
    unfold execOp
    rw [ho]
    simp only [he]
    rw [srun_bind_ok (run_storeVar q3 (by rw [hcl];exact q4.symm) hblk (by rw [hcl];exact hin (n:=1) q1 q2) (by rw [hcl];simpa using hfl))]
    rw [hcl];rfl
  ·simp [SR.no] at hok
 ·simp [SR.no] at hok
theorem ba_iff (a b : ByteArray) : (a == b) = true ↔ a = b:=by
 obtain ⟨x⟩:=a
 obtain ⟨y⟩:=b
 constructor
 ·intro h
  have e : x = y:=by simpa using (show (x == y) = true from h)
  rw [e]
 ·intro h
  cases h
  show (x == x) = true
  simp
theorem ba_eq {a b : ByteArray} (h : (a == b) = true) : a = b:=(ba_iff a b).1 h
theorem ba_refl (a : ByteArray) : (a == a) = true:=(ba_iff a a).2 rfl
theorem sameBits_key {uk : UK} {Y : CS} {m : List MB} {k k' : AV} {v v' : Value} (h : keq k k' = some true) (hv : V w Y m k v) (hv' : V w Y m k' v') (hk : keyOk uk k = true) : Instr.sameBits 10000 v' v = true:=by
 cases k<;>cases k'<;>simp only [keq,reduceCtorEq] at h<;>try (cases h;done)
 ·simp only [V] at hv hv';subst hv hv'
  simp only [Option.some.injEq,beq_iff_eq] at h;subst h
  simp [Instr.sameBits]
 ·simp only [V] at hv hv';subst hv hv'
  split at h
  ·rename_i e;subst e
   simp only [Option.some.injEq,beq_iff_eq] at h;subst h
   simp [Instr.sameBits]
  ·cases h
 ·simp only [V] at hv hv';subst hv hv'
  simp only [Option.some.injEq] at h
  rw [ba_eq h]
  simp [Instr.sameBits,ba_refl]
theorem mset_sound {Y : CS} {m : List MB} {kt : TypeId} {k x : AV} {kv xv : Value} {clock : Nat} (hk : keyOk (ukOf P kt) k = true) (hkv : V w Y m k kv) (hxv : V w Y m x xv) :
  ∀ (es es' : List (AV × AV)) (ents : List MapEntry) (i : Nat),MapR w Y m es ents → mset k x es = some es' →
   ∃ d,P.underlying kt = some d ∧
   ((∃ j y e,Instr.findNow d kv ents i = some (some (i + j,y)) ∧ ents[j]? = some e ∧ Instr.sameBits 10000 e.key kv = true ∧ MapR w Y m es' (ents.modify j fun e=>{ e with key:=kv,val:=xv })) ∨
    (Instr.findNow d kv ents i = some none ∧ MapR w Y m es' (ents ++ [{ key:=kv,val:=xv,born:=clock }]))):=by
 have hd : ∃ d,P.underlying kt = some d ∧ ∀ (k' : AV) (u : Value) (b : Bool),keq k k' = some b → V w Y m k' u → Instr.sameNow d kv u = some b:=by
  unfold keyOk at hk
  split at hk
  ·split at hk
   ·rename_i kk n _ k2 huk
    refine ⟨_,uk_int huk,fun k' u b hb hu=>?_⟩
    simp only [V] at hkv;subst hkv
    cases k'<;>simp only [keq,reduceCtorEq] at hb<;>try (cases hb;done)
    simp only [V] at hu;subst hu
    exact hb
   ·cases hk
  ·simp only [beq_iff_eq] at hk
   refine ⟨_,uk_str hk,fun k' u b hb hu=>?_⟩
   simp only [V] at hkv;subst hkv
   cases k'<;>simp only [keq,reduceCtorEq] at hb<;>try (cases hb;done)
   simp only [V] at hu;subst hu
   exact hb
  ·simp only [beq_iff_eq] at hk
   refine ⟨_,uk_bool hk,fun k' u b hb hu=>?_⟩
   simp only [V] at hkv;subst hkv
   cases k'<;>simp only [keq,reduceCtorEq] at hb<;>try (cases hb;done)
   simp only [V] at hu;subst hu
   exact hb
  ·cases hk
 obtain ⟨d,hd,hs⟩:=hd
 intro es
 induction es with
 | nil =>
  intro es' ents i hm hf
  simp only [MapR] at hm;subst hm
  simp only [mset,Option.some.injEq] at hf;subst hf
  exact ⟨d,hd,.inr ⟨rfl,by simp only [List.nil_append,MapR];exact ⟨_,_,rfl,hkv,hxv,rfl⟩⟩⟩
 | cons a es ih =>
  intro es' ents i hm hf
  obtain ⟨k',v'⟩:=a
  simp only [MapR] at hm
  obtain ⟨e,t,rfl,h1,h2,h3⟩:=hm
  simp only [mset] at hf
  split at hf
  ·rename_i hb
   obtain rfl:=Option.some.inj hf
   refine ⟨d,hd,.inl ⟨0,e.val,e,by simp [Instr.findNow,hs _ _ _ hb h1],rfl,sameBits_key hb hkv h1 hk,?_⟩⟩
   simp only [List.modify_zero_cons,MapR]
   exact ⟨_,t,rfl,hkv,hxv,h3⟩
  ·rename_i hb
   cases hm' : mset k x es with
   | none=>simp [hm'] at hf
   | some es2 =>
    simp only [hm',Option.map_some,Option.some.injEq] at hf
    subst hf
    obtain ⟨d',hd',hr⟩:=ih es2 t (i + 1) h3 hm'
    obtain rfl : d = d':=by rw [hd] at hd';exact Option.some.inj hd'
    refine ⟨d,hd,?_⟩
    rcases hr with ⟨j,y,e2,g1,g2,g3,g4⟩ | ⟨g1,g2⟩
    ·refine .inl ⟨j + 1,y,e2,?_,by simpa using g2,g3,?_⟩
     ·simp only [Instr.findNow,hs _ _ _ hb h1]
      rw [g1];simp;omega
     ·simp only [List.modify_succ_cons,MapR]
      exact ⟨e,_,rfl,h1,h2,g4⟩
    ·refine .inr ⟨by simpa [Instr.findNow,hs _ _ _ hb h1] using g1,?_⟩
     simp only [List.cons_append,MapR]
     exact ⟨e,_,rfl,h1,h2,g2⟩
  ·cases hf
theorem Rel.mapSet {Z : CS} {m : List MB} {reg : Pl → Option Reg} {t : Nat → AV} {u : Nat → Value} {o : List Ob} (h : Rel w Z m reg t u o) {id : Nat} {es es' : List (AV × AV)} {mb : MB} {ents ents' : Array MapEntry} {clock clock' : Nat}
  (ho : o[id]? = some (.mapo es)) (hm : m[id]? = some mb) (hb : w.heap[mb.blk]? = some (.map ents clock))
  (hr : MapR w (YS Z m reg o) m es' ents'.toList) (hp : ents'.toList.Pairwise fun a b=>a.born < b.born) (hc : ∀ e ∈ ents'.toList,e.born < clock') :
  Rel { w with heap:=w.heap.setIfInBounds mb.blk (.map ents' clock') } Z m reg t u (o.set id (.mapo es')) ∧ Evol w (XS m reg o) { w with heap:=w.heap.setIfInBounds mb.blk (.map ents' clock') } ∧
   ∀ b x,XS m reg (o.set id (.mapo es')) b x → XS m reg o b x:=by
 have hlt:=get_lt hb
 have hget : ∀ b,({ w with heap:=w.heap.setIfInBounds mb.blk (.map ents' clock') } : World).heap[b]? = if b = mb.blk then some (.map ents' clock') else w.heap[b]?:=by
  intro b
  simp only [Array.getElem?_setIfInBounds]
  by_cases e : b = mb.blk
  ·subst e;simp [hlt]
  ·rw [if_neg (fun q=>e q.symm),if_neg e]
 have hcell : ∀ b x v,w.cell? ⟨b,x,none⟩ = some v → ({ w with heap:=w.heap.setIfInBounds mb.blk (.map ents' clock') } : World).cell? ⟨b,x,none⟩ = some v:=by
  intro b x v hc
  obtain ⟨c,e,f,g1,g2⟩:=cell_at hc
  have : b ≠ mb.blk:=by rintro rfl;rw [hb] at g1;cases g1
  unfold World.cell? at hc ⊢
  rw [hget,if_neg this];exact hc
 have hE : Evol w (XS m reg o) { w with heap:=w.heap.setIfInBounds mb.blk (.map ents' clock') }:=by
  refine ⟨rfl,rfl,rfl,Nat.le_refl _,by simp,fun b hb' hx=>?_,fun b x v _ hc=>hcell b x v hc⟩
  rw [hget,if_neg (fun e=>hx 0 (.inl ⟨id,_,mb,ho,trivial,hm,e.symm⟩))]
 have hX : ∀ b x,XS m reg (o.set id (.mapo es')) b x → XS m reg o b x:=by
  rintro b x (⟨j,ob,mb',g1,g2,g3,g4⟩ | k)
  ·rw [set_get ho] at g1
   split at g1
   ·rename_i e;subst e;exact .inl ⟨j,_,mb',ho,trivial,g3,g4⟩
   ·exact .inl ⟨j,ob,mb',g1,g2,g3,g4⟩
  ·exact .inr k
 have K : Keeps w (YS Z m reg o) m { w with heap:=w.heap.setIfInBounds mb.blk (.map ents' clock') } (YS Z m reg (o.set id (.mapo es'))) m :=
  ⟨fun b x v hc hy=>⟨hcell b x v hc,fun k=>hy (k.imp (hX b x) (fun h=>h))⟩,fun _ _ h=>h⟩
 have live' : ∀ {i : Nat} {x : Ob},(o.set id (.mapo es'))[i]? = some x → x.live → ∃ x',o[i]? = some x' ∧ x'.live:=by
  intro i x hi hl
  rw [set_get ho] at hi
  split at hi
  ·rename_i e;subst e;exact ⟨_,ho,trivial⟩
  ·exact ⟨x,hi,hl⟩
 refine ⟨⟨by simp [h.len],fun k=>V.keep K _ _ (h.tv k),?_,?_,fun p r hr=>by simpa using h.rok p r hr,?_,h.rdj,?_,fun b x hz k=>h.zx b x hz (hX b x k),fun b x hz=>by simpa using h.zs b x hz⟩,hE,hX⟩
 ·intro j x mb' hj hmj
  rw [set_get ho] at hj
  split at hj
  ·rename_i e;subst e
   rw [hm] at hmj
   obtain rfl:=Option.some.inj hmj
   obtain rfl:=Option.some.inj hj
   exact ⟨ents',clock',by rw [hget,if_pos rfl],MapR.keep K _ _ hr,hp,hc⟩
  ·rename_i e
   refine Ob.keep K x (fun hl=>?_) (h.ob j x mb' hj hmj)
   rw [hget,if_neg (fun q=>e (h.inj j id x _ mb' mb hj ho hl trivial hmj hm q))]
 ·intro i j x y a b hi hj lx ly ha hb e
  obtain ⟨x',hx',lx'⟩:=live' hi lx
  obtain ⟨y',hy',ly'⟩:=live' hj ly
  exact h.inj i j x' y' a b hx' hy' lx' ly' ha hb e
 ·intro p rg j x mb' hp hj hl hmj
  obtain ⟨x',hx',lx'⟩:=live' hj hl
  exact h.rob p rg j x' mb' hp hx' lx' hmj
 ·intro p sz rows v hl hv
  have hl' : leaf t o p = some (.own sz rows):=by
   cases p with
   | t k=>exact hl
   | o j r c =>
    simp only [leaf,set_get ho] at hl ⊢
    split at hl
    ·rename_i e;split at e<;>simp_all
    ·simp at hl
  have hv' : valAt w m u p = some v:=by
   cases p with
   | t k=>exact hv
   | o j r c =>
    obtain ⟨sz2,rows2,row2,mb2,v2,q1,q2,q3,q4,q5,q6,q7⟩:=h.cellOf hl'
    simp only [valAt,q4,Option.bind_some] at hv ⊢
    rw [hcell _ _ _ q6] at hv
    rw [q6];exact hv
  obtain ⟨a,cap,e1,e2⟩:=h.own p sz rows v hl' hv'
  refine ⟨a,cap,e1,fun hn=>?_⟩
  obtain ⟨blk,off,lo,c,e,g1,g2,g3,g4,g5⟩:=e2 hn
  refine ⟨blk,off,lo,c,e,g1,g2,g3,?_,g5⟩
  rw [hget,if_neg]
  ·exact g4
  ·exact fun q=>h.rob p _ id _ mb g2 ho trivial hm q.symm
theorem msetS_sound {o : Oper} {t : TypeId} {am ak ax : Operand} (ho : o.op = .mapUpdate t am ak ax ∨ o.op = .insert t am ak ax) (hd : o.dst = none) (h : At g s a w)
  (hok : (msetS P t (opd s.t am) (opd s.t ak) (opd s.t ax).dat s).1 = true) : Does P g a w o (msetS P t (opd s.t am) (opd s.t ak) (opd s.t ax).dat s).2:=by
 obtain ⟨⟨m,reg,h1,h2,h3⟩,h4,h5,h6⟩:=h
 have hvm:=opdV h1 am
 have hvk:=opdV h1 ak
 have hvx:=V.dat _ _ (opdV h1 ax)
 unfold msetS at hok ⊢
 split at hok
 ·rename_i kt et id ht hmp
  rw [hmp] at hvm
  simp only [V] at hvm
  obtain ⟨mb,hm,he⟩:=hvm
  split at hok
  ·rename_i es hid
   split at hok
   ·rename_i es' hms
    simp only at hok
    obtain ⟨ents,clock,hb,hmr,hpw,hcl⟩:=h1.ob id _ mb hid hm
    have hg : (getObj mb.blk).run P w = .ok (.map ents clock) w:=by simp [getObj,Sem.run,hb]
    have hso : ∀ x : Obj,(∀ a b c,x ≠ .cells a b c) → (setObj mb.blk x).run P w = .ok () { w with heap:=w.heap.setIfInBounds mb.blk x }:=by
     intro x _;simp [setObj,Sem.run,hb]
    obtain ⟨d,hd',hr⟩:=mset_sound (P:=P) (clock:=clock) hok hvk hvx es es' ents.toList 0 hmr hms
    have hrun : ∀ (x : Obj),(∀ a b c,x ≠ .cells a b c) → (do
       match ← Instr.findKey kt (a.eval ak) ents.toList with
       | some (i,_)=>do
        let key ← Instr.keyThatStays (((ents[i]?).map (·.key)).getD (a.eval ak)) (a.eval ak)
        setObj mb.blk (.map (ents.modify i fun e=>{ e with key,val:=a.eval ax }) clock)
       | none=>setObj mb.blk (.map (ents.push { key:=a.eval ak,val:=a.eval ax,born:=clock }) (clock + 1)) : Sem Unit).run P w = .ok () { w with heap:=w.heap.setIfInBounds mb.blk x } →
      (execOp a.eval o).run P w = .ok .skip { w with heap:=w.heap.setIfInBounds mb.blk x }:=by
     intro x _ hx
     have : (Instr.mapUpdate t (a.eval am) (a.eval ak) (a.eval ax)).run P w = .ok () { w with heap:=w.heap.setIfInBounds mb.blk x }:=by
      unfold Instr.mapUpdate
      rw [srun_bind_ok (run_und (uk_map ht)),he]
      simp only
      rw [srun_bind_ok hg]
      simp only
      rw [srun_bind_ok (run_checkKey hok hvk)]
      exact hx
     unfold execOp
     rcases ho with ho | ho<;>rw [ho]<;>simp only<;>rw [srun_bind_ok this]<;>rfl
    rcases hr with ⟨j,y,e,g1,g2,g3,g4⟩ | ⟨g1,g2⟩
    ·have hmod : (ents.modify j fun e=>{ e with key:=a.eval ak,val:=a.eval ax }).toList = ents.toList.modify j fun e=>{ e with key:=a.eval ak,val:=a.eval ax }:=by simp
     have hpw' : (ents.toList.modify j fun e=>{ e with key:=a.eval ak,val:=a.eval ax }).map (·.born) = ents.toList.map (·.born):=by
      apply List.ext_getElem?;intro i
      simp only [List.getElem?_map,List.getElem?_modify]
      split<;>(cases ents.toList[i]?<;>rfl)
     obtain ⟨r1,r2,r3⟩:=h1.mapSet (ents':=ents.modify j fun e=>{ e with key:=a.eval ak,val:=a.eval ax }) (clock':=clock) hid hm hb (by rw [hmod];exact g4)
      (by
       rw [hmod]
       have : (ents.toList.map (·.born)).Pairwise (· < ·):=List.pairwise_map.2 hpw
       rw [← hpw'] at this
       exact List.pairwise_map.1 this)
      (by
       rw [hmod]
       intro e' he'
       have : e'.born ∈ (ents.toList.modify j fun e=>{ e with key:=a.eval ak,val:=a.eval ax }).map (·.born):=List.mem_map_of_mem he'
       rw [hpw'] at this
       obtain ⟨e2,h7,h8⟩:=List.mem_map.1 this
       rw [← h8];exact hcl e2 h7)
     refine .inr ⟨_,hrun (.map (ents.modify j fun e=>{ e with key:=a.eval ak,val:=a.eval ax }) clock) (by intros;simp) ?_,by rw [hd];exact At.mk' r1 (fun b x k=>h2 b x (r3 b x k)) h3 (h4.trans r2 h2) h5 h6⟩
     have hj : ents[j]? = some e:=by rw [← Array.getElem?_toList];exact g2
     unfold Instr.findKey
     simp only [srun_bind,run_und hd',g1,srun_pure,Nat.zero_add,hj,Option.map_some,Option.getD_some]
     unfold Instr.keyThatStays
     simp only [g3,if_true,srun_pure]
     exact hso _ (by intros;simp)
    ·obtain ⟨r1,r2,r3⟩:=h1.mapSet (ents':=ents.push { key:=a.eval ak,val:=a.eval ax,born:=clock }) (clock':=clock + 1) hid hm hb (by rw [Array.toList_push];exact g2)
      (by
       rw [Array.toList_push,List.pairwise_append]
       refine ⟨hpw,by simp,fun x hx y hy=>?_⟩
       simp only [List.mem_singleton] at hy;subst hy
       exact hcl x hx)
      (by
       rw [Array.toList_push]
       intro e' he'
       rcases List.mem_append.1 he' with he' | he'
       ·have:=hcl e' he';omega
       ·simp only [List.mem_singleton] at he';subst he';simp)
     refine .inr ⟨_,hrun (.map (ents.push { key:=a.eval ak,val:=a.eval ax,born:=clock }) (clock + 1)) (by intros;simp) ?_,by rw [hd];exact At.mk' r1 (fun b x k=>h2 b x (r3 b x k)) h3 (h4.trans r2 h2) h5 h6⟩
     unfold Instr.findKey
     simp only [srun_bind,run_und hd',g1,srun_pure]
     exact hso _ (by intros;simp)
   ·simp [SR.no] at hok
  ·simp [SR.no] at hok
 ·simp [SR.no] at hok
end
end Go.AW
namespace Go.AW
open Go
set_option linter.unusedSimpArgs false
set_option linter.unusedVariables false
section
variable {P : Program} {g : G} {s : St} {a : Act} {w : World}
theorem At.new {m : List MB} {reg : Pl → Option Reg} (h1 : Rel w g.Z m reg s.t (fun k=>a.tmps.getD k undef) s.o)
  (h2 : ∀ b x,XS m reg s.o b x → g.X b x ∨ g.w.heap.size ≤ b) (h3 : ∀ (id : Nat) mb,g.m[id]? = some mb → m[id]? = some mb) (h4 : Evol g.w g.X w) (h5 : a.tmps.size = g.n) (h6 : a.defers = g.ds)
  {x : Obj} {ob : Ob} {sz lim : Nat} (hn : Rel { w with heap:=w.heap.push x } g.Z (m ++ [⟨w.heap.size,0,sz,lim⟩]) (fun p=>match p with | .o id _ _=>if id = s.o.length then none else reg p | p=>reg p) s.t (fun k=>a.tmps.getD k undef) (s.o ++ [ob]))
  {d : Option Nat} {av : AV} {v : Value} (hd : dstOk g.n d = true)
  (hv : V { w with heap:=w.heap.push x } (YS g.Z (m ++ [⟨w.heap.size,0,sz,lim⟩]) (fun p=>match p with | .o id _ _=>if id = s.o.length then none else reg p | p=>reg p) (s.o ++ [ob])) (m ++ [⟨w.heap.size,0,sz,lim⟩]) av v) (hl : Light av v) :
  At g ((⟨s.t,s.o ++ [ob]⟩ : St).put d av) (a.put d v) { w with heap:=w.heap.push x }:=by
 have hev : Evol g.w g.X { w with heap:=w.heap.push x }:=h4.trans ((Grow.push w _).evol (fun _ _=>False)) (fun _ _ h=>h.elim)
 have hXn : ∀ b x,XS (m ++ [⟨w.heap.size,0,sz,lim⟩]) (fun p=>match p with | .o id _ _=>if id = s.o.length then none else reg p | p=>reg p) (s.o ++ [ob]) b x → g.X b x ∨ g.w.heap.size ≤ b:=by
  rintro b x (⟨j,ob,mb',g1,g2,g3,g4⟩ | ⟨p,rg,g1,g2⟩)
  ·rw [append_get] at g1 g3
   rw [h1.len] at g3
   split at g1
   ·rename_i ee
    rw [if_pos ee] at g3
    obtain rfl:=Option.some.inj g3
    right;have:=h4.size;simp only at g4;omega
   ·rename_i ee
    rw [if_neg ee] at g3
    exact h2 b x (.inl ⟨j,ob,mb',g1,g2,g3,g4⟩)
  ·refine h2 b x (.inr ⟨p,rg,?_,g2⟩)
   cases p with
   | t k=>exact g1
   | o id r c =>
    simp only at g1
    split at g1
    ·simp at g1
    ·exact g1
 refine At.put (s:=⟨s.t,s.o ++ [ob]⟩) hn hXn ?_ hev h5 h6 hd hv hl
 intro id mb hg
 rw [append_get]
 rw [if_neg (by have:=(List.getElem?_eq_some_iff.1 (h3 id mb hg)).1;omega)]
 exact h3 id mb hg
theorem mkMapS_sound {o : Oper} {t : TypeId} (ho : o.op = .makeMap t none) (h : At g s a w) (hok : (mkMapS g.n o.dst s).1 = true) : Does P g a w o (mkMapS g.n o.dst s).2:=by
 obtain ⟨⟨m,reg,h1,h2,h3⟩,h4,h5,h6⟩:=h
 simp only [mkMapS] at hok ⊢
 have hn:=h1.new (.map #[] 0) (.mapo []) 0 0 trivial (by
  intro w' Y' m' hw' K
  subst hw'
  exact ⟨#[],0,by rw [push_get,if_pos rfl],by simp [MapR],by simp,by simp⟩) (by intro r c sz' rows hl;simp [leaf] at hl)
 refine .inl ⟨.map (some w.heap.size),_,?_,At.new h1 h2 h3 h4 h5 h6 hn hok ?_ (.inl rfl)⟩
 ·unfold execOp
  rw [ho]
  rfl
 ·simp only [V]
  exact ⟨_,by rw [append_get,h1.len,if_pos rfl],rfl⟩
theorem bytes_info {t : TypeId} {i : TypeInfo} (h : P.info? t = some i) : P.bytesOf t = i.bytes:=by simp [Program.bytesOf,h]
theorem zeroAV_info {t : TypeId} {z : AV} (h : zeroAV P t = some z) : ∃ i v,P.info? t = some i ∧ i.zero = some v ∧ z = zOf v:=by
 unfold zeroAV at h
 split at h
 ·rename_i i hi
  cases hz : i.zero with
  | none=>simp [hz] at h
  | some v=>simp only [hz,Option.map_some,Option.some.injEq] at h;exact ⟨i,v,hi,hz,h.symm⟩
 ·cases h
theorem rdc_cells (v : Value) : (rdc v).cellsOf = [rdc v]:=by unfold rdc;split<;>rfl
theorem zOf_cells (v : Value) : (zOf v).cellsOf = v.cells.toList.map rdc:=by
 cases v<;>first | rfl | exact rdc_cells _
theorem zero_cells {t : TypeId} {z : AV} (h : zeroAV P t = some z) : ∃ v,(∀ w : World,(zeroValue t).run P w = .ok v w) ∧ z.cellsOf = v.cells.toList.map rdc ∧ ∀ (w : World) Y m,Vs w Y m z.cellsOf v.cells.toList:=by
 obtain ⟨i,v,hi,hz,rfl⟩:=zeroAV_info h
 refine ⟨v,fun w=>?_,zOf_cells v,fun w Y m=>by rw [zOf_cells v];exact rdcs_V ..⟩
 unfold zeroValue
 rw [srun_bind_ok (run_info hi),hz];rfl
theorem fill_get (zero : Array Value) (n x : Nat) (hz : 0 < zero.size) : ((Array.range n).map (zero[· % zero.size]!))[x]? = if x < n then some (zero[x % zero.size]!) else none:=by
 simp only [Array.getElem?_map]
 by_cases h : x < n
 ·rw [if_pos h,Array.getElem?_range];simp [h]
 ·rw [if_neg h,Array.getElem?_eq_none (by simpa using h)];rfl
theorem run_newRow (w : World) (e : TypeId) (c : Array Value) : (newRow e c).run P w = .ok ⟨w.heap.size,0,none⟩ { w with heap:=w.heap.push (.cells c e (0,0)) }:=rfl
theorem mkSliceS_sound {o : Oper} {t : TypeId} {l c : Operand} (ho : o.op = .makeSlice t l c) (h : At g s a w) (hok : (mkSliceS P g.n o.dst t (opd s.t l) (opd s.t c) s).1 = true) :
  Does P g a w o (mkSliceS P g.n o.dst t (opd s.t l) (opd s.t c) s).2:=by
 obtain ⟨⟨m,reg,h1,h2,h3⟩,h4,h5,h6⟩:=h
 have hvl:=opdV h1 l
 have hvc:=opdV h1 c
 unfold mkSliceS at hok ⊢
 split at hok
 ·rename_i e k x k' y ht hl hc
  rw [hl] at hvl;rw [hc] at hvc
  simp only [V] at hvl hvc
  split at hok
  ·rename_i z hz
   simp only [Bool.and_eq_true,decide_eq_true_eq,beq_iff_eq] at hok
   obtain ⟨⟨⟨⟨⟨⟨⟨q1,q2⟩,q3⟩,q4⟩,q5⟩,q6⟩,q7⟩,q8⟩:=hok
   subst q2
   obtain ⟨n,rfl⟩:=Int.eq_ofNat_of_zero_le q3
   obtain ⟨zv,hz1,hz2,hz3⟩:=zero_cells hz
   obtain ⟨i,v,hi,hiz,_⟩:=zeroAV_info hz
   have hzs : zv.cells.size = szOf P e:=by rw [← q6,hz2];simp
   have hbytes:=bytes_info hi
   have hbn : P.bytesOf e * n ≤ 140737488355328:=by
    have : ((P.bytesOf e * n : Nat) : Int) ≤ 140737488355328:=by rw [Int.natCast_mul];exact q4
    omega
   -- the run
   have hwrap : IntKind.i64.wrap (n : Int) = n:=IntWalk.i64_in _ (by omega)
   have hrun : (execOp a.eval o).run P w = .ok (.value (.slice (some ⟨w.heap.size,0,none⟩) n n)) { w with heap:=w.heap.push (.cells ((Array.range (n * szOf P e)).map (zv.cells[· % zv.cells.size]!)) e (0,0)) }:=by
    unfold execOp
    rw [ho]
    simp only [hvl,hvc]
    have : (Instr.makeSlice t (.int k n) (.int k' n)).run P w = .ok (.slice (some ⟨w.heap.size,0,none⟩) n n) { w with heap:=w.heap.push (.cells ((Array.range (n * szOf P e)).map (zv.cells[· % zv.cells.size]!)) e (0,0)) }:=by
     unfold Instr.makeSlice
     rw [srun_bind_ok (run_und (uk_slice ht))]
     simp only
     rw [srun_bind_ok (x:=(n : Int)) (w':=w) rfl,srun_bind_ok (x:=(n : Int)) (w':=w) rfl,srun_bind_ok (run_info hi)]
     simp only [hwrap]
     have hb : (i.bytes : Int) * n ≤ 140737488355328:=by rw [← hbytes];exact q4
     have hcond : ((decide ((n : Int) < 0) || decide ((i.bytes : Int) * (n : Int) > 2 ^ 48)) || decide ((n : Int) < 0) || decide ((n : Int) > n)) = false:=by
      rw [decide_eq_false (by omega),decide_eq_false (by omega),decide_eq_false (by omega)];rfl
     simp only [hcond,Bool.false_eq_true,if_false]
     have hroom : (askRoom ((n : Int).toNat * i.bytes)).run P w = .ok () w:=by
      unfold askRoom roomBytes
      rw [if_neg]
      ·rfl
      ·have : n * i.bytes ≤ 140737488355328:=by rw [Nat.mul_comm];rw [hbytes] at hbn;exact hbn
       rw [Int.toNat_natCast];omega
     rw [srun_bind_ok hroom,srun_bind_ok (run_size hi)]
     simp only [Int.toNat_natCast]
     by_cases hn0 : n * szOf P e = 0
     ·simp only [hn0,if_true]
      have e0 : ∀ f : Nat → Value,(Array.map f (Array.range 0)) = #[]:=fun f=>by simp
      rw [srun_bind_ok (srun_pure _),e0,e0,srun_bind_ok (run_newRow _ _ _)];rfl
     ·simp only [hn0,if_false]
      rw [srun_bind_ok (hz1 w),srun_bind_ok (srun_pure _),srun_bind_ok (run_newRow _ _ _)];rfl
    rw [srun_bind_ok this];rfl
   have hcell : ∀ x,x < n * szOf P e → ({ w with heap:=w.heap.push (.cells ((Array.range (n * szOf P e)).map (zv.cells[· % zv.cells.size]!)) e (0,0)) } : World).cell? ⟨w.heap.size,x,none⟩ = some (zv.cells[x % zv.cells.size]!):=by
    intro x hx
    rw [cell_cells (by rw [push_get,if_pos rfl]),fill_get _ _ _ (by omega),if_pos hx]
   have hrow : ∀ (r : Nat) row,(List.replicate n z.cellsOf)[r]? = some row → r < n ∧ row = z.cellsOf:=by
    intro r row hr
    rw [List.getElem?_replicate] at hr
    split at hr
    ·exact ⟨‹_›,(Option.some.inj hr).symm⟩
    ·cases hr
   have hidx : ∀ (r c : Nat),r < n → c < szOf P e → r * szOf P e + c < n * szOf P e ∧ (r * szOf P e + c) % zv.cells.size = c:=by
    intro r c hr hc
    have : (r + 1) * szOf P e ≤ n * szOf P e:=Nat.mul_le_mul_right _ hr
    rw [Nat.add_mul] at this
    refine ⟨by omega,?_⟩
    rw [hzs,Nat.mul_comm,Nat.mul_add_mod,Nat.mod_eq_of_lt hc]
   have hn:=h1.new (.cells ((Array.range (n * szOf P e)).map (zv.cells[· % zv.cells.size]!)) e (0,0)) (.cells (szOf P e) (List.replicate n z.cellsOf)) (szOf P e) n trivial (by
    intro w' Y' m' hw' K
    subst hw'
    refine ⟨rfl,⟨_,e,by rw [push_get,if_pos rfl],by simp⟩,?_,?_⟩
    ·intro r row hr
     rw [(hrow r row hr).2,q6]
    ·intro r row c av hr hc
     obtain ⟨hr1,rfl⟩:=hrow r row hr
     have hcl : c < szOf P e:=by rw [← q6];exact (List.getElem?_eq_some_iff.1 hc).1
     obtain ⟨h7,h8⟩:=hidx r c hr1 hcl
     obtain ⟨u,g1,g2⟩:=(Vs.get _ _ (hz3 { w with heap:=w.heap.push (.cells ((Array.range (n * szOf P e)).map (zv.cells[· % zv.cells.size]!)) e (0,0)) } Y' m')).2.1 c av hc
     refine ⟨u,?_,g2⟩
     rw [Nat.zero_add,hcell _ h7,h8]
     rw [Array.getElem?_toList] at g1
     rw [getElem!_def,g1]) (by
    intro r c sz' rows hl
    simp only [leaf,List.getElem?_cons_zero] at hl
    cases hr : (List.replicate n z.cellsOf)[r]? with
    | none=>simp [hr] at hl
    | some row =>
     simp only [hr,Option.bind_some] at hl
     rw [(hrow r row hr).2] at hl
     have:=List.all_eq_true.1 q7 _ (List.mem_of_getElem? hl)
     simp [AV.isOwn] at this)
   refine .inl ⟨_,_,hrun,At.new h1 h2 h3 h4 h5 h6 hn q1 ?_ (.inl rfl)⟩
   simp only [V]
   exact ⟨⟨w.heap.size,0,szOf P e,n⟩,some ⟨w.heap.size,0,none⟩,n,by rw [append_get,h1.len,if_pos rfl],by simp,by simp,by unfold maxLen;omega,.inr (by simp)⟩
  ·simp [SR.no] at hok
 ·simp [SR.no] at hok
end
end Go.AW
namespace Go.AW
open Go
set_option linter.unusedSimpArgs false
set_option linter.unusedVariables false
section
variable {P : Program} {g : G} {s : St} {a : Act} {w : World}
def putAt (cs : Array Value) (off : Nat) (vs : List Value) : Array Value:=(vs.zipIdx).foldl (fun cs (c,j)=>cs.setIfInBounds (off + j) c) cs
theorem putAt_go : ∀ (vs : List Value) (cs : Array Value) (off k : Nat),(vs.zipIdx k).foldl (fun cs (c,j)=>cs.setIfInBounds (off + j) c) cs = (vs.zipIdx 0).foldl (fun cs (c,j)=>cs.setIfInBounds (off + k + j) c) cs
 | [],_,_,_=>rfl
 | v :: vs,cs,off,k=>by
  simp only [List.zipIdx_cons,List.foldl_cons,Nat.zero_add,Nat.add_zero]
  rw [putAt_go vs _ off (k + 1),putAt_go vs _ (off + k) 1]
  rw [show off + (k + 1) = off + k + 1 by omega]
theorem putAt_cons (cs : Array Value) (off : Nat) (v : Value) (vs : List Value) : putAt cs off (v :: vs) = putAt (cs.setIfInBounds off v) (off + 1) vs:=by
 unfold putAt
 simp only [List.zipIdx_cons,List.foldl_cons,Nat.add_zero,Nat.zero_add]
 rw [putAt_go vs _ off 1]
theorem putAt_size : ∀ (vs : List Value) (cs : Array Value) (off : Nat),(putAt cs off vs).size = cs.size
 | [],_,_=>rfl
 | v :: vs,cs,off=>by rw [putAt_cons,putAt_size vs];simp
theorem putAt_get : ∀ (vs : List Value) (cs : Array Value) (off x : Nat),off + vs.length ≤ cs.size → (putAt cs off vs)[x]? = if off ≤ x ∧ x < off + vs.length then vs[x - off]? else cs[x]?
 | [],cs,off,x,_=>by
  rw [if_neg (by simp only [List.length_nil];omega)];rfl
 | v :: vs,cs,off,x,h=>by
  simp only [List.length_cons] at h ⊢
  rw [putAt_cons,putAt_get vs _ _ _ (by simp;omega)]
  by_cases e1 : x = off
  ·subst e1
   rw [if_neg (by omega),if_pos (by omega),Array.getElem?_setIfInBounds]
   simp;omega
  ·by_cases e2 : off + 1 ≤ x ∧ x < off + 1 + vs.length
   ·rw [if_pos e2,if_pos (by omega),show x - off = (x - (off + 1)) + 1 by omega,List.getElem?_cons_succ]
   ·rw [if_neg e2,if_neg (by omega),Array.getElem?_setIfInBounds,if_neg (fun e=>e1 e.symm)]
theorem fill_cons (place : Nat → Option (Nat × Nat)) (cells : Array Value) (i : Nat) (v : Value) (rest : List (Nat × Value)) {off size : Nat} (hp : place i = some (off,size)) (hs : v.cells.size = size) (ho : off + size ≤ cells.size) :
  Instr.fill place cells ((i,v) :: rest) = Instr.fill place (putAt cells off v.cells.toList) rest:=by
 have e : v.cells.zipIdx.foldl (fun cs (c,j)=>cs.setIfInBounds (off + j) c) cells = putAt cells off v.cells.toList:=by
  unfold putAt
  rw [← Array.foldl_toList,Array.toList_zipIdx]
 have hc : (decide (v.cells.size ≠ size) || decide (off + v.cells.size > cells.size)) = false:=by
  rw [decide_eq_false (by simpa using hs),decide_eq_false (by omega)];rfl
 conv=>lhs;unfold Instr.fill
 simp only [hp]
 rw [← e]
 simp only [hc,Bool.false_eq_true,if_false]
theorem part_V {Y : CS} {m : List MB} {p : AV} {v : Value} (h : V w Y m p v) (hp : p.okPart = true) : Vs w Y m p.cellsOf v.cells.toList:=by
 cases p with
 | agg l=>simp only [V] at h;obtain ⟨us,rfl,e2⟩:=h;exact e2
 | any=>cases hp
 | gd b x=>cases hp
 | tup l=>cases hp
 | _ =>
  obtain ⟨_,hcl⟩:=plain_flat h rfl
  rw [hcl]
  simp only [AV.cellsOf,Vs]
  exact ⟨v,[],rfl,h,rfl⟩
theorem fillA_sound {Y : CS} {m : List MB} {place : Nat → Option (Nat × Nat)} : ∀ (parts : List (Nat × AV)) (vparts : List (Nat × Value)) (cells cells' : List AV) (vs : Array Value),
  fillA place cells parts = some cells' → Vs w Y m cells vs.toList → parts.length = vparts.length → (∀ (i : Nat) p v,parts[i]? = some p → vparts[i]? = some v → p.1 = v.1 ∧ V w Y m p.2 v.2) →
  ∃ vs',Instr.fill place vs vparts = some vs' ∧ Vs w Y m cells' vs'.toList
 | [],vparts,cells,cells',vs,h,hv,hl,_=>by
  obtain rfl : vparts = []:=List.eq_nil_of_length_eq_zero hl.symm
  simp only [fillA,Option.some.injEq] at h;subst h
  exact ⟨vs,rfl,hv⟩
 | (i,p) :: parts,[],cells,cells',vs,h,hv,hl,_=>by simp at hl
 | (i,p) :: parts,(j,v) :: vparts,cells,cells',vs,h,hv,hl,hp=>by
  obtain ⟨e1,e2⟩:=hp 0 (i,p) (j,v) rfl rfl
  simp only at e1 e2
  subst e1
  simp only [fillA] at h
  split at h
  ·rename_i off sz hpl
   split at h
   ·rename_i hc
    obtain ⟨c1,c2,c3,c4⟩:=hc
    have hpc : Vs w Y m p.cellsOf v.cells.toList:=part_V e2 c4
    have hlen:=(Vs.get _ _ hpc).1
    have hlen2:=(Vs.get _ _ hv).1
    have hvs : v.cells.size = sz:=by rw [← c1,hlen];simp
    have hoff : off + sz ≤ vs.size:=by rw [hlen2] at c2;simpa using c2
    rw [fill_cons place vs i v vparts hpl hvs hoff]
    refine fillA_sound parts vparts _ cells' _ h ?_ (by simpa using hl) (fun i p v h1 h2=>hp (i + 1) p v h1 h2)
    have key : ∀ (l : List AV) (us : List Value) (row : List AV) (cs : Array Value) (off : Nat),Vs w Y m l us → Vs w Y m row cs.toList → off + l.length ≤ row.length → Vs w Y m (setRow row off l) (putAt cs off us).toList:=by
     intro l
     induction l with
     | nil=>intro us row cs off h1 h2 _;simp only [Vs] at h1;subst h1;exact h2
     | cons a l ih =>
      intro us row cs off h1 h2 h3
      simp only [Vs] at h1
      obtain ⟨u,us',rfl,g1,g2⟩:=h1
      simp only [List.length_cons] at h3
      rw [putAt_cons]
      simp only [setRow]
      refine ih us' _ _ (off + 1) g2 ?_ (by simp;omega)
      have set1 : ∀ (l : List AV) (us : List Value) (k : Nat),Vs w Y m l us → Vs w Y m (l.set k a) (us.set k u):=by
       intro l
       induction l with
       | nil=>intro us k h;simp only [Vs] at h;subst h;simp [Vs]
       | cons b l ih =>
        intro us k h
        simp only [Vs] at h
        obtain ⟨x,t,rfl,q1,q2⟩:=h
        cases k with
        | zero=>simp only [List.set_cons_zero,Vs];exact ⟨u,t,rfl,g1,q2⟩
        | succ k=>simp only [List.set_cons_succ,Vs];exact ⟨x,_,rfl,q1,ih t k q2⟩
      rw [Array.toList_setIfInBounds]
      exact set1 row cs.toList off h2
    exact key _ _ _ _ _ hpc hv (by rw [c1];exact c2)
   ·cases h
  ·cases h
theorem run_mapM_places {fs : Array Field} : (∀ f ∈ fs.toList,∃ i,P.info? f.type = some i) → (fs.mapM fun f=>do pure (f.offset,← sizeOf f.type) : Sem (Array (Nat × Nat))).run P w = .ok (fs.map fun f=>(f.offset,szOf P f.type)) w:=by
 intro h
 have key : ∀ (l : List Field),(∀ f ∈ l,∃ i,P.info? f.type = some i) → (l.mapM fun f=>do pure (f.offset,← sizeOf f.type) : Sem (List (Nat × Nat))).run P w = .ok (l.map fun f=>(f.offset,szOf P f.type)) w:=by
  intro l
  induction l with
  | nil=>intro _;rfl
  | cons f l ih =>
   intro hl
   obtain ⟨i,hi⟩:=hl f List.mem_cons_self
   rw [List.mapM_cons,srun_bind_ok (by rw [srun_bind_ok (run_size hi)];rfl),srun_bind_ok (ih fun f hf=>hl f (List.mem_cons_of_mem _ hf))]
   rfl
 rw [Array.mapM_eq_mapM_toList]
 show Sem.run P (List.toArray <$> _) w = _
 have hmap : ∀ {α β : Type} (f : α → β) (x : Sem α),f <$> x = x >>= fun y=>pure (f y):=by
  intro α β f x
  rfl
 rw [hmap,srun_bind_ok (key fs.toList h)]
 rw [srun_pure]
 congr 1
 apply Array.ext'
 simp
theorem parts_get {cv : Operand → Value} {av : Operand → AV} (l : List (Nat × Operand)) : (l.map fun p=>(p.1,(av p.2).dat)).length = (l.map fun (i,x)=>(i,cv x)).length:=by simp
theorem buildR_sound {o : Oper} {t : TypeId} {parts : Array (Nat × Operand)} (ho : o.op = .build t parts) (h : At g s a w)
  (hok : (putS g.n o.dst (buildR P t (parts.toList.map fun p=>(p.1,(ung true (opd s.t p.2)).dat))) s).1 = true) :
  Does P g a w o (putS g.n o.dst (buildR P t (parts.toList.map fun p=>(p.1,(ung true (opd s.t p.2)).dat))) s).2:=by
 refine putS_sound rfl h hok fun m reg h1 hr=>?_
 unfold buildR at hr ⊢
 split at hr
 ·rename_i z hz
  split at hr
  ·rename_i cells hf
   simp only at hr ⊢
   obtain ⟨zv,hz1,hz2,hz3⟩:=zero_cells hz
   have hpl : ∀ (i : Nat) (p : Nat × AV) (v : Nat × Value),(parts.toList.map fun p=>(p.1,(ung true (opd s.t p.2)).dat))[i]? = some p → (parts.toList.map fun (i,x)=>(i,a.eval x))[i]? = some v →
     p.1 = v.1 ∧ V w (YS g.Z m reg s.o) m p.2 v.2:=by
    intro i p v hp hv
    simp only [List.getElem?_map] at hp hv
    cases hq : parts.toList[i]? with
    | none=>simp [hq] at hp
    | some q =>
     simp only [hq,Option.map_some,Option.some.injEq] at hp hv
     subst hp hv
     exact ⟨rfl,V.dat _ _ (ung_V rfl (opdV h1 q.2))⟩
   obtain ⟨vs',hfill,hvs'⟩:=fillA_sound (w:=w) (Y:=YS g.Z m reg s.o) (m:=m) _ (parts.toList.map fun (i,x)=>(i,a.eval x)) _ _ zv.cells hf (hz3 w _ m) (by simp) hpl
   refine ⟨.agg vs',?_,by simp only [V];exact ⟨vs',rfl,hvs'⟩,.inl rfl⟩
   have hrun : (Instr.build t (parts.map fun (i,x)=>(i,a.eval x))).run P w = .ok (.agg vs') w:=by
    unfold Instr.build
    rw [srun_bind_ok (hz1 w)]
    unfold structOk at hr
    split at hr
    ·rename_i fs hu
     rw [srun_bind_ok (run_und hu)]
     simp only
     have hall : ∀ f ∈ fs.toList,∃ i,P.info? f.type = some i:=by
      intro f hf
      have:=List.all_eq_true.1 hr f hf
      exact Option.isSome_iff_exists.1 this
     rw [srun_bind_ok (run_mapM_places hall)]
     have hplace : (fun i=>(fs.map fun f=>(f.offset,szOf P f.type))[i]?) = placeOf P t:=by
      funext i
      have hk : ukOf P t = .struct:=by unfold ukOf;rw [hu]
      unfold placeOf fldOf
      rw [hk,hu]
      simp only [Array.getElem?_map]
      cases fs[i]?<;>rfl
     simp only [hplace,Array.toList_map,hfill]
     rfl
    ·rename_i n e hu
     rw [srun_bind_ok (run_und hu)]
     simp only
     obtain ⟨i,hi⟩:=Option.isSome_iff_exists.1 hr
     rw [srun_bind_ok (run_size hi)]
     have hplace : (fun i=>some (i * szOf P e,szOf P e)) = placeOf P t:=by
      funext i
      have hk : ukOf P t = .arr n e:=by unfold ukOf;rw [hu]
      unfold placeOf
      rw [hk]
     simp only [hplace,Array.toList_map,hfill]
     rfl
    ·cases hr
   unfold execOp
   rw [ho]
   simp only
   rw [srun_bind_ok hrun];rfl
  ·simp [R1.no] at hr
 ·simp [R1.no] at hr
theorem partRows_spec {dat : Bool} {sz : Nat} : ∀ (parts : List (Nat × AV)) (i : Nat) (rows : List (List AV)),partRows dat sz i parts = some rows → rows.length = parts.length ∧
  ∀ (j : Nat) p,parts[j]? = some p → p.1 = i + j ∧ rows[j]? = some p.2.cellsOf ∧ p.2.cellsOf.length = sz ∧ (p.2.cellsOf.all fun c=>!c.isOwn && (!dat || c.ltk 0) && c.plain) = true ∧ p.2.okPart = true
 | [],i,rows,h=>by simp only [partRows,Option.some.injEq] at h;subst h;simp
 | (k,a) :: r,i,rows,h=>by
  simp only [partRows] at h
  split at h
  ·rename_i hc
   cases hr : partRows dat sz (i + 1) r with
   | none=>simp [hr] at h
   | some rows' =>
    simp only [hr,Option.map_some,Option.some.injEq] at h
    subst h
    obtain ⟨h1,h2⟩:=partRows_spec r (i + 1) rows' hr
    refine ⟨by simp [h1],fun j p hj=>?_⟩
    cases j with
    | zero=>simp only [List.getElem?_cons_zero,Option.some.injEq] at hj;subst hj;exact ⟨hc.1,rfl,hc.2.1,hc.2.2.1,hc.2.2.2⟩
    | succ j =>
     obtain ⟨g1,g2⟩:=h2 j p (by simpa using hj)
     exact ⟨by omega,by simpa using g2⟩
  ·cases h
theorem fill_rows {dat : Bool} {Y : CS} {m : List MB} {sz len : Nat} : ∀ (parts : List (Nat × AV)) (vparts : List (Nat × Value)) (i : Nat) (rows : List (List AV)) (c : Array Value),partRows dat sz i parts = some rows → parts.length = vparts.length →
  (∀ (j : Nat) p v,parts[j]? = some p → vparts[j]? = some v → p.1 = v.1 ∧ V w Y m p.2 v.2) → i + parts.length = len → c.size = len * sz →
  ∃ c',Instr.fill (fun i=>some (i * sz,sz)) c vparts = some c' ∧ c'.size = c.size ∧ (∀ x,x < i * sz → c'[x]? = c[x]?) ∧
   ∀ (r : Nat) row (k : Nat) av,rows[r]? = some row → row[k]? = some av → ∃ v,c'[(i + r) * sz + k]? = some v ∧ V w Y m av v
 | [],vparts,i,rows,c,h,hl,_,_,_=>by
  obtain rfl : vparts = []:=List.eq_nil_of_length_eq_zero hl.symm
  simp only [partRows,Option.some.injEq] at h;subst h
  exact ⟨c,rfl,rfl,fun _ _=>rfl,by simp⟩
 | (k,p) :: parts,[],i,rows,c,h,hl,_,_,_=>by simp at hl
 | (k,p) :: parts,(k',v) :: vparts,i,rows,c,h,hl,hp,hlen,hc=>by
  obtain ⟨e1,e2⟩:=hp 0 _ _ rfl rfl
  simp only at e1 e2
  subst e1
  simp only [partRows] at h
  split at h
  ·rename_i hcnd
   obtain ⟨rfl,c2,c3,c4⟩:=hcnd
   cases hr : partRows dat sz (k + 1) parts with
   | none=>simp [hr] at h
   | some rows' =>
    simp only [hr,Option.map_some,Option.some.injEq] at h
    subst h
    have hpc:=part_V e2 c4
    have hvl : v.cells.size = sz:=by rw [← c2,(Vs.get _ _ hpc).1];simp
    simp only [List.length_cons] at hlen hl
    have hfit : k * sz + sz ≤ c.size:=by
     rw [hc]
     have : (k + 1) * sz ≤ len * sz:=Nat.mul_le_mul_right _ (by omega)
     rw [Nat.add_mul] at this;omega
    rw [fill_cons _ c k v vparts rfl hvl hfit]
    obtain ⟨c',g1,g2,g3,g4⟩:=fill_rows (len:=len) parts vparts (k + 1) rows' (putAt c (k * sz) v.cells.toList) hr (by omega) (fun j p v h1 h2=>hp (j + 1) p v h1 h2) (by omega) (by rw [putAt_size,hc])
    rw [putAt_size] at g2
    have hput:=fun x=>putAt_get v.cells.toList c (k * sz) x (by simpa [hvl] using hfit)
    refine ⟨c',g1,g2,fun x hx=>?_,fun r row q av hr hq=>?_⟩
    ·rw [g3 x (by rw [Nat.add_mul];omega),hput,if_neg (by omega)]
    ·cases r with
     | zero =>
      simp only [List.getElem?_cons_zero,Option.some.injEq] at hr
      subst hr
      have hql : q < sz:=by rw [← c2];exact (List.getElem?_eq_some_iff.1 hq).1
      obtain ⟨u,q1,q2⟩:=(Vs.get _ _ hpc).2.1 q av hq
      refine ⟨u,?_,q2⟩
      rw [Nat.add_zero,g3 _ (by rw [Nat.add_mul];omega),hput,if_pos (by simp [hvl];omega),show k * sz + q - k * sz = q by omega]
      exact q1
     | succ r =>
      obtain ⟨u,q1,q2⟩:=g4 r row q av (by simpa using hr) hq
      exact ⟨u,by rwa [show k + (r + 1) = k + 1 + r by omega],q2⟩
  ·cases h
end
end Go.AW
namespace Go.AW
open Go
set_option linter.unusedSimpArgs false
set_option linter.unusedVariables false
section
variable {P : Program} {g : G} {s : St} {a : Act} {w : World}
theorem bslR_sound {o : Oper} {t : TypeId} {len : Nat} {parts : Array (Nat × Operand)} (ho : o.op = .buildSlice t len parts) (h : At g s a w)
  (hok : (putS g.n o.dst (bslR P t len (parts.toList.map fun p=>(p.1,(ung true (opd s.t p.2)).dat))) s).1 = true) :
  Does P g a w o (putS g.n o.dst (bslR P t len (parts.toList.map fun p=>(p.1,(ung true (opd s.t p.2)).dat))) s).2:=by
 simp only [putS,Bool.and_eq_true] at hok
 obtain ⟨hr,hd⟩:=hok
 obtain ⟨⟨m,reg,h1,h2,h3⟩,h4,h5,h6⟩:=h
 simp only [putS]
 unfold bslR at hr ⊢
 split at hr
 ·rename_i e ht
  split at hr
  ·rename_i rows hrows
   simp only [Bool.and_eq_true,beq_iff_eq,decide_eq_true_eq] at hr
   obtain ⟨⟨⟨q1,q2⟩,q3⟩,q4⟩:=hr
   simp only at hd ⊢
   obtain ⟨z,hz⟩:=Option.isSome_iff_exists.1 q4
   obtain ⟨zv,hz1,hz2,hz3⟩:=zero_cells hz
   obtain ⟨i,zv',hi,hiz,_⟩:=zeroAV_info hz
   obtain ⟨hpl,hspec⟩:=partRows_spec _ _ _ hrows
   simp only [List.length_map,Array.length_toList] at hpl
   have hpv : ∀ (j : Nat) (p : Nat × AV) (v : Nat × Value),(parts.toList.map fun p=>(p.1,(ung true (opd s.t p.2)).dat))[j]? = some p → (parts.toList.map fun (i,x)=>(i,a.eval x))[j]? = some v →
     p.1 = v.1 ∧ V w (YS g.Z m reg s.o) m p.2 v.2:=by
    intro i p v hp hv
    simp only [List.getElem?_map] at hp hv
    cases hq : parts.toList[i]? with
    | none=>simp [hq] at hp
    | some q =>
     simp only [hq,Option.map_some,Option.some.injEq] at hp hv
     subst hp hv
     exact ⟨rfl,V.dat _ _ (ung_V rfl (opdV h1 q.2))⟩
   have hzeros : ∀ (zc : Array Value),((Array.range (len * szOf P e)).map (zc[· % zc.size]!)).size = len * szOf P e:=by intro zc;simp
   have hrun : ∃ c' : Array Value,(Instr.buildSlice t len (parts.map fun (i,x)=>(i,a.eval x))).run P w = .ok (.slice (some ⟨w.heap.size,0,none⟩) len len) { w with heap:=w.heap.push (.cells c' e (0,0)) } ∧ c'.size = len * szOf P e ∧
     ∀ (r : Nat) row (k : Nat) av,rows[r]? = some row → row[k]? = some av → ∃ v,c'[r * szOf P e + k]? = some v ∧ V w (YS g.Z m reg s.o) m av v:=by
    have hfill : ∀ zc : Array Value,∃ c',Instr.fill (fun i=>some (i * szOf P e,szOf P e)) ((Array.range (len * szOf P e)).map (zc[· % zc.size]!)) (parts.toList.map fun (i,x)=>(i,a.eval x)) = some c' ∧ c'.size = len * szOf P e ∧
      ∀ (r : Nat) row (k : Nat) av,rows[r]? = some row → row[k]? = some av → ∃ v,c'[r * szOf P e + k]? = some v ∧ V w (YS g.Z m reg s.o) m av v:=by
     intro zc
     obtain ⟨c',g1,g2,_,g4⟩:=fill_rows (w:=w) (Y:=YS g.Z m reg s.o) (m:=m) (len:=len) _ (parts.toList.map fun (i,x)=>(i,a.eval x)) 0 rows ((Array.range (len * szOf P e)).map (zc[· % zc.size]!)) hrows (by simp) hpv (by simp;omega) (hzeros zc)
     refine ⟨c',g1,by rw [g2,hzeros],fun r row k av hr hk=>?_⟩
     have:=g4 r row k av hr hk
     simpa using this
    unfold Instr.buildSlice
    rw [srun_bind_ok (run_und (uk_slice ht))]
    simp only
    rw [srun_bind_ok (run_size hi)]
    have hlim : ¬ len * szOf P e > 2 ^ 24:=by omega
    simp only [hlim,if_false]
    by_cases hn0 : len * szOf P e = 0
    ·obtain ⟨c',g1,g2,g3⟩:=hfill #[]
     refine ⟨c',?_,g2,g3⟩
     simp only [hn0,if_true] at g1 ⊢
     rw [srun_bind_ok (srun_pure _)]
     simp only [Array.toList_map,g1]
     rw [srun_bind_ok (run_newRow _ _ _)];rfl
    ·obtain ⟨c',g1,g2,g3⟩:=hfill zv.cells
     refine ⟨c',?_,g2,g3⟩
     simp only [hn0,if_false]
     rw [srun_bind_ok (hz1 w),srun_bind_ok (srun_pure _)]
     simp only [Array.toList_map,g1]
     rw [srun_bind_ok (run_newRow _ _ _)];rfl
   obtain ⟨c',hrun,hcs,hcells⟩:=hrun
   have hG : Grow w { w with heap:=w.heap.push (.cells c' e (0,0)) }:=Grow.push w _
   have hev : Evol g.w g.X { w with heap:=w.heap.push (.cells c' e (0,0)) }:=h4.trans (hG.evol (fun _ _=>False)) (fun _ _ h=>h.elim)
   by_cases hl0 : len = 0
   ·rw [if_pos hl0]
    refine .inl ⟨_,_,by unfold execOp;rw [ho];simp only;rw [srun_bind_ok hrun];rfl,At.put (h1.grow hG) h2 h3 hev h5 h6 hd ?_ (.inl rfl)⟩
    simp only [V]
    exact ⟨_,by rw [hl0]⟩
   rw [if_neg hl0]
   refine .inl ⟨_,_,by unfold execOp;rw [ho];simp only;rw [srun_bind_ok hrun];rfl,At.put (h1.grow hG) h2 h3 hev h5 h6 hd ?_ (.inr ⟨_,rows,some ⟨w.heap.size,0,none⟩,rfl,by rw [q1]⟩)⟩
   simp only [V]
   refine ⟨some ⟨w.heap.size,0,none⟩,len,by rw [q1],by omega,by unfold maxLen;have : len ≤ len * szOf P e:=Nat.le_mul_of_pos_right _ q3;omega,?_⟩
   right
   refine ⟨w.heap.size,0,rfl,Rs.mk rows _ _ (fun r row hr=>?_) (fun r row k av hr hk=>?_)⟩
   ·have : r < parts.size:=by rw [← hpl];exact (List.getElem?_eq_some_iff.1 hr).1
    obtain ⟨_,g2,g3,_⟩:=hspec r _ (by rw [List.getElem?_map,Array.getElem?_toList,Array.getElem?_eq_getElem this];rfl)
    rw [hr] at g2
    rw [Option.some.inj g2];exact g3
   ·have hlt : r < parts.size:=by rw [← hpl];exact (List.getElem?_eq_some_iff.1 hr).1
    obtain ⟨_,g2,g3,g4,_⟩:=hspec r _ (by rw [List.getElem?_map,Array.getElem?_toList,Array.getElem?_eq_getElem hlt];rfl)
    rw [hr] at g2
    obtain ⟨v,e1,e2⟩:=hcells r row k av hr hk
    have hb : av.ltk 0 = true ∧ av.plain = true:=by
     rw [← Option.some.inj g2] at g4
     have:=List.all_eq_true.1 g4 av (List.mem_of_getElem? hk)
     simp only [Bool.and_eq_true,Bool.not_true,Bool.false_or] at this
     exact ⟨this.1.2,this.2⟩
    refine ⟨v,?_,?_,(plain_flat e2 hb.2).1,V.bare hb.1 (V.keep ⟨fun b x v hc hy=>⟨hG.cell hc,hy⟩,fun _ _ h=>h⟩ _ _ e2)⟩
    ·rw [cell_cells (by rw [push_get,if_pos rfl]),Nat.zero_add];exact e1
    ·rintro (k' | k')
     ·have:=h1.xlt k';omega
     ·have:=h1.zs _ _ k';omega
  ·simp [R1.no] at hr
 ·simp [R1.no] at hr
theorem rowsOf_cells {Y : CS} {m : List MB} {sz : Nat} {x : AV} {v : Value} {nr : List (List AV)} (hx : rowsOf sz x = some nr) (hv : V w Y m x v) :
  ∃ ad cap,v = .slice ad nr.length cap ∧ nr.length ≤ maxLen ∧ (nr = [] ∨ ∃ blk off,ad = some ⟨blk,off,none⟩ ∧ Rs w Y sz blk off nr):=by
 unfold rowsOf at hx
 split at hx
 ·split at hx
  ·rename_i hc
   obtain rfl:=Option.some.inj hx
   simp only [V] at hv
   obtain ⟨ad,cap,rfl,h1,h2,h3⟩:=hv
   refine ⟨ad,cap,rfl,Nat.le_trans h1 h2,?_⟩
   rcases hc with rfl | rfl
   ·exact h3
   ·exact .inl rfl
  ·cases hx
 ·split at hx
  ·rename_i hc
   obtain rfl:=Option.some.inj hx
   simp only [V] at hv
   obtain ⟨ad,cap,rfl,h1,h2,h3⟩:=hv
   refine ⟨ad,cap,rfl,Nat.le_trans h1 h2,?_⟩
   rcases hc with rfl | rfl
   ·exact h3
   ·exact .inl rfl
  ·cases hx
 ·obtain rfl:=Option.some.inj hx
  simp only [V] at hv
  subst hv
  exact ⟨none,0,rfl,Nat.zero_le _,.inl rfl⟩
 ·obtain rfl:=Option.some.inj hx
  simp only [V] at hv
  obtain ⟨ad,rfl⟩:=hv
  exact ⟨some ad,0,rfl,Nat.zero_le _,.inl rfl⟩
 ·cases hx
theorem run_firstCells {Y : CS} {sz : Nat} {nr : List (List AV)} {ad : Option Addr} {cap : Nat} (h : nr = [] ∨ ∃ blk off,ad = some ⟨blk,off,none⟩ ∧ Rs w Y sz blk off nr) :
  ∃ vs : List Value,(Builtin.firstCells sz nr.length (.slice ad nr.length cap)).run P w = .ok vs.toArray w ∧ vs.length = nr.length * sz ∧
   ∀ (r : Nat) row (c : Nat) av,nr[r]? = some row → row[c]? = some av → ∃ v,vs[r * sz + c]? = some v ∧ Value.flat v = true ∧ V w Y [] av v:=by
 unfold Builtin.firstCells
 rcases h with rfl | ⟨blk,off,rfl,h⟩
 ·refine ⟨[],?_,by simp,by simp⟩
  cases ad with
  | none=>rfl
  | some ad=>simp [loadCells,loadCellsFrom,srun_pure]
 ·have key : ∀ (nr : List (List AV)) (off : Nat),Rs w Y sz blk off nr → ∃ l : List AV,l.length = nr.length * sz ∧ (∀ (c : Nat) av,l[c]? = some av → ∃ v,w.cell? ⟨blk,off + c,none⟩ = some v ∧ Value.flat v = true ∧ V w Y [] av v) ∧
    ∀ (r : Nat) row (c : Nat) av,nr[r]? = some row → row[c]? = some av → l[r * sz + c]? = some av:=by
   intro nr
   induction nr with
   | nil=>intro off _;exact ⟨[],by simp,by simp,by simp⟩
   | cons row nr ih =>
    intro off h
    simp only [Rs] at h
    obtain ⟨h1,h2,h3⟩:=h
    obtain ⟨l,g1,g2,g3⟩:=ih (off + sz) h3
    refine ⟨row ++ l,by simp [h1,g1,Nat.add_mul];omega,fun c av hc=>?_,fun r row' c av hr hc=>?_⟩
    ·rw [List.getElem?_append] at hc
     split at hc
     ·obtain ⟨v,q1,_,q2⟩:=h2.get c av hc
      exact ⟨v,q1,q2⟩
     ·rename_i hge
      obtain ⟨v,q1,q2⟩:=g2 _ av hc
      exact ⟨v,by rwa [h1,show off + sz + (c - sz) = off + c by omega] at q1,q2⟩
    ·cases r with
     | zero =>
      simp only [List.getElem?_cons_zero,Option.some.injEq] at hr;subst hr
      rw [Nat.zero_mul,Nat.zero_add,List.getElem?_append_left (List.getElem?_eq_some_iff.1 hc).1]
      exact hc
     | succ r =>
      rw [List.getElem?_append_right (by rw [h1,Nat.add_mul];omega),h1,show (r + 1) * sz + c - sz = r * sz + c by rw [Nat.add_mul];omega]
      exact g3 r row' c av (by simpa using hr) hc
  obtain ⟨l,g1,g2,g3⟩:=key nr off h
  have hch : ∃ f : Nat → Value,∀ (c : Nat) av,l[c]? = some av → w.cell? ⟨blk,off + c,none⟩ = some (f c) ∧ Value.flat (f c) = true ∧ V w Y [] av (f c):=by
   refine ⟨fun c=>(w.cell? ⟨blk,off + c,none⟩).getD undef,fun c av hc=>?_⟩
   obtain ⟨v,q1,q2,q3⟩:=g2 c av hc
   simp only [q1,Option.getD_some]
   exact ⟨trivial,q2,q3⟩
  obtain ⟨f,hf⟩:=hch
  have hrun : ∀ (n i : Nat) (acc : Array Value),(∀ c,i ≤ c → c < i + n → w.cell? ⟨blk,off + c,none⟩ = some (f c)) → (loadCellsFrom ⟨blk,off,none⟩ i n acc).run P w = .ok (acc ++ ((List.range' i n).map f).toArray) w:=by
   intro n
   induction n with
   | zero=>intro i acc _;simp [loadCellsFrom,srun_pure]
   | succ n ih =>
    intro i acc hh
    unfold loadCellsFrom
    rw [srun_bind_ok (run_load (by rw [addr_add];exact hh i (Nat.le_refl _) (by omega))),ih (i + 1) _ (fun c h1 h2=>hh c (by omega) (by omega))]
    simp [List.range'_succ]
  have hget : ∀ c,c < nr.length * sz → ∃ av,l[c]? = some av:=fun c hc=>⟨_,List.getElem?_eq_getElem (by omega)⟩
  refine ⟨(List.range' 0 (nr.length * sz)).map f,?_,by simp,fun r row c av hr hc=>?_⟩
  ·unfold loadCells
   rw [hrun _ 0 #[] (fun c _ hc=>by obtain ⟨av,h9⟩:=hget c (by omega);exact (hf c av h9).1)]
   simp
  ·have hl:=g3 r row c av hr hc
   have hlt:=(List.getElem?_eq_some_iff.1 hl).1
   refine ⟨f (r * sz + c),?_,(hf _ av hl).2⟩
   rw [List.getElem?_map,List.getElem?_range' (by omega)]
   simp
end
end Go.AW
