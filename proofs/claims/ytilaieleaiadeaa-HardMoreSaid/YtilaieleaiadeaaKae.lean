/-
AW, part Zl: two objects change numbers.
-/
import Derived.Test.YtilaieleaiadeaaKad
import Derived.Test.YtilaieleaiadeaaProg
import Derived.KernelRfl
namespace Go.AW
open Go
set_option linter.unusedSimpArgs false
set_option linter.unusedVariables false
def sw (i j : Nat) : Nat → Nat := fun k => if k = i then j else if k = j then i else k
theorem sw_sw (i j k : Nat) : sw i j (sw i j k) = k := by
 unfold sw
 by_cases h1 : k = i
 ·subst h1
  by_cases h2 : j = k
  ·simp [h2]
  ·simp [h2]
 ·by_cases h2 : k = j
  ·subst h2; simp [h1]
  ·simp [h1, h2]
theorem sw_lt {i j n k : Nat} (hi : i < n) (hj : j < n) (hk : k < n) : sw i j k < n := by
 unfold sw
 split
 ·exact hj
 ·split
  ·exact hi
  ·exact hk
def swO (i j : Nat) (o : List Ob) : List Ob := (List.range o.length).map fun k => (o.getD (sw i j k) .dead).ren (sw i j)
def swM (i j : Nat) (m : List MB) : List MB := (List.range m.length).map fun k => m.getD (sw i j k) ⟨0, 0, 0, 0⟩
def regSw (reg : Pl → Option Reg) (i j n : Nat) : Pl → Option Reg
 | .o k r c => if k < n then reg (.o (sw i j k) r c) else none
 | .t k => reg (.t k)
def swS (i j : Nat) (s : St) : St := ⟨fun k => (s.t k).ren (sw i j), swO i j s.o⟩
section
variable {w : World} {Z : CS} {m : List MB} {reg : Pl → Option Reg} {t : Nat → AV} {u : Nat → Value} {o : List Ob} {i j : Nat}
theorem swM_get (hi : i < m.length) (hj : j < m.length) (k : Nat) : (swM i j m)[k]? = if k < m.length then m[sw i j k]? else none := by
 unfold swM
 rw [List.getElem?_map]
 by_cases hk : k < m.length
 ·rw [List.getElem?_range hk, if_pos hk]
  have := sw_lt hi hj hk
  simp [List.getD_eq_getElem?_getD, List.getElem?_eq_getElem this]
 ·rw [if_neg hk, List.getElem?_eq_none (by simpa using hk)]; rfl
theorem swO_get (hi : i < o.length) (hj : j < o.length) (k : Nat) : (swO i j o)[k]? = if k < o.length then (o[sw i j k]?).map (Ob.ren (sw i j)) else none := by
 unfold swO
 rw [List.getElem?_map]
 by_cases hk : k < o.length
 ·rw [List.getElem?_range hk, if_pos hk]
  have := sw_lt hi hj hk
  simp [List.getD_eq_getElem?_getD, List.getElem?_eq_getElem this]
 ·rw [if_neg hk, List.getElem?_eq_none (by simpa using hk)]; rfl
theorem Rel.swap (h : Rel w Z m reg t u o) (hi : i < o.length) (hj : j < o.length) :
  Rel w Z (swM i j m) (regSw reg i j o.length) (fun k => (t k).ren (sw i j)) u (swO i j o) ∧
  (∀ b x, XS (swM i j m) (regSw reg i j o.length) (swO i j o) b x → XS m reg o b x) := by
 have hl := h.len
 have hi' : i < m.length := by omega
 have hj' : j < m.length := by omega
 have mg : ∀ {k : Nat} {x : MB}, (swM i j m)[k]? = some x → k < o.length ∧ m[sw i j k]? = some x := by
  intro k x hk
  rw [swM_get hi' hj'] at hk
  split at hk
  ·exact ⟨by omega, hk⟩
  ·cases hk
 have og : ∀ {k : Nat} {x : Ob}, (swO i j o)[k]? = some x → k < o.length ∧ ∃ y, o[sw i j k]? = some y ∧ x = y.ren (sw i j) := by
  intro k x hk
  rw [swO_get hi hj] at hk
  split at hk
  ·rename_i hlt
   cases hq : o[sw i j k]? with
   | none => rw [hq] at hk; cases hk
   | some y => rw [hq] at hk; exact ⟨hlt, y, rfl, (Option.some.inj hk).symm⟩
  ·cases hk
 have fwd : ∀ (id : Nat) mb, m[id]? = some mb → (swM i j m)[sw i j id]? = some mb := by
  intro id mb hm
  have hlt : id < m.length := (List.getElem?_eq_some_iff.1 hm).1
  rw [swM_get hi' hj', if_pos (sw_lt hi' hj' hlt), sw_sw]; exact hm
 have hreg : ∀ p r, regSw reg i j o.length p = some r → ∃ q, reg q = some r ∧ (∀ k, p = .t k → q = .t k) ∧ ∀ k a c, p = .o k a c → q = .o (sw i j k) a c := by
  intro p r hp
  cases p with
  | t k => exact ⟨.t k, hp, fun _ h => h, fun _ _ _ h => (by cases h)⟩
  | o k a c =>
   simp only [regSw] at hp
   split at hp
   ·exact ⟨_, hp, fun _ h => (by cases h), fun _ _ _ h => (by cases h; rfl)⟩
   ·cases hp
 have hX : ∀ b x, XS (swM i j m) (regSw reg i j o.length) (swO i j o) b x → XS m reg o b x := by
  rintro b x (⟨k, ob, mb, h1, h2, h3, h4⟩ | ⟨p, r, h1, h2⟩)
  ·obtain ⟨_, y, g1, rfl⟩ := og h1
   exact .inl ⟨_, y, mb, g1, (Ob.ren_live _ _).1 h2, (mg h3).2, h4⟩
  ·obtain ⟨q, hq, _⟩ := hreg p r h1
   exact .inr ⟨q, r, hq, h2⟩
 have K0 : Keeps w (YS Z m reg o) m w (YS Z (swM i j m) (regSw reg i j o.length) (swO i j o)) m :=
  Keeps.sub m fun b y k => k.imp (hX b y) (fun h => h)
 refine ⟨?_, hX⟩
 refine ⟨by simp [swM, swO, hl], fun k => V.ren fwd _ _ (V.keep K0 _ _ (h.tv k)), ?_, ?_, ?_, ?_, ?_, ?_, fun b y hz hy => h.zx b y hz (hX b y hy), h.zs⟩
 ·intro k ob mb ho hm
  obtain ⟨_, y, g1, rfl⟩ := og ho
  exact ObR.ren fwd y (Ob.keep K0 y (fun _ => rfl) (h.ob _ y mb g1 (mg hm).2))
 ·intro a b x y ma mb ha hb lx ly hma hmb e
  obtain ⟨_, x', g1, rfl⟩ := og ha
  obtain ⟨_, y', g2, rfl⟩ := og hb
  have := h.inj _ _ x' y' ma mb g1 g2 ((Ob.ren_live _ _).1 lx) ((Ob.ren_live _ _).1 ly) (mg hma).2 (mg hmb).2 e
  rw [← sw_sw i j a, this, sw_sw]
 ·intro p r hp
  obtain ⟨q, hq, _⟩ := hreg p r hp
  exact h.rok q r hq
 ·intro p r id x mb hp ho hl hm
  obtain ⟨q, hq, _⟩ := hreg p r hp
  obtain ⟨_, y, g1, rfl⟩ := og ho
  exact h.rob q r _ y mb hq g1 ((Ob.ren_live _ _).1 hl) (mg hm).2
 ·intro p q r s hpq hp hq
  obtain ⟨p', hp', t1, o1⟩ := hreg p r hp
  obtain ⟨q', hq', t2, o2⟩ := hreg q s hq
  refine h.rdj p' q' r s (fun e => hpq ?_) hp' hq'
  cases p with
  | t k =>
   have e1 := t1 k rfl
   cases q with
   | t k' => have e2 := t2 k' rfl; rw [e1, e2] at e; rw [e]
   | o k' a c => have e2 := o2 k' a c rfl; rw [e1, e2] at e; cases e
  | o k a c =>
   have e1 := o1 k a c rfl
   cases q with
   | t k' => have e2 := t2 k' rfl; rw [e1, e2] at e; cases e
   | o k' a' c' =>
    have e2 := o2 k' a' c' rfl
    rw [e1, e2] at e
    obtain ⟨h1, rfl, rfl⟩ := Pl.o.inj e
    rw [← sw_sw i j k, h1, sw_sw]
 ·intro p sz rows v hlf hv
  cases p with
  | t k =>
   simp only [leaf, Option.some.injEq] at hlf
   exact h.own (.t k) sz rows v (by rw [leaf, ren_own hlf]) hv
  | o k a c =>
   simp only [leaf] at hlf
   by_cases hk : k < o.length
   ·rw [swO_get hi hj, if_pos hk] at hlf
    simp only [regSw, hk, if_true]
    refine h.own (.o (sw i j k) a c) sz rows v ?_ ?_
    ·simp only [leaf]
     cases hq : o[sw i j k]? with
     | none => rw [hq] at hlf; simp at hlf
     | some y =>
      rw [hq] at hlf
      cases y with
      | cells sz' rows' =>
       simp only [Option.map_some, Ob.ren, List.getElem?_map] at hlf ⊢
       cases hr : rows'[a]? with
       | none => rw [hr] at hlf; simp at hlf
       | some row =>
        rw [hr] at hlf
        simp only [Option.map_some, Option.bind_some, List.getElem?_map] at hlf ⊢
        cases hc : row[c]? with
        | none => rw [hc] at hlf; simp at hlf
        | some av => rw [hc] at hlf; simp only [Option.map_some, Option.some.injEq] at hlf; rw [ren_own hlf]
      | _ => simp [Ob.ren] at hlf
    ·simp only [valAt] at hv ⊢
     rw [swM_get hi' hj', if_pos (by omega)] at hv
     exact hv
   ·rw [swO_get hi hj, if_neg hk] at hlf
    simp at hlf
end
theorem At.swap {g : G} {s : St} {a : Act} {w : World} {i j : Nat} (h : At g s a w) (hi : i < s.o.length) (hj : j < s.o.length) (gi : g.m.length ≤ i) (gj : g.m.length ≤ j) : At g (swS i j s) a w := by
 obtain ⟨⟨m, reg, h1, h2, h3⟩, h4, h5, h6⟩ := h
 obtain ⟨r1, r2⟩ := h1.swap hi hj
 refine ⟨⟨_, _, r1, fun b x hx => h2 b x (r2 b x hx), fun id mb hm => ?_⟩, h4, h5, h6⟩
 have hlt : id < g.m.length := (List.getElem?_eq_some_iff.1 hm).1
 have hm' := h3 id mb hm
 have hml : id < m.length := (List.getElem?_eq_some_iff.1 hm').1
 rw [swM_get (by rw [h1.len]; exact hi) (by rw [h1.len]; exact hj), if_pos hml]
 have : sw i j id = id := by unfold sw; rw [if_neg (by omega), if_neg (by omega)]
 rw [this]; exact hm'
theorem At.glen {g : G} {s : St} {a : Act} {w : World} (h : At g s a w) : g.m.length ≤ s.o.length := by
 obtain ⟨⟨m, reg, h1, h2, h3⟩, h4, h5, h6⟩ := h
 rw [← h1.len]
 rcases Nat.lt_or_ge m.length g.m.length with hl | hl
 ·have := h3 m.length _ (List.getElem?_eq_getElem hl)
  rw [List.getElem?_eq_none (Nat.le_refl _)] at this; cases this
 ·exact hl
end Go.AW
namespace Go.AW
open Go
set_option linter.unusedSimpArgs false
set_option linter.unusedVariables false
def runD1 (P : Program) (n : Nat) (gd : List (Option Nat)) (tk : List Nat) (o : Oper) (s : St) : SR :=
 match o.guard with
 | none =>
  if isQ tk o = true then match slotR P tk o s true with | some r => putS n o.dst r s | none => SR.no s
  else if isCall o = true then SR.no s else step1 P n tk o s
 | some (j, want) =>
  if isQ tk o = true then
   match gd.getD j none with
   | none => SR.no s
   | some t =>
    match gv (s.t t) with
    | some (h, x) =>
     match slotR P tk o s (h && x == want) with
     | some r => ((!(h && x == want) || r.ok) && dstOk n o.dst, s.put o.dst (.gd (h && x == want) r.v))
     | none => SR.no s
    | none => SR.no s
  else SR.no s
def runDP (P : Program) (n : Nat) (gd : List (Option Nat)) (tk : List Nat) : List Oper → (St → Prop) → St → Prop
 | [], K, s => K s
 | o :: r, K, s => andR (runD1 P n gd tk o s) (runDP P n gd tk r K)
theorem runDP_nil {P : Program} {n : Nat} {gd : List (Option Nat)} {tk : List Nat} {K : St → Prop} {s : St} : runDP P n gd tk [] K s = K s := rfl
theorem runDP_cons {P : Program} {n : Nat} {gd : List (Option Nat)} {tk : List Nat} {o : Oper} {r : List Oper} {K : St → Prop} {s : St} : runDP P n gd tk (o :: r) K s = andR (runD1 P n gd tk o s) (runDP P n gd tk r K) := rfl
section
variable {P : Program} {n : Nat} {gd : List (Option Nat)} {tk : List Nat} {K : St → Prop} {s : St}
theorem D_runDP : ∀ (k : Nat) {rest : List Oper} {s : St}, runDP P n gd tk (rest.take k) (D P n gd tk (rest.drop k) K) s → D P n gd tk rest K s
 | 0, rest, s, h => by simpa [runDP] using h
 | k + 1, [], s, h => by simpa [runDP] using h
 | k + 1, o :: rest, s, h => by
  simp only [List.take_succ_cons, runDP, andR, List.drop_succ_cons] at h
  obtain ⟨h1, h2⟩ := h
  have h2 := D_runDP k h2
  unfold runD1 at h1 h2
  cases hg : o.guard with
  | none =>
   simp only [hg] at h1 h2
   by_cases hq : isQ tk o = true
   ·rw [if_pos hq] at h1 h2
    simp only [D, hq, if_true]
    split at h1
    ·rename_i r hr
     simp only [hr, putS, Bool.and_eq_true] at h1 h2
     refine ⟨r.v, ⟨h1.2, ?_⟩, h2⟩
     rw [hg]
     exact .inl ⟨r, hr, h1.1, rfl⟩
    ·cases h1
   ·rw [if_neg hq] at h1 h2
    have hq' : isQ tk o = false := by simpa using hq
    simp only [D, hq', Bool.false_eq_true, if_false]
    by_cases hc : isCall o = true
    ·rw [if_pos hc] at h1; cases h1
    ·rw [if_neg hc] at h1 h2
     rw [if_neg hc]
     exact ⟨hg, _, by rw [← h1], h2⟩
  | some jw =>
   obtain ⟨j, want⟩ := jw
   simp only [hg] at h1 h2
   by_cases hq : isQ tk o = true
   ·rw [if_pos hq] at h1 h2
    simp only [D, hq, if_true]
    split at h1
    ·cases h1
    ·rename_i t ht
     simp only [ht] at h1 h2
     split at h1
     ·rename_i h0 x hx
      simp only [hx] at h1 h2
      split at h1
      ·rename_i r hr
       simp only [hr] at h1 h2
       rw [Bool.and_eq_true] at h1
       refine ⟨_, ⟨h1.2, ?_⟩, h2⟩
       rw [hg]
       refine ⟨t, h0, x, ht, hx, .inl ⟨r, hr, fun e => ?_, rfl⟩⟩
       rw [e] at h1
       simpa using h1.1
      ·cases h1
     ·cases h1
   ·rw [if_neg hq] at h1; cases h1
end
attribute [go_sem] runDP_cons runDP_nil runD1 isQ isCall
end Go.AW
namespace Go.AW
open Go
set_option linter.unusedSimpArgs false
set_option linter.unusedVariables false
mutual
/-- A value in which an object's slices are read as data. -/
def AV.unref (id sz : Nat) (rows : List (List AV)) : AV → AV
 | .ref j off len => if j = id ∧ off + len ≤ rows.length then .sl sz ((rows.drop off).take len) else .ref j off len
 | .fn f cs => .fn f (AV.unrefs id sz rows cs)
 | .agg cs => .agg (AV.unrefs id sz rows cs)
 | .tup cs => .tup (AV.unrefs id sz rows cs)
 | .ifc t v => .ifc t (AV.unref id sz rows v)
 | .gd g v => .gd g (AV.unref id sz rows v)
 | a => a
def AV.unrefs (id sz : Nat) (rows : List (List AV)) : List AV → List AV
 | [] => []
 | a :: l => AV.unref id sz rows a :: AV.unrefs id sz rows l
end
def Ob.unref (id sz : Nat) (rows : List (List AV)) : Ob → Ob
 | .cells k rs => .cells k (rs.map fun r => r.map (AV.unref id sz rows))
 | .mapo es => .mapo (es.map fun e => (e.1.unref id sz rows, e.2.unref id sz rows))
 | o => o
section
variable {w : World} {Y : CS} {m : List MB} {id sz : Nat} {rows : List (List AV)}
mutual
theorem V.unref (h : ∀ off len v, off + len ≤ rows.length → V w Y m (.ref id off len) v → V w Y m (.sl sz ((rows.drop off).take len)) v) : ∀ (a : AV) (v : Value), V w Y m a v → V w Y m (a.unref id sz rows) v
 | .ref j off len, v, k => by
  simp only [AV.unref]
  split
  ·rename_i e; rw [e.1] at k; exact h _ _ _ e.2 k
  ·exact k
 | .fn f cs, _, k => by
  simp only [V, AV.unref] at k ⊢
  obtain ⟨us, h1, h2⟩ := k
  exact ⟨us, h1, Vs.unref h cs _ h2⟩
 | .agg cs, _, k => by
  simp only [V, AV.unref] at k ⊢
  obtain ⟨us, h1, h2⟩ := k
  exact ⟨us, h1, Vs.unref h cs _ h2⟩
 | .tup cs, _, k => by
  simp only [V, AV.unref] at k ⊢
  obtain ⟨us, h1, h2⟩ := k
  exact ⟨us, h1, Vs.unref h cs _ h2⟩
 | .ifc t x, _, k => by
  simp only [V, AV.unref] at k ⊢
  obtain ⟨y, h1, h2⟩ := k
  exact ⟨y, h1, V.unref h x y h2⟩
 | .gd g x, v, k => by
  simp only [V, AV.unref] at k ⊢
  exact ⟨fun hg => V.unref h x v (k.1 hg), k.2⟩
 | .any, _, k | .b _, _, k | .i _ _, _, k | .s _, _, k | .sl _ _, _, k | .own _ _, _, k | .ptr _ _ _, _, k | .ep _ _, _, k | .nilp, _, k | .mp _, _, k | .nilm, _, k | .nsl, _, k | .esl, _, k | .nilf, _, k | .nili, _, k => by
  simpa only [AV.unref] using k
theorem Vs.unref (h : ∀ off len v, off + len ≤ rows.length → V w Y m (.ref id off len) v → V w Y m (.sl sz ((rows.drop off).take len)) v) : ∀ (l : List AV) (vs : List Value), Vs w Y m l vs → Vs w Y m (AV.unrefs id sz rows l) vs
 | [], _, k => by simpa only [Vs, AV.unrefs] using k
 | c :: r, _, k => by
  simp only [Vs, AV.unrefs] at k ⊢
  obtain ⟨v, t, h1, h2, h3⟩ := k
  exact ⟨v, t, h1, V.unref h c v h2, Vs.unref h r t h3⟩
end
theorem unref_own {a : AV} {k : Nat} {rs : List (List AV)} (h : a.unref id sz rows = .own k rs) : a = .own k rs := by
 cases a with
 | ref j off len => simp only [AV.unref] at h; split at h <;> cases h
 | _ => first | exact h | (simp only [AV.unref] at h; cases h)
theorem ObR.unref (h : ∀ off len v, off + len ≤ rows.length → V w Y m (.ref id off len) v → V w Y m (.sl sz ((rows.drop off).take len)) v) {mb : MB} (x : Ob) (hx : ObR w Y m mb x) : ObR w Y m mb (x.unref id sz rows) := by
 cases x with
 | cells k rs =>
  obtain ⟨h1, h2, h3, h4⟩ := hx
  refine ⟨h1, by simpa using h2, fun r row hr => ?_, fun r row c av hr hc => ?_⟩
  ·simp only [List.getElem?_map] at hr
   cases hq : rs[r]? with
   | none => simp [hq] at hr
   | some q => simp only [hq, Option.map_some, Option.some.injEq] at hr; subst hr; simpa using h3 r q hq
  ·simp only [List.getElem?_map] at hr
   cases hq : rs[r]? with
   | none => simp [hq] at hr
   | some q =>
    simp only [hq, Option.map_some, Option.some.injEq] at hr; subst hr
    simp only [List.getElem?_map] at hc
    cases hz : q[c]? with
    | none => simp [hz] at hc
    | some z =>
     simp only [hz, Option.map_some, Option.some.injEq] at hc; subst hc
     obtain ⟨v, e1, e2⟩ := h4 r q c z hq hz
     exact ⟨v, e1, V.unref h z v e2⟩
 | frz sz rows => exact hx
 | mapo es =>
  obtain ⟨c, e, h1, h2, h3⟩ := hx
  refine ⟨c, e, h1, ?_, h3⟩
  have key : ∀ (es : List (AV × AV)) (l : List MapEntry), MapR w Y m es l → MapR w Y m (es.map fun e => (e.1.unref id sz rows, e.2.unref id sz rows)) l := by
   intro es
   induction es with
   | nil => intro l hl; simpa only [List.map_nil, MapR] using hl
   | cons a es ih =>
    intro l hl
    obtain ⟨k, v⟩ := a
    simp only [List.map_cons, MapR] at hl ⊢
    obtain ⟨e, t, g1, g2, g3, g4⟩ := hl
    exact ⟨e, t, g1, V.unref h _ _ g2, V.unref h _ _ g3, ih t g4⟩
  exact key es _ h2
 | dead => trivial
theorem Ob.unref_live (x : Ob) : (x.unref id sz rows).live ↔ x.live := by cases x <;> exact Iff.rfl
end
section
variable {w : World} {Z : CS} {m : List MB} {reg : Pl → Option Reg} {t : Nat → AV} {u : Nat → Value} {o : List Ob}
theorem Rel.unown (h : Rel w Z m reg t u o) {id sz : Nat} {rows : List (List AV)} (ho : o[id]? = some (.cells sz rows)) :
  ∃ reg', Rel w Z m reg' t u (o.set id (.cells sz (rows.map fun r => r.map AV.dat))) ∧ ∀ b x, XS m reg' (o.set id (.cells sz (rows.map fun r => r.map AV.dat))) b x → XS m reg o b x := by
 let reg' : Pl → Option Reg := fun p => match p with | .o j _ _ => if j = id then none else reg p | .t _ => reg p
 have hsub : ∀ p rg, reg' p = some rg → reg p = some rg := by
  intro p rg hp
  cases p with
  | t k => exact hp
  | o j r c =>
   simp only [reg'] at hp
   split at hp
   ·cases hp
   ·exact hp
 have hX : ∀ b x, XS m reg' (o.set id (.cells sz (rows.map fun r => r.map AV.dat))) b x → XS m reg o b x := by
  rintro b x (⟨j, ob, mb, h1, h2, h3, h4⟩ | ⟨p, rg, h1, h2⟩)
  ·rw [set_get ho] at h1
   split at h1
   ·rename_i e; subst e; exact .inl ⟨j, _, mb, ho, trivial, h3, h4⟩
   ·exact .inl ⟨j, ob, mb, h1, h2, h3, h4⟩
  ·exact .inr ⟨p, rg, hsub p rg h1, h2⟩
 have K : Keeps w (YS Z m reg o) m w (YS Z m reg' (o.set id (.cells sz (rows.map fun r => r.map AV.dat)))) m := Keeps.sub m fun b y k => k.imp (hX b y) (fun h => h)
 refine ⟨reg', ?_, hX⟩
 refine ⟨by simp [h.len], fun k => V.keep K _ _ (h.tv k), ?_, ?_, fun p rg hp => h.rok p rg (hsub p rg hp), ?_, fun p q r s hpq hp hq => h.rdj p q r s hpq (hsub p r hp) (hsub q s hq), ?_, fun b y hz hy => h.zx b y hz (hX b y hy), h.zs⟩
 ·intro j ob mb hoj hmj
  rw [set_get ho] at hoj
  split at hoj
  ·rename_i e
   subst e
   obtain rfl := Option.some.inj hoj
   obtain ⟨h1, h2, h3, h4⟩ := h.ob j _ mb ho hmj
   refine ⟨h1, by simpa using h2, fun r row hr => ?_, fun r row c av hr hc => ?_⟩
   ·simp only [List.getElem?_map] at hr
    cases hq : rows[r]? with
    | none => simp [hq] at hr
    | some q => simp only [hq, Option.map_some, Option.some.injEq] at hr; subst hr; simpa using h3 r q hq
   ·simp only [List.getElem?_map] at hr
    cases hq : rows[r]? with
    | none => simp [hq] at hr
    | some q =>
     simp only [hq, Option.map_some, Option.some.injEq] at hr; subst hr
     simp only [List.getElem?_map] at hc
     cases hz : q[c]? with
     | none => simp [hz] at hc
     | some z =>
      simp only [hz, Option.map_some, Option.some.injEq] at hc; subst hc
      obtain ⟨v, e1, e2⟩ := h4 r q c z hq hz
      exact ⟨v, e1, V.keep K _ _ (V.dat _ _ e2)⟩
  ·exact Ob.keep K ob (fun _ => rfl) (h.ob j ob mb hoj hmj)
 ·intro i j x y a b hi hj lx ly ha hb e
  have f : ∀ {i : Nat} {x : Ob}, (o.set id (.cells sz (rows.map fun r => r.map AV.dat)))[i]? = some x → x.live → ∃ x' : Ob, o[i]? = some x' ∧ x'.live := by
   intro i x hi hl
   rw [set_get ho] at hi
   split at hi
   ·rename_i e; subst e; exact ⟨_, ho, trivial⟩
   ·exact ⟨x, hi, hl⟩
  obtain ⟨x', hx', lx'⟩ := f hi lx
  obtain ⟨y', hy', ly'⟩ := f hj ly
  exact h.inj i j x' y' a b hx' hy' lx' ly' ha hb e
 ·intro p rg j x mb hp hj hl hmj
  have : ∃ x' : Ob, o[j]? = some x' ∧ x'.live := by
   rw [set_get ho] at hj
   split at hj
   ·rename_i e; subst e; exact ⟨_, ho, trivial⟩
   ·exact ⟨x, hj, hl⟩
  obtain ⟨x', hx', lx'⟩ := this
  exact h.rob p rg j x' mb (hsub p rg hp) hx' lx' hmj
 ·intro p sz' rows' v hl hv
  cases p with
  | t k => exact h.own (.t k) sz' rows' v hl hv
  | o j r c =>
   simp only [leaf, set_get ho] at hl
   by_cases e : j = id
   ·subst e
    simp only [if_true, List.getElem?_map] at hl
    cases hq : rows[r]? with
    | none => simp [hq] at hl
    | some q =>
     simp only [hq, Option.map_some, Option.bind_some, List.getElem?_map] at hl
     cases hz : q[c]? with
     | none => simp [hz] at hl
     | some z =>
      simp only [hz, Option.map_some, Option.some.injEq] at hl
      have := AV.dat_isOwn z
      rw [hl] at this; simp [AV.isOwn] at this
   ·simp only [if_neg e, reg'] at hl ⊢
    exact h.own (.o j r c) sz' rows' v (by simpa [leaf] using hl) hv
theorem Rel.unref (h : Rel w Z m reg t u o) {id sz : Nat} {rows : List (List AV)} (ho : o[id]? = some (.frz sz rows)) :
  ∃ reg', Rel w Z m reg' (fun k => (t k).unref id sz rows) u (o.map (Ob.unref id sz rows)) ∧ ∀ b x, XS m reg' (o.map (Ob.unref id sz rows)) b x → XS m reg o b x := by
 have og : ∀ {j : Nat} {x : Ob}, (o.map (Ob.unref id sz rows))[j]? = some x → ∃ y, o[j]? = some y ∧ x = y.unref id sz rows := by
  intro j x hj
  rw [List.getElem?_map] at hj
  cases hq : o[j]? with
  | none => rw [hq] at hj; cases hj
  | some y => rw [hq] at hj; exact ⟨y, rfl, (Option.some.inj hj).symm⟩
 have hX : ∀ b x, XS m reg (o.map (Ob.unref id sz rows)) b x → XS m reg o b x := by
  rintro b x (⟨j, ob, mb, h1, h2, h3, h4⟩ | h1)
  ·obtain ⟨y, hy, rfl⟩ := og h1
   exact .inl ⟨j, y, mb, hy, (Ob.unref_live _).1 h2, h3, h4⟩
  ·exact .inr h1
 obtain ⟨mb, hmb⟩ := h.mget ho
 have hfr := h.ob id _ mb ho hmb
 have hu : ∀ off len v, off + len ≤ rows.length → V w (YS Z m reg o) m (.ref id off len) v → V w (YS Z m reg o) m (.sl sz ((rows.drop off).take len)) v := by
  intro off len v hle hv
  simp only [V] at hv ⊢
  obtain ⟨mb', a, cap, e1, rfl, e2, e3, e4⟩ := hv
  rw [hmb] at e1
  obtain rfl := Option.some.inj e1
  have hlen : ((rows.drop off).take len).length = len := by rw [List.length_take, List.length_drop]; omega
  refine ⟨a, cap, by rw [hlen], by rw [hlen]; exact e2, e3, ?_⟩
  by_cases h0 : len = 0
  ·subst h0; exact .inl (by simp)
  ·refine .inr ⟨mb.blk, mb.base + off * mb.sz, (e4.resolve_left (fun q => h0 q.1)).1, ?_⟩
   obtain ⟨s1, s2⟩ := hfr
   rcases s2 with s2 | s2
   ·subst s2; simp at hle; omega
   ·rw [s1]
    exact Rs.take _ (Rs.drop _ s2)
 have K : Keeps w (YS Z m reg o) m w (YS Z m reg (o.map (Ob.unref id sz rows))) m := Keeps.sub m fun b y k => k.imp (hX b y) (fun h => h)
 refine ⟨reg, ?_, hX⟩
 refine ⟨by simp [h.len], fun k => V.keep K _ _ (V.unref hu _ _ (h.tv k)), ?_, ?_, h.rok, ?_, h.rdj, ?_, fun b y hz hy => h.zx b y hz (hX b y hy), h.zs⟩
 ·intro j ob mb' hoj hmj
  obtain ⟨y, hy, rfl⟩ := og hoj
  exact Ob.keep K _ (fun _ => rfl) (ObR.unref hu y (h.ob j y mb' hy hmj))
 ·intro i j x y a b hi hj lx ly ha hb e
  obtain ⟨x', hx, rfl⟩ := og hi
  obtain ⟨y', hy, rfl⟩ := og hj
  exact h.inj i j x' y' a b hx hy ((Ob.unref_live _).1 lx) ((Ob.unref_live _).1 ly) ha hb e
 ·intro p r j x mb' hp hj hl hm
  obtain ⟨y, hy, rfl⟩ := og hj
  exact h.rob p r j y mb' hp hy ((Ob.unref_live _).1 hl) hm
 ·intro p sz' rows' v hl hv
  refine h.own p sz' rows' v ?_ hv
  cases p with
  | t k =>
   simp only [leaf, Option.some.injEq] at hl ⊢
   exact unref_own hl
  | o j r c =>
   simp only [leaf, List.getElem?_map] at hl ⊢
   cases hq : o[j]? with
   | none => rw [hq] at hl; simp at hl
   | some y =>
    rw [hq] at hl
    cases y with
    | cells k rs =>
     simp only [Option.map_some, Ob.unref, List.getElem?_map] at hl ⊢
     cases hr : rs[r]? with
     | none => rw [hr] at hl; simp at hl
     | some row =>
      rw [hr] at hl
      simp only [Option.map_some, Option.bind_some, List.getElem?_map] at hl ⊢
      cases hc : row[c]? with
      | none => rw [hc] at hl; simp at hl
      | some av => rw [hc] at hl; simp only [Option.map_some, Option.some.injEq] at hl; rw [unref_own hl]
    | _ => simp [Ob.unref] at hl
end
def frS (id sz : Nat) (rows : List (List AV)) (s : St) : St :=
 let rs := rows.map fun r => r.map AV.dat
 ⟨fun k => (s.t k).unref id sz rs, (s.o.set id (.frz sz rs)).map (Ob.unref id sz rs)⟩
theorem At.freeze {g : G} {s : St} {a : Act} {w : World} {id sz : Nat} {rows : List (List AV)} (h : At g s a w) (ho : s.o[id]? = some (.cells sz rows))
  (hr : (rows.all fun r => r.all fun c => c.dat.ltk 0 && c.dat.plain) = true) : At g (frS id sz rows s) a w := by
 obtain ⟨⟨m, reg, h1, h2, h3⟩, h4, h5, h6⟩ := h
 obtain ⟨reg1, r1, x1⟩ := h1.unown ho
 have ho1 : (s.o.set id (.cells sz (rows.map fun r => r.map AV.dat)))[id]? = some (.cells sz (rows.map fun r => r.map AV.dat)) := by rw [set_get ho, if_pos rfl]
 obtain ⟨r2, _, x2⟩ := r1.freeze ho1 (by
  intro r row c av e1 e2
  simp only [List.getElem?_map] at e1
  cases hq : rows[r]? with
  | none => rw [hq] at e1; cases e1
  | some q =>
   rw [hq] at e1
   simp only [Option.map_some, Option.some.injEq] at e1
   subst e1
   simp only [List.getElem?_map] at e2
   cases hz : q[c]? with
   | none => rw [hz] at e2; cases e2
   | some z =>
    rw [hz] at e2
    simp only [Option.map_some, Option.some.injEq] at e2
    subst e2
    simp only [List.all_eq_true, Bool.and_eq_true] at hr
    have := hr q (List.mem_of_getElem? hq) z (List.mem_of_getElem? hz)
    exact ⟨this.1, AV.dat_isOwn _, this.2⟩)
 rw [List.set_set] at r2 x2
 have ho2 : (s.o.set id (.frz sz (rows.map fun r => r.map AV.dat)))[id]? = some (.frz sz (rows.map fun r => r.map AV.dat)) := by rw [set_get ho, if_pos rfl]
 obtain ⟨reg3, r3, x3⟩ := r2.unref ho2
 exact ⟨⟨m, reg3, r3, fun b x hx => h2 b x (x1 b x (x2 b x (x3 b x hx))), h3⟩, h4, h5, h6⟩
section
variable {P : Program} {n : Nat} {Q : Exit → St → Prop} {s : St} {c : Code}
theorem W.at {s' : St} (hs : ∀ (g : G) (a : Act) (w : World), At g s a w → At g s' a w) (h : W P n c Q s') : W P n c Q s := fun g a w hn hat => h g a w hn (hs g a w hat)
theorem W_freeze (id : Nat) {sz : Nat} {rows : List (List AV)} (ho : s.o[id]? = some (.cells sz rows)) (hr : (rows.all fun r => r.all fun c => c.dat.ltk 0 && c.dat.plain) = true)
  (h : W P n c Q (frS id sz rows s)) : W P n c Q s := h.at fun _ _ _ hat => hat.freeze ho hr
theorem W_weak {s' : St} (ht : ∀ k, Le (s.t k) (s'.t k)) (ho : s'.o = s.o) (h : W P n c Q s') : W P n c Q s := h.at fun _ _ _ hat => hat.weak ht ho
end
end Go.AW
namespace Go.AW
open Go
set_option linter.unusedSimpArgs false
set_option linter.unusedVariables false
def inL (lo hi : Nat) (L : List Nat) (k : Nat) : Bool := decide (lo ≤ k) && decide (k < hi) || L.contains k
def mix (lo hi : Nat) (L : List Nat) (t t0 : Nat → AV) : Nat → AV := fun k => if inL lo hi L k = true then t k else t0 k
theorem mix_at (lo hi : Nat) (L : List Nat) (t t0 : Nat → AV) (k : Nat) : mix lo hi L t t0 k = if inL lo hi L k = true then t k else t0 k := rfl
theorem mix_self (lo hi : Nat) (L : List Nat) (t : Nat → AV) : mix lo hi L t t = t := by
 funext k
 simp [mix]
theorem mix_upd {lo hi : Nat} {L : List Nat} {t t0 : Nat → AV} {k : Nat} {v : AV} (h : inL lo hi L k = true) : upd (mix lo hi L t t0) k v = mix lo hi L (upd t k v) t0 := by
 funext j
 simp only [upd, mix]
 by_cases hj : j = k
 ·subst hj; simp [h]
 ·simp [hj]
theorem mix_mix {lo hi lo' hi' : Nat} {L L' : List Nat} {t t1 t0 : Nat → AV} (h : (decide (lo' ≤ lo) && decide (hi ≤ hi') && L.all (inL lo' hi' L')) = true) : mix lo hi L t (mix lo' hi' L' t1 t0) = mix lo' hi' L' (mix lo hi L t t1) t0 := by
 simp only [Bool.and_eq_true, decide_eq_true_eq, List.all_eq_true] at h
 funext k
 simp only [mix]
 by_cases h1 : inL lo hi L k = true
 ·have h2 : inL lo' hi' L' k = true := by
   simp only [inL, Bool.or_eq_true, Bool.and_eq_true, decide_eq_true_eq, List.contains_eq_mem] at h1 ⊢
   rcases h1 with h1 | h1
   ·exact .inl ⟨by omega, by omega⟩
   ·have := h.2 k h1
    simpa only [inL, Bool.or_eq_true, Bool.and_eq_true, decide_eq_true_eq, List.contains_eq_mem] using this
  simp [h1, h2]
 ·simp [h1]
section
variable {P : Program} {n : Nat} {Q : Exit → St → Prop} {s : St}
def forQ (lo hi : Nat) (L : List Nat) (t0 : Nat → AV) (I : Nat → (Nat → AV) → List Ob → Prop) (m : Nat) (Q : Exit → St → Prop) : Exit → St → Prop
 | .normal, s => ∃ m' t', m' < m ∧ s.t = mix lo hi L t' t0 ∧ I m' t' s.o
 | e, s => Q e s
theorem forQ_normal {lo hi : Nat} {L : List Nat} {t0 : Nat → AV} {I : Nat → (Nat → AV) → List Ob → Prop} {m : Nat} (m' : Nat) {t' : Nat → AV} {o : List Ob} (h : m' < m) (hI : I m' t' o) :
  forQ lo hi L t0 I m Q .normal ⟨mix lo hi L t' t0, o⟩ := ⟨m', t', h, rfl, hI⟩
theorem forQ_ret {lo hi : Nat} {L : List Nat} {t0 : Nat → AV} {I : Nat → (Nat → AV) → List Ob → Prop} {m : Nat} (h : Q .ret s) : forQ lo hi L t0 I m Q .ret s := h
theorem forQ_exit {lo hi : Nat} {L : List Nat} {t0 : Nat → AV} {I : Nat → (Nat → AV) → List Ob → Prop} {m id : Nat} (h : Q (.exit id) s) : forQ lo hi L t0 I m Q (.exit id) s := h
theorem W_for {c : Code} (lo hi : Nat) (L : List Nat) (I : Nat → (Nat → AV) → List Ob → Prop) (m : Nat) {t0 : Nat → AV} {o0 : List Ob} (h0 : I m t0 o0)
  (round : ∀ m t o, I m t o → W P n c (forQ lo hi L t0 I m Q) ⟨mix lo hi L t t0, o⟩) : W P n (.loop c) Q ⟨t0, o0⟩ := by
 refine W_while (fun m s => ∃ t, s.t = mix lo hi L t t0 ∧ I m t s.o) m ⟨t0, (mix_self _ _ _ _).symm, h0⟩ ?_
 rintro m ⟨ts, o⟩ ⟨t, ht, hI⟩
 simp only at ht
 subst ht
 refine (round m t o hI).mono ?_
 intro e s h
 cases e with
 | normal =>
  obtain ⟨m', t', h1, h2, h3⟩ := h
  exact ⟨m', h1, t', h2, h3⟩
 | _ => exact h
def joinQ (lo hi : Nat) (L : List Nat) (t0 : Nat → AV) (I : (Nat → AV) → List Ob → Prop) (Q : Exit → St → Prop) : Exit → St → Prop
 | .normal, s => ∃ t', s.t = mix lo hi L t' t0 ∧ I t' s.o
 | e, s => Q e s
theorem joinQ_ret {lo hi : Nat} {L : List Nat} {t0 : Nat → AV} {I : (Nat → AV) → List Ob → Prop} (h : Q .ret s) : joinQ lo hi L t0 I Q .ret s := h
theorem joinQ_exit {lo hi : Nat} {L : List Nat} {t0 : Nat → AV} {I : (Nat → AV) → List Ob → Prop} {id : Nat} (h : Q (.exit id) s) : joinQ lo hi L t0 I Q (.exit id) s := h
end
section
variable {P : Program} {n : Nat} {gd : List (Option Nat)} {tk : List Nat} {Q : Exit → St → Prop} {s : St} {K : St → Prop}
def runR (P : Program) (n : Nat) (gd : List (Option Nat)) (tk : List Nat) (R : List Oper → St → Prop) : List Oper → (St → Prop) → St → Prop
 | [], K, s => K s
 | o :: r, K, s => if isCall o = true then R (o :: r) s else andR (runO P n gd tk o s) (runR P n gd tk R r K)
theorem runR_nil {R : List Oper → St → Prop} : runR P n gd tk R [] K s = K s := rfl
theorem runR_cons {R : List Oper → St → Prop} {o : Oper} {r : List Oper} : runR P n gd tk R (o :: r) K s = if isCall o = true then R (o :: r) s else andR (runO P n gd tk o s) (runR P n gd tk R r K) := rfl
theorem RL_runR : ∀ (l : List Oper) {s : St}, runR P n gd tk (fun l s => RL P n gd l Q s) l (fun s => Q .normal s) s → RL P n gd l Q s
 | [], s, h => RL_nil h
 | o :: r, s, h => by
  simp only [runR] at h
  split at h
  ·exact h
  ·exact RL_one (tk := tk) (s' := (runO P n gd tk o s).2) (by rw [← h.1]) (RL_runR r h.2)
theorem RL_reg (tk : List Nat) {l : List Oper} (h : ∀ (K : St → Prop) (R : List Oper → St → Prop), (∀ s, Q .normal s → K s) → (∀ l s, RL P n gd l Q s → R l s) → runR P n gd tk R l K s) : RL P n gd l Q s :=
 RL_runR (tk := tk) l (h _ _ (fun _ h => h) (fun _ _ h => h))
theorem W_reg {id : Nat} {l : List Oper} (tk : List Nat) (h : ∀ (K : St → Prop) (R : List Oper → St → Prop), (∀ s, Q .normal s → K s) → (∀ l' s, RL P n (l.map (·.dst)) l' Q s → R l' s) → runR P n (l.map (·.dst)) tk R l K s) : W P n (.region id l.toArray false) Q s :=
 W_region (RL_reg tk h)
def runDR (P : Program) (n : Nat) (gd : List (Option Nat)) (tk : List Nat) (R : List Oper → St → Prop) : List Oper → (St → Prop) → St → Prop
 | [], K, s => K s
 | o :: r, K, s => if isCall o = true then R (o :: r) s else andR (runD1 P n gd tk o s) (runDR P n gd tk R r K)
theorem runDR_nil {R : List Oper → St → Prop} : runDR P n gd tk R [] K s = K s := rfl
theorem runDR_cons {R : List Oper → St → Prop} {o : Oper} {r : List Oper} : runDR P n gd tk R (o :: r) K s = if isCall o = true then R (o :: r) s else andR (runD1 P n gd tk o s) (runDR P n gd tk R r K) := rfl
theorem D_runDR : ∀ (l : List Oper) {s : St}, runDR P n gd tk (fun l s => D P n gd tk l K s) l K s → D P n gd tk l K s
 | [], s, h => h
 | o :: r, s, h => by
  simp only [runDR] at h
  split at h
  ·exact h
  ·refine D_runDP 1 ?_
   simp only [List.take_succ_cons, List.take_zero, runDP, List.drop_succ_cons, List.drop_zero]
   exact ⟨h.1, D_runDR r h.2⟩
theorem D_reg {l : List Oper} (h : ∀ (K' : St → Prop) (R : List Oper → St → Prop), (∀ s, K s → K' s) → (∀ l s, D P n gd tk l K s → R l s) → runDR P n gd tk R l K' s) : D P n gd tk l K s :=
 D_runDR l (h _ _ (fun _ h => h) (fun _ _ h => h))
theorem W_dreg {id : Nat} {l : List Oper} (hm : P.follows .mixedOrders = true) (tk : List Nat) (ord : List Nat) (tp : List (List Nat)) (hok : drawOk l.toArray (l.map (·.dst)) tk ord tp = true) {l' : List Oper} (hl : ord.filterMap (l[·]?) = l')
  (h : ∀ (K' : St → Prop) (R : List Oper → St → Prop), (∀ s, Q .normal s → K' s) → (∀ r s, D P n (l.map (·.dst)) tk r (Q .normal) s → R r s) → runDR P n (l.map (·.dst)) tk R l' K' s) : W P n (.region id l.toArray true) Q s := by
 refine W_draw hm tk ord tp hok ?_
 rw [hl]
 exact D_reg h
theorem D_call {o : Oper} {rest : List Oper} (ac : List AV) (r : AV) (hg : o.guard = none) (hq : isQ tk o = true) (h : CallD P n o s ac r) (ho : ac.all (fun c => !c.isOwn) = true) (hK : D P n gd tk rest K (s.put o.dst r)) : D P n gd tk (o :: rest) K s := by
 simp only [D, hq, if_true]
 refine ⟨r, ⟨h.dst, ?_⟩, hK⟩
 rw [hg]
 exact .inr ⟨ac, h, ho⟩
theorem D_callg {o : Oper} {rest : List Oper} (ac : List AV) (r : AV) {j t : Nat} {want h0 x : Bool} (hg : o.guard = some (j, want)) (hj : gd.getD j none = some t) (hx : gv (s.t t) = some (h0, x)) (hd : dstOk n o.dst = true) (hq : isQ tk o = true)
  (h : (h0 && x == want) = true → CallD P n o s ac r) (ho : ac.all (fun c => !c.isOwn) = true) (hK : D P n gd tk rest K (s.put o.dst (.gd (h0 && x == want) r))) : D P n gd tk (o :: rest) K s := by
 simp only [D, hq, if_true]
 refine ⟨_, ⟨hd, ?_⟩, hK⟩
 rw [hg]
 exact ⟨t, h0, x, hj, hx, .inr ⟨ac, r, h, ho, rfl⟩⟩
end
attribute [go_sem] runR_cons runR_nil runDR_cons runDR_nil
@[go_sem] theorem mix_at' (lo hi : Nat) (L : List Nat) (t t0 : Nat → AV) (k : Nat) : mix lo hi L t t0 k = if inL lo hi L k = true then t k else t0 k := rfl
attribute [go_sem] mix_upd
@[go_sem] theorem inL_eq (lo hi : Nat) (L : List Nat) (k : Nat) : inL lo hi L k = (decide (lo ≤ k) && decide (k < hi) || L.contains k) := rfl
end Go.AW
namespace Go.AW.TyTry
open Go Go.Proofs
-- 158 types
@[go_sem] theorem uk1 : ukOf Try.prog 1 = .func := by kernel_rfl
@[go_sem] theorem sz1 : szOf Try.prog 1 = 1 := by kernel_rfl
@[go_sem] theorem ck1 : cellK Try.prog 8 1 = [none] := by kernel_rfl
@[go_sem] theorem by1 : Try.prog.bytesOf 1 = 8 := by kernel_rfl
@[go_sem] theorem zr1 : zeroAV Try.prog 1 = some (.nilf) := by kernel_rfl
@[go_sem] theorem uk2 : ukOf Try.prog 2 = .int .i64 := by kernel_rfl
@[go_sem] theorem sz2 : szOf Try.prog 2 = 1 := by kernel_rfl
@[go_sem] theorem ck2 : cellK Try.prog 8 2 = [none] := by kernel_rfl
@[go_sem] theorem by2 : Try.prog.bytesOf 2 = 8 := by kernel_rfl
@[go_sem] theorem zr2 : zeroAV Try.prog 2 = some (.i .i64 0) := by kernel_rfl
@[go_sem] theorem uk3 : ukOf Try.prog 3 = .int .i64 := by kernel_rfl
@[go_sem] theorem sz3 : szOf Try.prog 3 = 1 := by kernel_rfl
@[go_sem] theorem ck3 : cellK Try.prog 8 3 = [none] := by kernel_rfl
@[go_sem] theorem by3 : Try.prog.bytesOf 3 = 8 := by kernel_rfl
@[go_sem] theorem zr3 : zeroAV Try.prog 3 = some (.i .i64 0) := by kernel_rfl
@[go_sem] theorem uk4 : ukOf Try.prog 4 = .bool := by kernel_rfl
@[go_sem] theorem sz4 : szOf Try.prog 4 = 1 := by kernel_rfl
@[go_sem] theorem ck4 : cellK Try.prog 8 4 = [none] := by kernel_rfl
@[go_sem] theorem by4 : Try.prog.bytesOf 4 = 1 := by kernel_rfl
@[go_sem] theorem zr4 : zeroAV Try.prog 4 = some (.b false) := by kernel_rfl
@[go_sem] theorem uk5 : ukOf Try.prog 5 = .int .u8 := by kernel_rfl
@[go_sem] theorem sz5 : szOf Try.prog 5 = 1 := by kernel_rfl
@[go_sem] theorem ck5 : cellK Try.prog 8 5 = [none] := by kernel_rfl
@[go_sem] theorem by5 : Try.prog.bytesOf 5 = 1 := by kernel_rfl
@[go_sem] theorem zr5 : zeroAV Try.prog 5 = some (.i .u8 0) := by kernel_rfl
@[go_sem] theorem uk6 : ukOf Try.prog 6 = .int .u8 := by kernel_rfl
@[go_sem] theorem sz6 : szOf Try.prog 6 = 1 := by kernel_rfl
@[go_sem] theorem ck6 : cellK Try.prog 8 6 = [none] := by kernel_rfl
@[go_sem] theorem by6 : Try.prog.bytesOf 6 = 1 := by kernel_rfl
@[go_sem] theorem zr6 : zeroAV Try.prog 6 = some (.i .u8 0) := by kernel_rfl
@[go_sem] theorem uk7 : ukOf Try.prog 7 = .struct := by kernel_rfl
@[go_sem] theorem sz7 : szOf Try.prog 7 = 4 := by kernel_rfl
@[go_sem] theorem fd7_0 : fldOf Try.prog 7 0 = some (0, 2) := by kernel_rfl
@[go_sem] theorem fd7_1 : fldOf Try.prog 7 1 = some (1, 3) := by kernel_rfl
@[go_sem] theorem fd7_2 : fldOf Try.prog 7 2 = some (2, 4) := by kernel_rfl
@[go_sem] theorem fd7_3 : fldOf Try.prog 7 3 = some (3, 6) := by kernel_rfl
@[go_sem] theorem ck7 : cellK Try.prog 8 7 = [none, none, none, none] := by kernel_rfl
@[go_sem] theorem so7 : structOk Try.prog 7 = true := by kernel_rfl
@[go_sem] theorem by7 : Try.prog.bytesOf 7 = 24 := by kernel_rfl
@[go_sem] theorem zr7 : zeroAV Try.prog 7 = some (.agg [.i .i64 0, .i .i64 0, .b false, .i .u8 0]) := by kernel_rfl
@[go_sem] theorem uk8 : ukOf Try.prog 8 = .struct := by kernel_rfl
@[go_sem] theorem sz8 : szOf Try.prog 8 = 4 := by kernel_rfl
@[go_sem] theorem fd8_0 : fldOf Try.prog 8 0 = some (0, 2) := by kernel_rfl
@[go_sem] theorem fd8_1 : fldOf Try.prog 8 1 = some (1, 3) := by kernel_rfl
@[go_sem] theorem fd8_2 : fldOf Try.prog 8 2 = some (2, 4) := by kernel_rfl
@[go_sem] theorem fd8_3 : fldOf Try.prog 8 3 = some (3, 6) := by kernel_rfl
@[go_sem] theorem ck8 : cellK Try.prog 8 8 = [none, none, none, none] := by kernel_rfl
@[go_sem] theorem so8 : structOk Try.prog 8 = true := by kernel_rfl
@[go_sem] theorem by8 : Try.prog.bytesOf 8 = 24 := by kernel_rfl
@[go_sem] theorem zr8 : zeroAV Try.prog 8 = some (.agg [.i .i64 0, .i .i64 0, .b false, .i .u8 0]) := by kernel_rfl
@[go_sem] theorem uk9 : ukOf Try.prog 9 = .str := by kernel_rfl
@[go_sem] theorem sz9 : szOf Try.prog 9 = 1 := by kernel_rfl
@[go_sem] theorem ck9 : cellK Try.prog 8 9 = [none] := by kernel_rfl
@[go_sem] theorem by9 : Try.prog.bytesOf 9 = 16 := by kernel_rfl
@[go_sem] theorem zr9 : zeroAV Try.prog 9 = some (.s ByteArray.empty) := by kernel_rfl
@[go_sem] theorem uk10 : ukOf Try.prog 10 = .str := by kernel_rfl
@[go_sem] theorem sz10 : szOf Try.prog 10 = 1 := by kernel_rfl
@[go_sem] theorem ck10 : cellK Try.prog 8 10 = [none] := by kernel_rfl
@[go_sem] theorem by10 : Try.prog.bytesOf 10 = 16 := by kernel_rfl
@[go_sem] theorem zr10 : zeroAV Try.prog 10 = some (.s ByteArray.empty) := by kernel_rfl
@[go_sem] theorem uk11 : ukOf Try.prog 11 = .str := by kernel_rfl
@[go_sem] theorem sz11 : szOf Try.prog 11 = 1 := by kernel_rfl
@[go_sem] theorem ck11 : cellK Try.prog 8 11 = [none] := by kernel_rfl
@[go_sem] theorem by11 : Try.prog.bytesOf 11 = 16 := by kernel_rfl
@[go_sem] theorem zr11 : zeroAV Try.prog 11 = some (.s ByteArray.empty) := by kernel_rfl
@[go_sem] theorem uk12 : ukOf Try.prog 12 = .int .u64 := by kernel_rfl
@[go_sem] theorem sz12 : szOf Try.prog 12 = 1 := by kernel_rfl
@[go_sem] theorem ck12 : cellK Try.prog 8 12 = [none] := by kernel_rfl
@[go_sem] theorem by12 : Try.prog.bytesOf 12 = 8 := by kernel_rfl
@[go_sem] theorem zr12 : zeroAV Try.prog 12 = some (.i .u64 0) := by kernel_rfl
@[go_sem] theorem uk13 : ukOf Try.prog 13 = .struct := by kernel_rfl
@[go_sem] theorem sz13 : szOf Try.prog 13 = 2 := by kernel_rfl
@[go_sem] theorem fd13_0 : fldOf Try.prog 13 0 = some (0, 9) := by kernel_rfl
@[go_sem] theorem fd13_1 : fldOf Try.prog 13 1 = some (1, 12) := by kernel_rfl
@[go_sem] theorem ck13 : cellK Try.prog 8 13 = [none, none] := by kernel_rfl
@[go_sem] theorem so13 : structOk Try.prog 13 = true := by kernel_rfl
@[go_sem] theorem by13 : Try.prog.bytesOf 13 = 24 := by kernel_rfl
@[go_sem] theorem zr13 : zeroAV Try.prog 13 = some (.agg [.s ByteArray.empty, .i .u64 0]) := by kernel_rfl
@[go_sem] theorem uk14 : ukOf Try.prog 14 = .struct := by kernel_rfl
@[go_sem] theorem sz14 : szOf Try.prog 14 = 2 := by kernel_rfl
@[go_sem] theorem fd14_0 : fldOf Try.prog 14 0 = some (0, 9) := by kernel_rfl
@[go_sem] theorem fd14_1 : fldOf Try.prog 14 1 = some (1, 12) := by kernel_rfl
@[go_sem] theorem ck14 : cellK Try.prog 8 14 = [none, none] := by kernel_rfl
@[go_sem] theorem so14 : structOk Try.prog 14 = true := by kernel_rfl
@[go_sem] theorem by14 : Try.prog.bytesOf 14 = 24 := by kernel_rfl
@[go_sem] theorem zr14 : zeroAV Try.prog 14 = some (.agg [.s ByteArray.empty, .i .u64 0]) := by kernel_rfl
@[go_sem] theorem uk15 : ukOf Try.prog 15 = .ptr 144 := by kernel_rfl
@[go_sem] theorem sz15 : szOf Try.prog 15 = 1 := by kernel_rfl
@[go_sem] theorem ck15 : cellK Try.prog 8 15 = [none] := by kernel_rfl
@[go_sem] theorem by15 : Try.prog.bytesOf 15 = 8 := by kernel_rfl
@[go_sem] theorem zr15 : zeroAV Try.prog 15 = some (.nilp) := by kernel_rfl
@[go_sem] theorem uk16 : ukOf Try.prog 16 = .ptr 147 := by kernel_rfl
@[go_sem] theorem sz16 : szOf Try.prog 16 = 1 := by kernel_rfl
@[go_sem] theorem ck16 : cellK Try.prog 8 16 = [none] := by kernel_rfl
@[go_sem] theorem by16 : Try.prog.bytesOf 16 = 8 := by kernel_rfl
@[go_sem] theorem zr16 : zeroAV Try.prog 16 = some (.nilp) := by kernel_rfl
@[go_sem] theorem uk17 : ukOf Try.prog 17 = .ptr 156 := by kernel_rfl
@[go_sem] theorem sz17 : szOf Try.prog 17 = 1 := by kernel_rfl
@[go_sem] theorem ck17 : cellK Try.prog 8 17 = [none] := by kernel_rfl
@[go_sem] theorem by17 : Try.prog.bytesOf 17 = 8 := by kernel_rfl
@[go_sem] theorem zr17 : zeroAV Try.prog 17 = some (.nilp) := by kernel_rfl
@[go_sem] theorem uk18 : ukOf Try.prog 18 = .struct := by kernel_rfl
@[go_sem] theorem sz18 : szOf Try.prog 18 = 1 := by kernel_rfl
@[go_sem] theorem fd18_0 : fldOf Try.prog 18 0 = some (0, 17) := by kernel_rfl
@[go_sem] theorem ck18 : cellK Try.prog 8 18 = [none] := by kernel_rfl
@[go_sem] theorem so18 : structOk Try.prog 18 = true := by kernel_rfl
@[go_sem] theorem by18 : Try.prog.bytesOf 18 = 8 := by kernel_rfl
@[go_sem] theorem zr18 : zeroAV Try.prog 18 = some (.agg [.nilp]) := by kernel_rfl
@[go_sem] theorem uk19 : ukOf Try.prog 19 = .struct := by kernel_rfl
@[go_sem] theorem sz19 : szOf Try.prog 19 = 1 := by kernel_rfl
@[go_sem] theorem fd19_0 : fldOf Try.prog 19 0 = some (0, 17) := by kernel_rfl
@[go_sem] theorem ck19 : cellK Try.prog 8 19 = [none] := by kernel_rfl
@[go_sem] theorem so19 : structOk Try.prog 19 = true := by kernel_rfl
@[go_sem] theorem by19 : Try.prog.bytesOf 19 = 8 := by kernel_rfl
@[go_sem] theorem zr19 : zeroAV Try.prog 19 = some (.agg [.nilp]) := by kernel_rfl
@[go_sem] theorem uk20 : ukOf Try.prog 20 = .iface := by kernel_rfl
@[go_sem] theorem sz20 : szOf Try.prog 20 = 1 := by kernel_rfl
@[go_sem] theorem ck20 : cellK Try.prog 8 20 = [none] := by kernel_rfl
@[go_sem] theorem by20 : Try.prog.bytesOf 20 = 16 := by kernel_rfl
@[go_sem] theorem zr20 : zeroAV Try.prog 20 = some (.nili) := by kernel_rfl
@[go_sem] theorem uk21 : ukOf Try.prog 21 = .int .i32 := by kernel_rfl
@[go_sem] theorem sz21 : szOf Try.prog 21 = 1 := by kernel_rfl
@[go_sem] theorem ck21 : cellK Try.prog 8 21 = [none] := by kernel_rfl
@[go_sem] theorem by21 : Try.prog.bytesOf 21 = 4 := by kernel_rfl
@[go_sem] theorem zr21 : zeroAV Try.prog 21 = some (.i .i32 0) := by kernel_rfl
@[go_sem] theorem uk22 : ukOf Try.prog 22 = .slice 64 := by kernel_rfl
@[go_sem] theorem sz22 : szOf Try.prog 22 = 1 := by kernel_rfl
@[go_sem] theorem ck22 : cellK Try.prog 8 22 = [some 3] := by kernel_rfl
@[go_sem] theorem by22 : Try.prog.bytesOf 22 = 24 := by kernel_rfl
@[go_sem] theorem zr22 : zeroAV Try.prog 22 = some (.nsl) := by kernel_rfl
@[go_sem] theorem uk23 : ukOf Try.prog 23 = .struct := by kernel_rfl
@[go_sem] theorem sz23 : szOf Try.prog 23 = 2 := by kernel_rfl
@[go_sem] theorem fd23_0 : fldOf Try.prog 23 0 = some (0, 3) := by kernel_rfl
@[go_sem] theorem fd23_1 : fldOf Try.prog 23 1 = some (1, 22) := by kernel_rfl
@[go_sem] theorem ck23 : cellK Try.prog 8 23 = [none, some 3] := by kernel_rfl
@[go_sem] theorem so23 : structOk Try.prog 23 = true := by kernel_rfl
@[go_sem] theorem by23 : Try.prog.bytesOf 23 = 32 := by kernel_rfl
@[go_sem] theorem zr23 : zeroAV Try.prog 23 = some (.agg [.i .i64 0, .nsl]) := by kernel_rfl
@[go_sem] theorem uk24 : ukOf Try.prog 24 = .struct := by kernel_rfl
@[go_sem] theorem sz24 : szOf Try.prog 24 = 2 := by kernel_rfl
@[go_sem] theorem fd24_0 : fldOf Try.prog 24 0 = some (0, 3) := by kernel_rfl
@[go_sem] theorem fd24_1 : fldOf Try.prog 24 1 = some (1, 22) := by kernel_rfl
@[go_sem] theorem ck24 : cellK Try.prog 8 24 = [none, some 3] := by kernel_rfl
@[go_sem] theorem so24 : structOk Try.prog 24 = true := by kernel_rfl
@[go_sem] theorem by24 : Try.prog.bytesOf 24 = 32 := by kernel_rfl
@[go_sem] theorem zr24 : zeroAV Try.prog 24 = some (.agg [.i .i64 0, .nsl]) := by kernel_rfl
@[go_sem] theorem uk25 : ukOf Try.prog 25 = .func := by kernel_rfl
@[go_sem] theorem sz25 : szOf Try.prog 25 = 1 := by kernel_rfl
@[go_sem] theorem ck25 : cellK Try.prog 8 25 = [none] := by kernel_rfl
@[go_sem] theorem by25 : Try.prog.bytesOf 25 = 8 := by kernel_rfl
@[go_sem] theorem zr25 : zeroAV Try.prog 25 = some (.nilf) := by kernel_rfl
@[go_sem] theorem uk26 : ukOf Try.prog 26 = .func := by kernel_rfl
@[go_sem] theorem sz26 : szOf Try.prog 26 = 1 := by kernel_rfl
@[go_sem] theorem ck26 : cellK Try.prog 8 26 = [none] := by kernel_rfl
@[go_sem] theorem by26 : Try.prog.bytesOf 26 = 8 := by kernel_rfl
@[go_sem] theorem zr26 : zeroAV Try.prog 26 = some (.nilf) := by kernel_rfl
@[go_sem] theorem uk27 : ukOf Try.prog 27 = .int .i64 := by kernel_rfl
@[go_sem] theorem sz27 : szOf Try.prog 27 = 1 := by kernel_rfl
@[go_sem] theorem ck27 : cellK Try.prog 8 27 = [none] := by kernel_rfl
@[go_sem] theorem by27 : Try.prog.bytesOf 27 = 8 := by kernel_rfl
@[go_sem] theorem zr27 : zeroAV Try.prog 27 = some (.i .i64 0) := by kernel_rfl
@[go_sem] theorem uk28 : ukOf Try.prog 28 = .func := by kernel_rfl
@[go_sem] theorem sz28 : szOf Try.prog 28 = 1 := by kernel_rfl
@[go_sem] theorem ck28 : cellK Try.prog 8 28 = [none] := by kernel_rfl
@[go_sem] theorem by28 : Try.prog.bytesOf 28 = 8 := by kernel_rfl
@[go_sem] theorem zr28 : zeroAV Try.prog 28 = some (.nilf) := by kernel_rfl
@[go_sem] theorem uk29 : ukOf Try.prog 29 = .slice 3 := by kernel_rfl
@[go_sem] theorem sz29 : szOf Try.prog 29 = 1 := by kernel_rfl
@[go_sem] theorem ck29 : cellK Try.prog 8 29 = [some 1] := by kernel_rfl
@[go_sem] theorem by29 : Try.prog.bytesOf 29 = 24 := by kernel_rfl
@[go_sem] theorem zr29 : zeroAV Try.prog 29 = some (.nsl) := by kernel_rfl
@[go_sem] theorem uk31 : ukOf Try.prog 31 = .func := by kernel_rfl
@[go_sem] theorem sz31 : szOf Try.prog 31 = 1 := by kernel_rfl
@[go_sem] theorem ck31 : cellK Try.prog 8 31 = [none] := by kernel_rfl
@[go_sem] theorem by31 : Try.prog.bytesOf 31 = 8 := by kernel_rfl
@[go_sem] theorem zr31 : zeroAV Try.prog 31 = some (.nilf) := by kernel_rfl
@[go_sem] theorem uk33 : ukOf Try.prog 33 = .func := by kernel_rfl
@[go_sem] theorem sz33 : szOf Try.prog 33 = 1 := by kernel_rfl
@[go_sem] theorem ck33 : cellK Try.prog 8 33 = [none] := by kernel_rfl
@[go_sem] theorem by33 : Try.prog.bytesOf 33 = 8 := by kernel_rfl
@[go_sem] theorem zr33 : zeroAV Try.prog 33 = some (.nilf) := by kernel_rfl
@[go_sem] theorem uk35 : ukOf Try.prog 35 = .func := by kernel_rfl
@[go_sem] theorem sz35 : szOf Try.prog 35 = 1 := by kernel_rfl
@[go_sem] theorem ck35 : cellK Try.prog 8 35 = [none] := by kernel_rfl
@[go_sem] theorem by35 : Try.prog.bytesOf 35 = 8 := by kernel_rfl
@[go_sem] theorem zr35 : zeroAV Try.prog 35 = some (.nilf) := by kernel_rfl
@[go_sem] theorem uk36 : ukOf Try.prog 36 = .func := by kernel_rfl
@[go_sem] theorem sz36 : szOf Try.prog 36 = 1 := by kernel_rfl
@[go_sem] theorem ck36 : cellK Try.prog 8 36 = [none] := by kernel_rfl
@[go_sem] theorem by36 : Try.prog.bytesOf 36 = 8 := by kernel_rfl
@[go_sem] theorem zr36 : zeroAV Try.prog 36 = some (.nilf) := by kernel_rfl
@[go_sem] theorem uk38 : ukOf Try.prog 38 = .func := by kernel_rfl
@[go_sem] theorem sz38 : szOf Try.prog 38 = 1 := by kernel_rfl
@[go_sem] theorem ck38 : cellK Try.prog 8 38 = [none] := by kernel_rfl
@[go_sem] theorem by38 : Try.prog.bytesOf 38 = 8 := by kernel_rfl
@[go_sem] theorem zr38 : zeroAV Try.prog 38 = some (.nilf) := by kernel_rfl
@[go_sem] theorem uk39 : ukOf Try.prog 39 = .func := by kernel_rfl
@[go_sem] theorem sz39 : szOf Try.prog 39 = 1 := by kernel_rfl
@[go_sem] theorem ck39 : cellK Try.prog 8 39 = [none] := by kernel_rfl
@[go_sem] theorem by39 : Try.prog.bytesOf 39 = 8 := by kernel_rfl
@[go_sem] theorem zr39 : zeroAV Try.prog 39 = some (.nilf) := by kernel_rfl
@[go_sem] theorem uk40 : ukOf Try.prog 40 = .slice 29 := by kernel_rfl
@[go_sem] theorem sz40 : szOf Try.prog 40 = 1 := by kernel_rfl
@[go_sem] theorem ck40 : cellK Try.prog 8 40 = [some 1] := by kernel_rfl
@[go_sem] theorem by40 : Try.prog.bytesOf 40 = 24 := by kernel_rfl
@[go_sem] theorem zr40 : zeroAV Try.prog 40 = some (.nsl) := by kernel_rfl
@[go_sem] theorem uk41 : ukOf Try.prog 41 = .struct := by kernel_rfl
@[go_sem] theorem sz41 : szOf Try.prog 41 = 2 := by kernel_rfl
@[go_sem] theorem fd41_0 : fldOf Try.prog 41 0 = some (0, 3) := by kernel_rfl
@[go_sem] theorem fd41_1 : fldOf Try.prog 41 1 = some (1, 40) := by kernel_rfl
@[go_sem] theorem ck41 : cellK Try.prog 8 41 = [none, some 1] := by kernel_rfl
@[go_sem] theorem so41 : structOk Try.prog 41 = true := by kernel_rfl
@[go_sem] theorem by41 : Try.prog.bytesOf 41 = 32 := by kernel_rfl
@[go_sem] theorem zr41 : zeroAV Try.prog 41 = some (.agg [.i .i64 0, .nsl]) := by kernel_rfl
@[go_sem] theorem uk42 : ukOf Try.prog 42 = .struct := by kernel_rfl
@[go_sem] theorem sz42 : szOf Try.prog 42 = 2 := by kernel_rfl
@[go_sem] theorem fd42_0 : fldOf Try.prog 42 0 = some (0, 3) := by kernel_rfl
@[go_sem] theorem fd42_1 : fldOf Try.prog 42 1 = some (1, 40) := by kernel_rfl
@[go_sem] theorem ck42 : cellK Try.prog 8 42 = [none, some 1] := by kernel_rfl
@[go_sem] theorem so42 : structOk Try.prog 42 = true := by kernel_rfl
@[go_sem] theorem by42 : Try.prog.bytesOf 42 = 32 := by kernel_rfl
@[go_sem] theorem zr42 : zeroAV Try.prog 42 = some (.agg [.i .i64 0, .nsl]) := by kernel_rfl
@[go_sem] theorem uk43 : ukOf Try.prog 43 = .struct := by kernel_rfl
@[go_sem] theorem sz43 : szOf Try.prog 43 = 3 := by kernel_rfl
@[go_sem] theorem fd43_0 : fldOf Try.prog 43 0 = some (0, 29) := by kernel_rfl
@[go_sem] theorem fd43_1 : fldOf Try.prog 43 1 = some (1, 3) := by kernel_rfl
@[go_sem] theorem fd43_2 : fldOf Try.prog 43 2 = some (2, 29) := by kernel_rfl
@[go_sem] theorem ck43 : cellK Try.prog 8 43 = [some 1, none, some 1] := by kernel_rfl
@[go_sem] theorem so43 : structOk Try.prog 43 = true := by kernel_rfl
@[go_sem] theorem by43 : Try.prog.bytesOf 43 = 56 := by kernel_rfl
@[go_sem] theorem zr43 : zeroAV Try.prog 43 = some (.agg [.nsl, .i .i64 0, .nsl]) := by kernel_rfl
@[go_sem] theorem uk44 : ukOf Try.prog 44 = .struct := by kernel_rfl
@[go_sem] theorem sz44 : szOf Try.prog 44 = 3 := by kernel_rfl
@[go_sem] theorem fd44_0 : fldOf Try.prog 44 0 = some (0, 29) := by kernel_rfl
@[go_sem] theorem fd44_1 : fldOf Try.prog 44 1 = some (1, 3) := by kernel_rfl
@[go_sem] theorem fd44_2 : fldOf Try.prog 44 2 = some (2, 29) := by kernel_rfl
@[go_sem] theorem ck44 : cellK Try.prog 8 44 = [some 1, none, some 1] := by kernel_rfl
@[go_sem] theorem so44 : structOk Try.prog 44 = true := by kernel_rfl
@[go_sem] theorem by44 : Try.prog.bytesOf 44 = 56 := by kernel_rfl
@[go_sem] theorem zr44 : zeroAV Try.prog 44 = some (.agg [.nsl, .i .i64 0, .nsl]) := by kernel_rfl
@[go_sem] theorem uk45 : ukOf Try.prog 45 = .func := by kernel_rfl
@[go_sem] theorem sz45 : szOf Try.prog 45 = 1 := by kernel_rfl
@[go_sem] theorem ck45 : cellK Try.prog 8 45 = [none] := by kernel_rfl
@[go_sem] theorem by45 : Try.prog.bytesOf 45 = 8 := by kernel_rfl
@[go_sem] theorem zr45 : zeroAV Try.prog 45 = some (.nilf) := by kernel_rfl
@[go_sem] theorem uk46 : ukOf Try.prog 46 = .func := by kernel_rfl
@[go_sem] theorem sz46 : szOf Try.prog 46 = 1 := by kernel_rfl
@[go_sem] theorem ck46 : cellK Try.prog 8 46 = [none] := by kernel_rfl
@[go_sem] theorem by46 : Try.prog.bytesOf 46 = 8 := by kernel_rfl
@[go_sem] theorem zr46 : zeroAV Try.prog 46 = some (.nilf) := by kernel_rfl
@[go_sem] theorem uk47 : ukOf Try.prog 47 = .func := by kernel_rfl
@[go_sem] theorem sz47 : szOf Try.prog 47 = 1 := by kernel_rfl
@[go_sem] theorem ck47 : cellK Try.prog 8 47 = [none] := by kernel_rfl
@[go_sem] theorem by47 : Try.prog.bytesOf 47 = 8 := by kernel_rfl
@[go_sem] theorem zr47 : zeroAV Try.prog 47 = some (.nilf) := by kernel_rfl
@[go_sem] theorem uk48 : ukOf Try.prog 48 = .func := by kernel_rfl
@[go_sem] theorem sz48 : szOf Try.prog 48 = 1 := by kernel_rfl
@[go_sem] theorem ck48 : cellK Try.prog 8 48 = [none] := by kernel_rfl
@[go_sem] theorem by48 : Try.prog.bytesOf 48 = 8 := by kernel_rfl
@[go_sem] theorem zr48 : zeroAV Try.prog 48 = some (.nilf) := by kernel_rfl
@[go_sem] theorem uk49 : ukOf Try.prog 49 = .func := by kernel_rfl
@[go_sem] theorem sz49 : szOf Try.prog 49 = 1 := by kernel_rfl
@[go_sem] theorem ck49 : cellK Try.prog 8 49 = [none] := by kernel_rfl
@[go_sem] theorem by49 : Try.prog.bytesOf 49 = 8 := by kernel_rfl
@[go_sem] theorem zr49 : zeroAV Try.prog 49 = some (.nilf) := by kernel_rfl
@[go_sem] theorem uk50 : ukOf Try.prog 50 = .func := by kernel_rfl
@[go_sem] theorem sz50 : szOf Try.prog 50 = 1 := by kernel_rfl
@[go_sem] theorem ck50 : cellK Try.prog 8 50 = [none] := by kernel_rfl
@[go_sem] theorem by50 : Try.prog.bytesOf 50 = 8 := by kernel_rfl
@[go_sem] theorem zr50 : zeroAV Try.prog 50 = some (.nilf) := by kernel_rfl
@[go_sem] theorem uk51 : ukOf Try.prog 51 = .slice 4 := by kernel_rfl
@[go_sem] theorem sz51 : szOf Try.prog 51 = 1 := by kernel_rfl
@[go_sem] theorem ck51 : cellK Try.prog 8 51 = [some 1] := by kernel_rfl
@[go_sem] theorem by51 : Try.prog.bytesOf 51 = 24 := by kernel_rfl
@[go_sem] theorem zr51 : zeroAV Try.prog 51 = some (.nsl) := by kernel_rfl
@[go_sem] theorem uk53 : ukOf Try.prog 53 = .func := by kernel_rfl
@[go_sem] theorem sz53 : szOf Try.prog 53 = 1 := by kernel_rfl
@[go_sem] theorem ck53 : cellK Try.prog 8 53 = [none] := by kernel_rfl
@[go_sem] theorem by53 : Try.prog.bytesOf 53 = 8 := by kernel_rfl
@[go_sem] theorem zr53 : zeroAV Try.prog 53 = some (.nilf) := by kernel_rfl
@[go_sem] theorem uk55 : ukOf Try.prog 55 = .func := by kernel_rfl
@[go_sem] theorem sz55 : szOf Try.prog 55 = 1 := by kernel_rfl
@[go_sem] theorem ck55 : cellK Try.prog 8 55 = [none] := by kernel_rfl
@[go_sem] theorem by55 : Try.prog.bytesOf 55 = 8 := by kernel_rfl
@[go_sem] theorem zr55 : zeroAV Try.prog 55 = some (.nilf) := by kernel_rfl
@[go_sem] theorem uk56 : ukOf Try.prog 56 = .func := by kernel_rfl
@[go_sem] theorem sz56 : szOf Try.prog 56 = 1 := by kernel_rfl
@[go_sem] theorem ck56 : cellK Try.prog 8 56 = [none] := by kernel_rfl
@[go_sem] theorem by56 : Try.prog.bytesOf 56 = 8 := by kernel_rfl
@[go_sem] theorem zr56 : zeroAV Try.prog 56 = some (.nilf) := by kernel_rfl
@[go_sem] theorem uk57 : ukOf Try.prog 57 = .func := by kernel_rfl
@[go_sem] theorem sz57 : szOf Try.prog 57 = 1 := by kernel_rfl
@[go_sem] theorem ck57 : cellK Try.prog 8 57 = [none] := by kernel_rfl
@[go_sem] theorem by57 : Try.prog.bytesOf 57 = 8 := by kernel_rfl
@[go_sem] theorem zr57 : zeroAV Try.prog 57 = some (.nilf) := by kernel_rfl
@[go_sem] theorem uk58 : ukOf Try.prog 58 = .func := by kernel_rfl
@[go_sem] theorem sz58 : szOf Try.prog 58 = 1 := by kernel_rfl
@[go_sem] theorem ck58 : cellK Try.prog 8 58 = [none] := by kernel_rfl
@[go_sem] theorem by58 : Try.prog.bytesOf 58 = 8 := by kernel_rfl
@[go_sem] theorem zr58 : zeroAV Try.prog 58 = some (.nilf) := by kernel_rfl
@[go_sem] theorem uk59 : ukOf Try.prog 59 = .func := by kernel_rfl
@[go_sem] theorem sz59 : szOf Try.prog 59 = 1 := by kernel_rfl
@[go_sem] theorem ck59 : cellK Try.prog 8 59 = [none] := by kernel_rfl
@[go_sem] theorem by59 : Try.prog.bytesOf 59 = 8 := by kernel_rfl
@[go_sem] theorem zr59 : zeroAV Try.prog 59 = some (.nilf) := by kernel_rfl
@[go_sem] theorem uk60 : ukOf Try.prog 60 = .func := by kernel_rfl
@[go_sem] theorem sz60 : szOf Try.prog 60 = 1 := by kernel_rfl
@[go_sem] theorem ck60 : cellK Try.prog 8 60 = [none] := by kernel_rfl
@[go_sem] theorem by60 : Try.prog.bytesOf 60 = 8 := by kernel_rfl
@[go_sem] theorem zr60 : zeroAV Try.prog 60 = some (.nilf) := by kernel_rfl
@[go_sem] theorem uk61 : ukOf Try.prog 61 = .func := by kernel_rfl
@[go_sem] theorem sz61 : szOf Try.prog 61 = 1 := by kernel_rfl
@[go_sem] theorem ck61 : cellK Try.prog 8 61 = [none] := by kernel_rfl
@[go_sem] theorem by61 : Try.prog.bytesOf 61 = 8 := by kernel_rfl
@[go_sem] theorem zr61 : zeroAV Try.prog 61 = some (.nilf) := by kernel_rfl
@[go_sem] theorem uk62 : ukOf Try.prog 62 = .func := by kernel_rfl
@[go_sem] theorem sz62 : szOf Try.prog 62 = 1 := by kernel_rfl
@[go_sem] theorem ck62 : cellK Try.prog 8 62 = [none] := by kernel_rfl
@[go_sem] theorem by62 : Try.prog.bytesOf 62 = 8 := by kernel_rfl
@[go_sem] theorem zr62 : zeroAV Try.prog 62 = some (.nilf) := by kernel_rfl
@[go_sem] theorem uk63 : ukOf Try.prog 63 = .struct := by kernel_rfl
@[go_sem] theorem sz63 : szOf Try.prog 63 = 3 := by kernel_rfl
@[go_sem] theorem fd63_0 : fldOf Try.prog 63 0 = some (0, 9) := by kernel_rfl
@[go_sem] theorem fd63_1 : fldOf Try.prog 63 1 = some (1, 3) := by kernel_rfl
@[go_sem] theorem fd63_2 : fldOf Try.prog 63 2 = some (2, 40) := by kernel_rfl
@[go_sem] theorem ck63 : cellK Try.prog 8 63 = [none, none, some 1] := by kernel_rfl
@[go_sem] theorem so63 : structOk Try.prog 63 = true := by kernel_rfl
@[go_sem] theorem by63 : Try.prog.bytesOf 63 = 48 := by kernel_rfl
@[go_sem] theorem zr63 : zeroAV Try.prog 63 = some (.agg [.s ByteArray.empty, .i .i64 0, .nsl]) := by kernel_rfl
@[go_sem] theorem uk64 : ukOf Try.prog 64 = .struct := by kernel_rfl
@[go_sem] theorem sz64 : szOf Try.prog 64 = 3 := by kernel_rfl
@[go_sem] theorem fd64_0 : fldOf Try.prog 64 0 = some (0, 9) := by kernel_rfl
@[go_sem] theorem fd64_1 : fldOf Try.prog 64 1 = some (1, 3) := by kernel_rfl
@[go_sem] theorem fd64_2 : fldOf Try.prog 64 2 = some (2, 40) := by kernel_rfl
@[go_sem] theorem ck64 : cellK Try.prog 8 64 = [none, none, some 1] := by kernel_rfl
@[go_sem] theorem so64 : structOk Try.prog 64 = true := by kernel_rfl
@[go_sem] theorem by64 : Try.prog.bytesOf 64 = 48 := by kernel_rfl
@[go_sem] theorem zr64 : zeroAV Try.prog 64 = some (.agg [.s ByteArray.empty, .i .i64 0, .nsl]) := by kernel_rfl
@[go_sem] theorem uk65 : ukOf Try.prog 65 = .func := by kernel_rfl
@[go_sem] theorem sz65 : szOf Try.prog 65 = 1 := by kernel_rfl
@[go_sem] theorem ck65 : cellK Try.prog 8 65 = [none] := by kernel_rfl
@[go_sem] theorem by65 : Try.prog.bytesOf 65 = 8 := by kernel_rfl
@[go_sem] theorem zr65 : zeroAV Try.prog 65 = some (.nilf) := by kernel_rfl
@[go_sem] theorem uk66 : ukOf Try.prog 66 = .func := by kernel_rfl
@[go_sem] theorem sz66 : szOf Try.prog 66 = 1 := by kernel_rfl
@[go_sem] theorem ck66 : cellK Try.prog 8 66 = [none] := by kernel_rfl
@[go_sem] theorem by66 : Try.prog.bytesOf 66 = 8 := by kernel_rfl
@[go_sem] theorem zr66 : zeroAV Try.prog 66 = some (.nilf) := by kernel_rfl
@[go_sem] theorem uk67 : ukOf Try.prog 67 = .struct := by kernel_rfl
@[go_sem] theorem sz67 : szOf Try.prog 67 = 2 := by kernel_rfl
@[go_sem] theorem fd67_0 : fldOf Try.prog 67 0 = some (0, 9) := by kernel_rfl
@[go_sem] theorem fd67_1 : fldOf Try.prog 67 1 = some (1, 3) := by kernel_rfl
@[go_sem] theorem ck67 : cellK Try.prog 8 67 = [none, none] := by kernel_rfl
@[go_sem] theorem so67 : structOk Try.prog 67 = true := by kernel_rfl
@[go_sem] theorem by67 : Try.prog.bytesOf 67 = 24 := by kernel_rfl
@[go_sem] theorem zr67 : zeroAV Try.prog 67 = some (.agg [.s ByteArray.empty, .i .i64 0]) := by kernel_rfl
@[go_sem] theorem uk68 : ukOf Try.prog 68 = .struct := by kernel_rfl
@[go_sem] theorem sz68 : szOf Try.prog 68 = 2 := by kernel_rfl
@[go_sem] theorem fd68_0 : fldOf Try.prog 68 0 = some (0, 9) := by kernel_rfl
@[go_sem] theorem fd68_1 : fldOf Try.prog 68 1 = some (1, 3) := by kernel_rfl
@[go_sem] theorem ck68 : cellK Try.prog 8 68 = [none, none] := by kernel_rfl
@[go_sem] theorem so68 : structOk Try.prog 68 = true := by kernel_rfl
@[go_sem] theorem by68 : Try.prog.bytesOf 68 = 24 := by kernel_rfl
@[go_sem] theorem zr68 : zeroAV Try.prog 68 = some (.agg [.s ByteArray.empty, .i .i64 0]) := by kernel_rfl
@[go_sem] theorem uk69 : ukOf Try.prog 69 = .struct := by kernel_rfl
@[go_sem] theorem sz69 : szOf Try.prog 69 = 2 := by kernel_rfl
@[go_sem] theorem fd69_0 : fldOf Try.prog 69 0 = some (0, 40) := by kernel_rfl
@[go_sem] theorem fd69_1 : fldOf Try.prog 69 1 = some (1, 51) := by kernel_rfl
@[go_sem] theorem ck69 : cellK Try.prog 8 69 = [some 1, some 1] := by kernel_rfl
@[go_sem] theorem so69 : structOk Try.prog 69 = true := by kernel_rfl
@[go_sem] theorem by69 : Try.prog.bytesOf 69 = 48 := by kernel_rfl
@[go_sem] theorem zr69 : zeroAV Try.prog 69 = some (.agg [.nsl, .nsl]) := by kernel_rfl
@[go_sem] theorem uk70 : ukOf Try.prog 70 = .struct := by kernel_rfl
@[go_sem] theorem sz70 : szOf Try.prog 70 = 2 := by kernel_rfl
@[go_sem] theorem fd70_0 : fldOf Try.prog 70 0 = some (0, 40) := by kernel_rfl
@[go_sem] theorem fd70_1 : fldOf Try.prog 70 1 = some (1, 51) := by kernel_rfl
@[go_sem] theorem ck70 : cellK Try.prog 8 70 = [some 1, some 1] := by kernel_rfl
@[go_sem] theorem so70 : structOk Try.prog 70 = true := by kernel_rfl
@[go_sem] theorem by70 : Try.prog.bytesOf 70 = 48 := by kernel_rfl
@[go_sem] theorem zr70 : zeroAV Try.prog 70 = some (.agg [.nsl, .nsl]) := by kernel_rfl
@[go_sem] theorem uk72 : ukOf Try.prog 72 = .func := by kernel_rfl
@[go_sem] theorem sz72 : szOf Try.prog 72 = 1 := by kernel_rfl
@[go_sem] theorem ck72 : cellK Try.prog 8 72 = [none] := by kernel_rfl
@[go_sem] theorem by72 : Try.prog.bytesOf 72 = 8 := by kernel_rfl
@[go_sem] theorem zr72 : zeroAV Try.prog 72 = some (.nilf) := by kernel_rfl
@[go_sem] theorem uk73 : ukOf Try.prog 73 = .func := by kernel_rfl
@[go_sem] theorem sz73 : szOf Try.prog 73 = 1 := by kernel_rfl
@[go_sem] theorem ck73 : cellK Try.prog 8 73 = [none] := by kernel_rfl
@[go_sem] theorem by73 : Try.prog.bytesOf 73 = 8 := by kernel_rfl
@[go_sem] theorem zr73 : zeroAV Try.prog 73 = some (.nilf) := by kernel_rfl
@[go_sem] theorem uk74 : ukOf Try.prog 74 = .func := by kernel_rfl
@[go_sem] theorem sz74 : szOf Try.prog 74 = 1 := by kernel_rfl
@[go_sem] theorem ck74 : cellK Try.prog 8 74 = [none] := by kernel_rfl
@[go_sem] theorem by74 : Try.prog.bytesOf 74 = 8 := by kernel_rfl
@[go_sem] theorem zr74 : zeroAV Try.prog 74 = some (.nilf) := by kernel_rfl
@[go_sem] theorem uk75 : ukOf Try.prog 75 = .func := by kernel_rfl
@[go_sem] theorem sz75 : szOf Try.prog 75 = 1 := by kernel_rfl
@[go_sem] theorem ck75 : cellK Try.prog 8 75 = [none] := by kernel_rfl
@[go_sem] theorem by75 : Try.prog.bytesOf 75 = 8 := by kernel_rfl
@[go_sem] theorem zr75 : zeroAV Try.prog 75 = some (.nilf) := by kernel_rfl
@[go_sem] theorem uk76 : ukOf Try.prog 76 = .func := by kernel_rfl
@[go_sem] theorem sz76 : szOf Try.prog 76 = 1 := by kernel_rfl
@[go_sem] theorem ck76 : cellK Try.prog 8 76 = [none] := by kernel_rfl
@[go_sem] theorem by76 : Try.prog.bytesOf 76 = 8 := by kernel_rfl
@[go_sem] theorem zr76 : zeroAV Try.prog 76 = some (.nilf) := by kernel_rfl
@[go_sem] theorem uk77 : ukOf Try.prog 77 = .func := by kernel_rfl
@[go_sem] theorem sz77 : szOf Try.prog 77 = 1 := by kernel_rfl
@[go_sem] theorem ck77 : cellK Try.prog 8 77 = [none] := by kernel_rfl
@[go_sem] theorem by77 : Try.prog.bytesOf 77 = 8 := by kernel_rfl
@[go_sem] theorem zr77 : zeroAV Try.prog 77 = some (.nilf) := by kernel_rfl
@[go_sem] theorem uk78 : ukOf Try.prog 78 = .slice 51 := by kernel_rfl
@[go_sem] theorem sz78 : szOf Try.prog 78 = 1 := by kernel_rfl
@[go_sem] theorem ck78 : cellK Try.prog 8 78 = [some 1] := by kernel_rfl
@[go_sem] theorem by78 : Try.prog.bytesOf 78 = 24 := by kernel_rfl
@[go_sem] theorem zr78 : zeroAV Try.prog 78 = some (.nsl) := by kernel_rfl
@[go_sem] theorem uk79 : ukOf Try.prog 79 = .func := by kernel_rfl
@[go_sem] theorem sz79 : szOf Try.prog 79 = 1 := by kernel_rfl
@[go_sem] theorem ck79 : cellK Try.prog 8 79 = [none] := by kernel_rfl
@[go_sem] theorem by79 : Try.prog.bytesOf 79 = 8 := by kernel_rfl
@[go_sem] theorem zr79 : zeroAV Try.prog 79 = some (.nilf) := by kernel_rfl
@[go_sem] theorem uk80 : ukOf Try.prog 80 = .func := by kernel_rfl
@[go_sem] theorem sz80 : szOf Try.prog 80 = 1 := by kernel_rfl
@[go_sem] theorem ck80 : cellK Try.prog 8 80 = [none] := by kernel_rfl
@[go_sem] theorem by80 : Try.prog.bytesOf 80 = 8 := by kernel_rfl
@[go_sem] theorem zr80 : zeroAV Try.prog 80 = some (.nilf) := by kernel_rfl
@[go_sem] theorem uk81 : ukOf Try.prog 81 = .func := by kernel_rfl
@[go_sem] theorem sz81 : szOf Try.prog 81 = 1 := by kernel_rfl
@[go_sem] theorem ck81 : cellK Try.prog 8 81 = [none] := by kernel_rfl
@[go_sem] theorem by81 : Try.prog.bytesOf 81 = 8 := by kernel_rfl
@[go_sem] theorem zr81 : zeroAV Try.prog 81 = some (.nilf) := by kernel_rfl
@[go_sem] theorem uk82 : ukOf Try.prog 82 = .func := by kernel_rfl
@[go_sem] theorem sz82 : szOf Try.prog 82 = 1 := by kernel_rfl
@[go_sem] theorem ck82 : cellK Try.prog 8 82 = [none] := by kernel_rfl
@[go_sem] theorem by82 : Try.prog.bytesOf 82 = 8 := by kernel_rfl
@[go_sem] theorem zr82 : zeroAV Try.prog 82 = some (.nilf) := by kernel_rfl
@[go_sem] theorem uk83 : ukOf Try.prog 83 = .func := by kernel_rfl
@[go_sem] theorem sz83 : szOf Try.prog 83 = 1 := by kernel_rfl
@[go_sem] theorem ck83 : cellK Try.prog 8 83 = [none] := by kernel_rfl
@[go_sem] theorem by83 : Try.prog.bytesOf 83 = 8 := by kernel_rfl
@[go_sem] theorem zr83 : zeroAV Try.prog 83 = some (.nilf) := by kernel_rfl
@[go_sem] theorem uk84 : ukOf Try.prog 84 = .ptr 89 := by kernel_rfl
@[go_sem] theorem sz84 : szOf Try.prog 84 = 1 := by kernel_rfl
@[go_sem] theorem ck84 : cellK Try.prog 8 84 = [none] := by kernel_rfl
@[go_sem] theorem by84 : Try.prog.bytesOf 84 = 8 := by kernel_rfl
@[go_sem] theorem zr84 : zeroAV Try.prog 84 = some (.nilp) := by kernel_rfl
@[go_sem] theorem uk86 : ukOf Try.prog 86 = .func := by kernel_rfl
@[go_sem] theorem sz86 : szOf Try.prog 86 = 1 := by kernel_rfl
@[go_sem] theorem ck86 : cellK Try.prog 8 86 = [none] := by kernel_rfl
@[go_sem] theorem by86 : Try.prog.bytesOf 86 = 8 := by kernel_rfl
@[go_sem] theorem zr86 : zeroAV Try.prog 86 = some (.nilf) := by kernel_rfl
@[go_sem] theorem uk87 : ukOf Try.prog 87 = .map 3 29 := by kernel_rfl
@[go_sem] theorem sz87 : szOf Try.prog 87 = 1 := by kernel_rfl
@[go_sem] theorem ck87 : cellK Try.prog 8 87 = [none] := by kernel_rfl
@[go_sem] theorem by87 : Try.prog.bytesOf 87 = 8 := by kernel_rfl
@[go_sem] theorem zr87 : zeroAV Try.prog 87 = some (.nilm) := by kernel_rfl
@[go_sem] theorem uk88 : ukOf Try.prog 88 = .struct := by kernel_rfl
@[go_sem] theorem sz88 : szOf Try.prog 88 = 13 := by kernel_rfl
@[go_sem] theorem fd88_0 : fldOf Try.prog 88 0 = some (0, 42) := by kernel_rfl
@[go_sem] theorem fd88_1 : fldOf Try.prog 88 1 = some (2, 87) := by kernel_rfl
@[go_sem] theorem fd88_2 : fldOf Try.prog 88 2 = some (3, 29) := by kernel_rfl
@[go_sem] theorem fd88_3 : fldOf Try.prog 88 3 = some (4, 29) := by kernel_rfl
@[go_sem] theorem fd88_4 : fldOf Try.prog 88 4 = some (5, 3) := by kernel_rfl
@[go_sem] theorem fd88_5 : fldOf Try.prog 88 5 = some (6, 29) := by kernel_rfl
@[go_sem] theorem fd88_6 : fldOf Try.prog 88 6 = some (7, 29) := by kernel_rfl
@[go_sem] theorem fd88_7 : fldOf Try.prog 88 7 = some (8, 3) := by kernel_rfl
@[go_sem] theorem fd88_8 : fldOf Try.prog 88 8 = some (9, 4) := by kernel_rfl
@[go_sem] theorem fd88_9 : fldOf Try.prog 88 9 = some (10, 51) := by kernel_rfl
@[go_sem] theorem fd88_10 : fldOf Try.prog 88 10 = some (11, 3) := by kernel_rfl
@[go_sem] theorem fd88_11 : fldOf Try.prog 88 11 = some (12, 4) := by kernel_rfl
@[go_sem] theorem ck88 : cellK Try.prog 8 88 = [none, some 1, none, some 1, some 1, none, some 1, some 1, none, none, some 1, none, none] := by kernel_rfl
@[go_sem] theorem so88 : structOk Try.prog 88 = true := by kernel_rfl
@[go_sem] theorem by88 : Try.prog.bytesOf 88 = 200 := by kernel_rfl
@[go_sem] theorem zr88 : zeroAV Try.prog 88 = some (.agg [.i .i64 0, .nsl, .nilm, .nsl, .nsl, .i .i64 0, .nsl, .nsl, .i .i64 0, .b false, .nsl, .i .i64 0, .b false]) := by kernel_rfl
@[go_sem] theorem uk89 : ukOf Try.prog 89 = .struct := by kernel_rfl
@[go_sem] theorem sz89 : szOf Try.prog 89 = 13 := by kernel_rfl
@[go_sem] theorem fd89_0 : fldOf Try.prog 89 0 = some (0, 42) := by kernel_rfl
@[go_sem] theorem fd89_1 : fldOf Try.prog 89 1 = some (2, 87) := by kernel_rfl
@[go_sem] theorem fd89_2 : fldOf Try.prog 89 2 = some (3, 29) := by kernel_rfl
@[go_sem] theorem fd89_3 : fldOf Try.prog 89 3 = some (4, 29) := by kernel_rfl
@[go_sem] theorem fd89_4 : fldOf Try.prog 89 4 = some (5, 3) := by kernel_rfl
@[go_sem] theorem fd89_5 : fldOf Try.prog 89 5 = some (6, 29) := by kernel_rfl
@[go_sem] theorem fd89_6 : fldOf Try.prog 89 6 = some (7, 29) := by kernel_rfl
@[go_sem] theorem fd89_7 : fldOf Try.prog 89 7 = some (8, 3) := by kernel_rfl
@[go_sem] theorem fd89_8 : fldOf Try.prog 89 8 = some (9, 4) := by kernel_rfl
@[go_sem] theorem fd89_9 : fldOf Try.prog 89 9 = some (10, 51) := by kernel_rfl
@[go_sem] theorem fd89_10 : fldOf Try.prog 89 10 = some (11, 3) := by kernel_rfl
@[go_sem] theorem fd89_11 : fldOf Try.prog 89 11 = some (12, 4) := by kernel_rfl
@[go_sem] theorem ck89 : cellK Try.prog 8 89 = [none, some 1, none, some 1, some 1, none, some 1, some 1, none, none, some 1, none, none] := by kernel_rfl
@[go_sem] theorem so89 : structOk Try.prog 89 = true := by kernel_rfl
@[go_sem] theorem by89 : Try.prog.bytesOf 89 = 200 := by kernel_rfl
@[go_sem] theorem zr89 : zeroAV Try.prog 89 = some (.agg [.i .i64 0, .nsl, .nilm, .nsl, .nsl, .i .i64 0, .nsl, .nsl, .i .i64 0, .b false, .nsl, .i .i64 0, .b false]) := by kernel_rfl
@[go_sem] theorem uk90 : ukOf Try.prog 90 = .ptr 92 := by kernel_rfl
@[go_sem] theorem sz90 : szOf Try.prog 90 = 1 := by kernel_rfl
@[go_sem] theorem ck90 : cellK Try.prog 8 90 = [none] := by kernel_rfl
@[go_sem] theorem by90 : Try.prog.bytesOf 90 = 8 := by kernel_rfl
@[go_sem] theorem zr90 : zeroAV Try.prog 90 = some (.nilp) := by kernel_rfl
@[go_sem] theorem uk91 : ukOf Try.prog 91 = .struct := by kernel_rfl
@[go_sem] theorem sz91 : szOf Try.prog 91 = 3 := by kernel_rfl
@[go_sem] theorem fd91_0 : fldOf Try.prog 91 0 = some (0, 40) := by kernel_rfl
@[go_sem] theorem fd91_1 : fldOf Try.prog 91 1 = some (1, 29) := by kernel_rfl
@[go_sem] theorem fd91_2 : fldOf Try.prog 91 2 = some (2, 3) := by kernel_rfl
@[go_sem] theorem ck91 : cellK Try.prog 8 91 = [some 1, some 1, none] := by kernel_rfl
@[go_sem] theorem so91 : structOk Try.prog 91 = true := by kernel_rfl
@[go_sem] theorem by91 : Try.prog.bytesOf 91 = 56 := by kernel_rfl
@[go_sem] theorem zr91 : zeroAV Try.prog 91 = some (.agg [.nsl, .nsl, .i .i64 0]) := by kernel_rfl
@[go_sem] theorem uk92 : ukOf Try.prog 92 = .struct := by kernel_rfl
@[go_sem] theorem sz92 : szOf Try.prog 92 = 3 := by kernel_rfl
@[go_sem] theorem fd92_0 : fldOf Try.prog 92 0 = some (0, 40) := by kernel_rfl
@[go_sem] theorem fd92_1 : fldOf Try.prog 92 1 = some (1, 29) := by kernel_rfl
@[go_sem] theorem fd92_2 : fldOf Try.prog 92 2 = some (2, 3) := by kernel_rfl
@[go_sem] theorem ck92 : cellK Try.prog 8 92 = [some 1, some 1, none] := by kernel_rfl
@[go_sem] theorem so92 : structOk Try.prog 92 = true := by kernel_rfl
@[go_sem] theorem by92 : Try.prog.bytesOf 92 = 56 := by kernel_rfl
@[go_sem] theorem zr92 : zeroAV Try.prog 92 = some (.agg [.nsl, .nsl, .i .i64 0]) := by kernel_rfl
@[go_sem] theorem uk93 : ukOf Try.prog 93 = .func := by kernel_rfl
@[go_sem] theorem sz93 : szOf Try.prog 93 = 1 := by kernel_rfl
@[go_sem] theorem ck93 : cellK Try.prog 8 93 = [none] := by kernel_rfl
@[go_sem] theorem by93 : Try.prog.bytesOf 93 = 8 := by kernel_rfl
@[go_sem] theorem zr93 : zeroAV Try.prog 93 = some (.nilf) := by kernel_rfl
@[go_sem] theorem uk95 : ukOf Try.prog 95 = .func := by kernel_rfl
@[go_sem] theorem sz95 : szOf Try.prog 95 = 1 := by kernel_rfl
@[go_sem] theorem ck95 : cellK Try.prog 8 95 = [none] := by kernel_rfl
@[go_sem] theorem by95 : Try.prog.bytesOf 95 = 8 := by kernel_rfl
@[go_sem] theorem zr95 : zeroAV Try.prog 95 = some (.nilf) := by kernel_rfl
@[go_sem] theorem uk96 : ukOf Try.prog 96 = .func := by kernel_rfl
@[go_sem] theorem sz96 : szOf Try.prog 96 = 1 := by kernel_rfl
@[go_sem] theorem ck96 : cellK Try.prog 8 96 = [none] := by kernel_rfl
@[go_sem] theorem by96 : Try.prog.bytesOf 96 = 8 := by kernel_rfl
@[go_sem] theorem zr96 : zeroAV Try.prog 96 = some (.nilf) := by kernel_rfl
@[go_sem] theorem uk97 : ukOf Try.prog 97 = .func := by kernel_rfl
@[go_sem] theorem sz97 : szOf Try.prog 97 = 1 := by kernel_rfl
@[go_sem] theorem ck97 : cellK Try.prog 8 97 = [none] := by kernel_rfl
@[go_sem] theorem by97 : Try.prog.bytesOf 97 = 8 := by kernel_rfl
@[go_sem] theorem zr97 : zeroAV Try.prog 97 = some (.nilf) := by kernel_rfl
@[go_sem] theorem uk98 : ukOf Try.prog 98 = .func := by kernel_rfl
@[go_sem] theorem sz98 : szOf Try.prog 98 = 1 := by kernel_rfl
@[go_sem] theorem ck98 : cellK Try.prog 8 98 = [none] := by kernel_rfl
@[go_sem] theorem by98 : Try.prog.bytesOf 98 = 8 := by kernel_rfl
@[go_sem] theorem zr98 : zeroAV Try.prog 98 = some (.nilf) := by kernel_rfl
@[go_sem] theorem uk99 : ukOf Try.prog 99 = .slice 68 := by kernel_rfl
@[go_sem] theorem sz99 : szOf Try.prog 99 = 1 := by kernel_rfl
@[go_sem] theorem ck99 : cellK Try.prog 8 99 = [some 2] := by kernel_rfl
@[go_sem] theorem by99 : Try.prog.bytesOf 99 = 24 := by kernel_rfl
@[go_sem] theorem zr99 : zeroAV Try.prog 99 = some (.nsl) := by kernel_rfl
@[go_sem] theorem uk100 : ukOf Try.prog 100 = .func := by kernel_rfl
@[go_sem] theorem sz100 : szOf Try.prog 100 = 1 := by kernel_rfl
@[go_sem] theorem ck100 : cellK Try.prog 8 100 = [none] := by kernel_rfl
@[go_sem] theorem by100 : Try.prog.bytesOf 100 = 8 := by kernel_rfl
@[go_sem] theorem zr100 : zeroAV Try.prog 100 = some (.nilf) := by kernel_rfl
@[go_sem] theorem uk101 : ukOf Try.prog 101 = .func := by kernel_rfl
@[go_sem] theorem sz101 : szOf Try.prog 101 = 1 := by kernel_rfl
@[go_sem] theorem ck101 : cellK Try.prog 8 101 = [none] := by kernel_rfl
@[go_sem] theorem by101 : Try.prog.bytesOf 101 = 8 := by kernel_rfl
@[go_sem] theorem zr101 : zeroAV Try.prog 101 = some (.nilf) := by kernel_rfl
@[go_sem] theorem uk102 : ukOf Try.prog 102 = .func := by kernel_rfl
@[go_sem] theorem sz102 : szOf Try.prog 102 = 1 := by kernel_rfl
@[go_sem] theorem ck102 : cellK Try.prog 8 102 = [none] := by kernel_rfl
@[go_sem] theorem by102 : Try.prog.bytesOf 102 = 8 := by kernel_rfl
@[go_sem] theorem zr102 : zeroAV Try.prog 102 = some (.nilf) := by kernel_rfl
@[go_sem] theorem uk104 : ukOf Try.prog 104 = .func := by kernel_rfl
@[go_sem] theorem sz104 : szOf Try.prog 104 = 1 := by kernel_rfl
@[go_sem] theorem ck104 : cellK Try.prog 8 104 = [none] := by kernel_rfl
@[go_sem] theorem by104 : Try.prog.bytesOf 104 = 8 := by kernel_rfl
@[go_sem] theorem zr104 : zeroAV Try.prog 104 = some (.nilf) := by kernel_rfl
@[go_sem] theorem uk105 : ukOf Try.prog 105 = .func := by kernel_rfl
@[go_sem] theorem sz105 : szOf Try.prog 105 = 1 := by kernel_rfl
@[go_sem] theorem ck105 : cellK Try.prog 8 105 = [none] := by kernel_rfl
@[go_sem] theorem by105 : Try.prog.bytesOf 105 = 8 := by kernel_rfl
@[go_sem] theorem zr105 : zeroAV Try.prog 105 = some (.nilf) := by kernel_rfl
@[go_sem] theorem uk106 : ukOf Try.prog 106 = .func := by kernel_rfl
@[go_sem] theorem sz106 : szOf Try.prog 106 = 1 := by kernel_rfl
@[go_sem] theorem ck106 : cellK Try.prog 8 106 = [none] := by kernel_rfl
@[go_sem] theorem by106 : Try.prog.bytesOf 106 = 8 := by kernel_rfl
@[go_sem] theorem zr106 : zeroAV Try.prog 106 = some (.nilf) := by kernel_rfl
@[go_sem] theorem uk107 : ukOf Try.prog 107 = .func := by kernel_rfl
@[go_sem] theorem sz107 : szOf Try.prog 107 = 1 := by kernel_rfl
@[go_sem] theorem ck107 : cellK Try.prog 8 107 = [none] := by kernel_rfl
@[go_sem] theorem by107 : Try.prog.bytesOf 107 = 8 := by kernel_rfl
@[go_sem] theorem zr107 : zeroAV Try.prog 107 = some (.nilf) := by kernel_rfl
@[go_sem] theorem uk108 : ukOf Try.prog 108 = .func := by kernel_rfl
@[go_sem] theorem sz108 : szOf Try.prog 108 = 1 := by kernel_rfl
@[go_sem] theorem ck108 : cellK Try.prog 8 108 = [none] := by kernel_rfl
@[go_sem] theorem by108 : Try.prog.bytesOf 108 = 8 := by kernel_rfl
@[go_sem] theorem zr108 : zeroAV Try.prog 108 = some (.nilf) := by kernel_rfl
@[go_sem] theorem uk109 : ukOf Try.prog 109 = .func := by kernel_rfl
@[go_sem] theorem sz109 : szOf Try.prog 109 = 1 := by kernel_rfl
@[go_sem] theorem ck109 : cellK Try.prog 8 109 = [none] := by kernel_rfl
@[go_sem] theorem by109 : Try.prog.bytesOf 109 = 8 := by kernel_rfl
@[go_sem] theorem zr109 : zeroAV Try.prog 109 = some (.nilf) := by kernel_rfl
@[go_sem] theorem uk110 : ukOf Try.prog 110 = .func := by kernel_rfl
@[go_sem] theorem sz110 : szOf Try.prog 110 = 1 := by kernel_rfl
@[go_sem] theorem ck110 : cellK Try.prog 8 110 = [none] := by kernel_rfl
@[go_sem] theorem by110 : Try.prog.bytesOf 110 = 8 := by kernel_rfl
@[go_sem] theorem zr110 : zeroAV Try.prog 110 = some (.nilf) := by kernel_rfl
@[go_sem] theorem uk111 : ukOf Try.prog 111 = .func := by kernel_rfl
@[go_sem] theorem sz111 : szOf Try.prog 111 = 1 := by kernel_rfl
@[go_sem] theorem ck111 : cellK Try.prog 8 111 = [none] := by kernel_rfl
@[go_sem] theorem by111 : Try.prog.bytesOf 111 = 8 := by kernel_rfl
@[go_sem] theorem zr111 : zeroAV Try.prog 111 = some (.nilf) := by kernel_rfl
@[go_sem] theorem uk112 : ukOf Try.prog 112 = .func := by kernel_rfl
@[go_sem] theorem sz112 : szOf Try.prog 112 = 1 := by kernel_rfl
@[go_sem] theorem ck112 : cellK Try.prog 8 112 = [none] := by kernel_rfl
@[go_sem] theorem by112 : Try.prog.bytesOf 112 = 8 := by kernel_rfl
@[go_sem] theorem zr112 : zeroAV Try.prog 112 = some (.nilf) := by kernel_rfl
@[go_sem] theorem uk113 : ukOf Try.prog 113 = .func := by kernel_rfl
@[go_sem] theorem sz113 : szOf Try.prog 113 = 1 := by kernel_rfl
@[go_sem] theorem ck113 : cellK Try.prog 8 113 = [none] := by kernel_rfl
@[go_sem] theorem by113 : Try.prog.bytesOf 113 = 8 := by kernel_rfl
@[go_sem] theorem zr113 : zeroAV Try.prog 113 = some (.nilf) := by kernel_rfl
@[go_sem] theorem uk114 : ukOf Try.prog 114 = .func := by kernel_rfl
@[go_sem] theorem sz114 : szOf Try.prog 114 = 1 := by kernel_rfl
@[go_sem] theorem ck114 : cellK Try.prog 8 114 = [none] := by kernel_rfl
@[go_sem] theorem by114 : Try.prog.bytesOf 114 = 8 := by kernel_rfl
@[go_sem] theorem zr114 : zeroAV Try.prog 114 = some (.nilf) := by kernel_rfl
@[go_sem] theorem uk115 : ukOf Try.prog 115 = .func := by kernel_rfl
@[go_sem] theorem sz115 : szOf Try.prog 115 = 1 := by kernel_rfl
@[go_sem] theorem ck115 : cellK Try.prog 8 115 = [none] := by kernel_rfl
@[go_sem] theorem by115 : Try.prog.bytesOf 115 = 8 := by kernel_rfl
@[go_sem] theorem zr115 : zeroAV Try.prog 115 = some (.nilf) := by kernel_rfl
@[go_sem] theorem uk116 : ukOf Try.prog 116 = .func := by kernel_rfl
@[go_sem] theorem sz116 : szOf Try.prog 116 = 1 := by kernel_rfl
@[go_sem] theorem ck116 : cellK Try.prog 8 116 = [none] := by kernel_rfl
@[go_sem] theorem by116 : Try.prog.bytesOf 116 = 8 := by kernel_rfl
@[go_sem] theorem zr116 : zeroAV Try.prog 116 = some (.nilf) := by kernel_rfl
@[go_sem] theorem uk117 : ukOf Try.prog 117 = .func := by kernel_rfl
@[go_sem] theorem sz117 : szOf Try.prog 117 = 1 := by kernel_rfl
@[go_sem] theorem ck117 : cellK Try.prog 8 117 = [none] := by kernel_rfl
@[go_sem] theorem by117 : Try.prog.bytesOf 117 = 8 := by kernel_rfl
@[go_sem] theorem zr117 : zeroAV Try.prog 117 = some (.nilf) := by kernel_rfl
@[go_sem] theorem uk118 : ukOf Try.prog 118 = .func := by kernel_rfl
@[go_sem] theorem sz118 : szOf Try.prog 118 = 1 := by kernel_rfl
@[go_sem] theorem ck118 : cellK Try.prog 8 118 = [none] := by kernel_rfl
@[go_sem] theorem by118 : Try.prog.bytesOf 118 = 8 := by kernel_rfl
@[go_sem] theorem zr118 : zeroAV Try.prog 118 = some (.nilf) := by kernel_rfl
@[go_sem] theorem uk119 : ukOf Try.prog 119 = .func := by kernel_rfl
@[go_sem] theorem sz119 : szOf Try.prog 119 = 1 := by kernel_rfl
@[go_sem] theorem ck119 : cellK Try.prog 8 119 = [none] := by kernel_rfl
@[go_sem] theorem by119 : Try.prog.bytesOf 119 = 8 := by kernel_rfl
@[go_sem] theorem zr119 : zeroAV Try.prog 119 = some (.nilf) := by kernel_rfl
@[go_sem] theorem uk120 : ukOf Try.prog 120 = .func := by kernel_rfl
@[go_sem] theorem sz120 : szOf Try.prog 120 = 1 := by kernel_rfl
@[go_sem] theorem ck120 : cellK Try.prog 8 120 = [none] := by kernel_rfl
@[go_sem] theorem by120 : Try.prog.bytesOf 120 = 8 := by kernel_rfl
@[go_sem] theorem zr120 : zeroAV Try.prog 120 = some (.nilf) := by kernel_rfl
@[go_sem] theorem uk121 : ukOf Try.prog 121 = .int .u64 := by kernel_rfl
@[go_sem] theorem sz121 : szOf Try.prog 121 = 1 := by kernel_rfl
@[go_sem] theorem ck121 : cellK Try.prog 8 121 = [none] := by kernel_rfl
@[go_sem] theorem by121 : Try.prog.bytesOf 121 = 8 := by kernel_rfl
@[go_sem] theorem zr121 : zeroAV Try.prog 121 = some (.i .u64 0) := by kernel_rfl
@[go_sem] theorem uk122 : ukOf Try.prog 122 = .func := by kernel_rfl
@[go_sem] theorem sz122 : szOf Try.prog 122 = 1 := by kernel_rfl
@[go_sem] theorem ck122 : cellK Try.prog 8 122 = [none] := by kernel_rfl
@[go_sem] theorem by122 : Try.prog.bytesOf 122 = 8 := by kernel_rfl
@[go_sem] theorem zr122 : zeroAV Try.prog 122 = some (.nilf) := by kernel_rfl
@[go_sem] theorem uk123 : ukOf Try.prog 123 = .int .i64 := by kernel_rfl
@[go_sem] theorem sz123 : szOf Try.prog 123 = 1 := by kernel_rfl
@[go_sem] theorem ck123 : cellK Try.prog 8 123 = [none] := by kernel_rfl
@[go_sem] theorem by123 : Try.prog.bytesOf 123 = 8 := by kernel_rfl
@[go_sem] theorem zr123 : zeroAV Try.prog 123 = some (.i .i64 0) := by kernel_rfl
@[go_sem] theorem uk125 : ukOf Try.prog 125 = .func := by kernel_rfl
@[go_sem] theorem sz125 : szOf Try.prog 125 = 1 := by kernel_rfl
@[go_sem] theorem ck125 : cellK Try.prog 8 125 = [none] := by kernel_rfl
@[go_sem] theorem by125 : Try.prog.bytesOf 125 = 8 := by kernel_rfl
@[go_sem] theorem zr125 : zeroAV Try.prog 125 = some (.nilf) := by kernel_rfl
@[go_sem] theorem uk126 : ukOf Try.prog 126 = .func := by kernel_rfl
@[go_sem] theorem sz126 : szOf Try.prog 126 = 1 := by kernel_rfl
@[go_sem] theorem ck126 : cellK Try.prog 8 126 = [none] := by kernel_rfl
@[go_sem] theorem by126 : Try.prog.bytesOf 126 = 8 := by kernel_rfl
@[go_sem] theorem zr126 : zeroAV Try.prog 126 = some (.nilf) := by kernel_rfl
@[go_sem] theorem uk127 : ukOf Try.prog 127 = .func := by kernel_rfl
@[go_sem] theorem sz127 : szOf Try.prog 127 = 1 := by kernel_rfl
@[go_sem] theorem ck127 : cellK Try.prog 8 127 = [none] := by kernel_rfl
@[go_sem] theorem by127 : Try.prog.bytesOf 127 = 8 := by kernel_rfl
@[go_sem] theorem zr127 : zeroAV Try.prog 127 = some (.nilf) := by kernel_rfl
@[go_sem] theorem uk128 : ukOf Try.prog 128 = .func := by kernel_rfl
@[go_sem] theorem sz128 : szOf Try.prog 128 = 1 := by kernel_rfl
@[go_sem] theorem ck128 : cellK Try.prog 8 128 = [none] := by kernel_rfl
@[go_sem] theorem by128 : Try.prog.bytesOf 128 = 8 := by kernel_rfl
@[go_sem] theorem zr128 : zeroAV Try.prog 128 = some (.nilf) := by kernel_rfl
@[go_sem] theorem uk129 : ukOf Try.prog 129 = .func := by kernel_rfl
@[go_sem] theorem sz129 : szOf Try.prog 129 = 1 := by kernel_rfl
@[go_sem] theorem ck129 : cellK Try.prog 8 129 = [none] := by kernel_rfl
@[go_sem] theorem by129 : Try.prog.bytesOf 129 = 8 := by kernel_rfl
@[go_sem] theorem zr129 : zeroAV Try.prog 129 = some (.nilf) := by kernel_rfl
@[go_sem] theorem uk130 : ukOf Try.prog 130 = .int .u32 := by kernel_rfl
@[go_sem] theorem sz130 : szOf Try.prog 130 = 1 := by kernel_rfl
@[go_sem] theorem ck130 : cellK Try.prog 8 130 = [none] := by kernel_rfl
@[go_sem] theorem by130 : Try.prog.bytesOf 130 = 4 := by kernel_rfl
@[go_sem] theorem zr130 : zeroAV Try.prog 130 = some (.i .u32 0) := by kernel_rfl
@[go_sem] theorem uk131 : ukOf Try.prog 131 = .func := by kernel_rfl
@[go_sem] theorem sz131 : szOf Try.prog 131 = 1 := by kernel_rfl
@[go_sem] theorem ck131 : cellK Try.prog 8 131 = [none] := by kernel_rfl
@[go_sem] theorem by131 : Try.prog.bytesOf 131 = 8 := by kernel_rfl
@[go_sem] theorem zr131 : zeroAV Try.prog 131 = some (.nilf) := by kernel_rfl
@[go_sem] theorem uk132 : ukOf Try.prog 132 = .int .u64 := by kernel_rfl
@[go_sem] theorem sz132 : szOf Try.prog 132 = 1 := by kernel_rfl
@[go_sem] theorem ck132 : cellK Try.prog 8 132 = [none] := by kernel_rfl
@[go_sem] theorem by132 : Try.prog.bytesOf 132 = 8 := by kernel_rfl
@[go_sem] theorem zr132 : zeroAV Try.prog 132 = some (.i .u64 0) := by kernel_rfl
@[go_sem] theorem uk133 : ukOf Try.prog 133 = .int .u64 := by kernel_rfl
@[go_sem] theorem sz133 : szOf Try.prog 133 = 1 := by kernel_rfl
@[go_sem] theorem ck133 : cellK Try.prog 8 133 = [none] := by kernel_rfl
@[go_sem] theorem by133 : Try.prog.bytesOf 133 = 8 := by kernel_rfl
@[go_sem] theorem zr133 : zeroAV Try.prog 133 = some (.i .u64 0) := by kernel_rfl
@[go_sem] theorem uk134 : ukOf Try.prog 134 = .func := by kernel_rfl
@[go_sem] theorem sz134 : szOf Try.prog 134 = 1 := by kernel_rfl
@[go_sem] theorem ck134 : cellK Try.prog 8 134 = [none] := by kernel_rfl
@[go_sem] theorem by134 : Try.prog.bytesOf 134 = 8 := by kernel_rfl
@[go_sem] theorem zr134 : zeroAV Try.prog 134 = some (.nilf) := by kernel_rfl
@[go_sem] theorem uk135 : ukOf Try.prog 135 = .func := by kernel_rfl
@[go_sem] theorem sz135 : szOf Try.prog 135 = 1 := by kernel_rfl
@[go_sem] theorem ck135 : cellK Try.prog 8 135 = [none] := by kernel_rfl
@[go_sem] theorem by135 : Try.prog.bytesOf 135 = 8 := by kernel_rfl
@[go_sem] theorem zr135 : zeroAV Try.prog 135 = some (.nilf) := by kernel_rfl
@[go_sem] theorem uk136 : ukOf Try.prog 136 = .func := by kernel_rfl
@[go_sem] theorem sz136 : szOf Try.prog 136 = 1 := by kernel_rfl
@[go_sem] theorem ck136 : cellK Try.prog 8 136 = [none] := by kernel_rfl
@[go_sem] theorem by136 : Try.prog.bytesOf 136 = 8 := by kernel_rfl
@[go_sem] theorem zr136 : zeroAV Try.prog 136 = some (.nilf) := by kernel_rfl
@[go_sem] theorem uk137 : ukOf Try.prog 137 = .ptr 3 := by kernel_rfl
@[go_sem] theorem sz137 : szOf Try.prog 137 = 1 := by kernel_rfl
@[go_sem] theorem ck137 : cellK Try.prog 8 137 = [none] := by kernel_rfl
@[go_sem] theorem by137 : Try.prog.bytesOf 137 = 8 := by kernel_rfl
@[go_sem] theorem zr137 : zeroAV Try.prog 137 = some (.nilp) := by kernel_rfl
@[go_sem] theorem uk138 : ukOf Try.prog 138 = .func := by kernel_rfl
@[go_sem] theorem sz138 : szOf Try.prog 138 = 1 := by kernel_rfl
@[go_sem] theorem ck138 : cellK Try.prog 8 138 = [none] := by kernel_rfl
@[go_sem] theorem by138 : Try.prog.bytesOf 138 = 8 := by kernel_rfl
@[go_sem] theorem zr138 : zeroAV Try.prog 138 = some (.nilf) := by kernel_rfl
@[go_sem] theorem uk139 : ukOf Try.prog 139 = .ptr 133 := by kernel_rfl
@[go_sem] theorem sz139 : szOf Try.prog 139 = 1 := by kernel_rfl
@[go_sem] theorem ck139 : cellK Try.prog 8 139 = [none] := by kernel_rfl
@[go_sem] theorem by139 : Try.prog.bytesOf 139 = 8 := by kernel_rfl
@[go_sem] theorem zr139 : zeroAV Try.prog 139 = some (.nilp) := by kernel_rfl
@[go_sem] theorem uk141 : ukOf Try.prog 141 = .func := by kernel_rfl
@[go_sem] theorem sz141 : szOf Try.prog 141 = 1 := by kernel_rfl
@[go_sem] theorem ck141 : cellK Try.prog 8 141 = [none] := by kernel_rfl
@[go_sem] theorem by141 : Try.prog.bytesOf 141 = 8 := by kernel_rfl
@[go_sem] theorem zr141 : zeroAV Try.prog 141 = some (.nilf) := by kernel_rfl
@[go_sem] theorem uk142 : ukOf Try.prog 142 = .func := by kernel_rfl
@[go_sem] theorem sz142 : szOf Try.prog 142 = 1 := by kernel_rfl
@[go_sem] theorem ck142 : cellK Try.prog 8 142 = [none] := by kernel_rfl
@[go_sem] theorem by142 : Try.prog.bytesOf 142 = 8 := by kernel_rfl
@[go_sem] theorem zr142 : zeroAV Try.prog 142 = some (.nilf) := by kernel_rfl
@[go_sem] theorem uk143 : ukOf Try.prog 143 = .struct := by kernel_rfl
@[go_sem] theorem sz143 : szOf Try.prog 143 = 4 := by kernel_rfl
@[go_sem] theorem fd143_0 : fldOf Try.prog 143 0 = some (0, 17) := by kernel_rfl
@[go_sem] theorem fd143_1 : fldOf Try.prog 143 1 = some (1, 17) := by kernel_rfl
@[go_sem] theorem fd143_2 : fldOf Try.prog 143 2 = some (2, 17) := by kernel_rfl
@[go_sem] theorem fd143_3 : fldOf Try.prog 143 3 = some (3, 9) := by kernel_rfl
@[go_sem] theorem ck143 : cellK Try.prog 8 143 = [none, none, none, none] := by kernel_rfl
@[go_sem] theorem so143 : structOk Try.prog 143 = true := by kernel_rfl
@[go_sem] theorem by143 : Try.prog.bytesOf 143 = 40 := by kernel_rfl
@[go_sem] theorem zr143 : zeroAV Try.prog 143 = some (.agg [.nilp, .nilp, .nilp, .s ByteArray.empty]) := by kernel_rfl
@[go_sem] theorem uk144 : ukOf Try.prog 144 = .struct := by kernel_rfl
@[go_sem] theorem sz144 : szOf Try.prog 144 = 4 := by kernel_rfl
@[go_sem] theorem fd144_0 : fldOf Try.prog 144 0 = some (0, 17) := by kernel_rfl
@[go_sem] theorem fd144_1 : fldOf Try.prog 144 1 = some (1, 17) := by kernel_rfl
@[go_sem] theorem fd144_2 : fldOf Try.prog 144 2 = some (2, 17) := by kernel_rfl
@[go_sem] theorem fd144_3 : fldOf Try.prog 144 3 = some (3, 9) := by kernel_rfl
@[go_sem] theorem ck144 : cellK Try.prog 8 144 = [none, none, none, none] := by kernel_rfl
@[go_sem] theorem so144 : structOk Try.prog 144 = true := by kernel_rfl
@[go_sem] theorem by144 : Try.prog.bytesOf 144 = 40 := by kernel_rfl
@[go_sem] theorem zr144 : zeroAV Try.prog 144 = some (.agg [.nilp, .nilp, .nilp, .s ByteArray.empty]) := by kernel_rfl
@[go_sem] theorem uk145 : ukOf Try.prog 145 = .arr 0 16 := by kernel_rfl
@[go_sem] theorem sz145 : szOf Try.prog 145 = 0 := by kernel_rfl
@[go_sem] theorem ck145 : cellK Try.prog 8 145 = [] := by kernel_rfl
@[go_sem] theorem so145 : structOk Try.prog 145 = true := by kernel_rfl
@[go_sem] theorem by145 : Try.prog.bytesOf 145 = 0 := by kernel_rfl
@[go_sem] theorem zr145 : zeroAV Try.prog 145 = some (.agg []) := by kernel_rfl
@[go_sem] theorem uk146 : ukOf Try.prog 146 = .struct := by kernel_rfl
@[go_sem] theorem sz146 : szOf Try.prog 146 = 0 := by kernel_rfl
@[go_sem] theorem fd146_0 : fldOf Try.prog 146 0 = some (0, 145) := by kernel_rfl
@[go_sem] theorem ck146 : cellK Try.prog 8 146 = [] := by kernel_rfl
@[go_sem] theorem so146 : structOk Try.prog 146 = true := by kernel_rfl
@[go_sem] theorem by146 : Try.prog.bytesOf 146 = 0 := by kernel_rfl
@[go_sem] theorem zr146 : zeroAV Try.prog 146 = some (.agg []) := by kernel_rfl
@[go_sem] theorem uk147 : ukOf Try.prog 147 = .struct := by kernel_rfl
@[go_sem] theorem sz147 : szOf Try.prog 147 = 0 := by kernel_rfl
@[go_sem] theorem fd147_0 : fldOf Try.prog 147 0 = some (0, 145) := by kernel_rfl
@[go_sem] theorem ck147 : cellK Try.prog 8 147 = [] := by kernel_rfl
@[go_sem] theorem so147 : structOk Try.prog 147 = true := by kernel_rfl
@[go_sem] theorem by147 : Try.prog.bytesOf 147 = 0 := by kernel_rfl
@[go_sem] theorem zr147 : zeroAV Try.prog 147 = some (.agg []) := by kernel_rfl
@[go_sem] theorem uk148 : ukOf Try.prog 148 = .func := by kernel_rfl
@[go_sem] theorem sz148 : szOf Try.prog 148 = 1 := by kernel_rfl
@[go_sem] theorem ck148 : cellK Try.prog 8 148 = [none] := by kernel_rfl
@[go_sem] theorem by148 : Try.prog.bytesOf 148 = 8 := by kernel_rfl
@[go_sem] theorem zr148 : zeroAV Try.prog 148 = some (.nilf) := by kernel_rfl
@[go_sem] theorem uk149 : ukOf Try.prog 149 = .int .u8 := by kernel_rfl
@[go_sem] theorem sz149 : szOf Try.prog 149 = 1 := by kernel_rfl
@[go_sem] theorem ck149 : cellK Try.prog 8 149 = [none] := by kernel_rfl
@[go_sem] theorem by149 : Try.prog.bytesOf 149 = 1 := by kernel_rfl
@[go_sem] theorem zr149 : zeroAV Try.prog 149 = some (.i .u8 0) := by kernel_rfl
@[go_sem] theorem uk150 : ukOf Try.prog 150 = .int .u8 := by kernel_rfl
@[go_sem] theorem sz150 : szOf Try.prog 150 = 1 := by kernel_rfl
@[go_sem] theorem ck150 : cellK Try.prog 8 150 = [none] := by kernel_rfl
@[go_sem] theorem by150 : Try.prog.bytesOf 150 = 1 := by kernel_rfl
@[go_sem] theorem zr150 : zeroAV Try.prog 150 = some (.i .u8 0) := by kernel_rfl
@[go_sem] theorem uk151 : ukOf Try.prog 151 = .func := by kernel_rfl
@[go_sem] theorem sz151 : szOf Try.prog 151 = 1 := by kernel_rfl
@[go_sem] theorem ck151 : cellK Try.prog 8 151 = [none] := by kernel_rfl
@[go_sem] theorem by151 : Try.prog.bytesOf 151 = 8 := by kernel_rfl
@[go_sem] theorem zr151 : zeroAV Try.prog 151 = some (.nilf) := by kernel_rfl
@[go_sem] theorem uk152 : ukOf Try.prog 152 = .ptr 5 := by kernel_rfl
@[go_sem] theorem sz152 : szOf Try.prog 152 = 1 := by kernel_rfl
@[go_sem] theorem ck152 : cellK Try.prog 8 152 = [none] := by kernel_rfl
@[go_sem] theorem by152 : Try.prog.bytesOf 152 = 8 := by kernel_rfl
@[go_sem] theorem zr152 : zeroAV Try.prog 152 = some (.nilp) := by kernel_rfl
@[go_sem] theorem uk153 : ukOf Try.prog 153 = .int .i32 := by kernel_rfl
@[go_sem] theorem sz153 : szOf Try.prog 153 = 1 := by kernel_rfl
@[go_sem] theorem ck153 : cellK Try.prog 8 153 = [none] := by kernel_rfl
@[go_sem] theorem by153 : Try.prog.bytesOf 153 = 4 := by kernel_rfl
@[go_sem] theorem zr153 : zeroAV Try.prog 153 = some (.i .i32 0) := by kernel_rfl
@[go_sem] theorem uk154 : ukOf Try.prog 154 = .int .i32 := by kernel_rfl
@[go_sem] theorem sz154 : szOf Try.prog 154 = 1 := by kernel_rfl
@[go_sem] theorem ck154 : cellK Try.prog 8 154 = [none] := by kernel_rfl
@[go_sem] theorem by154 : Try.prog.bytesOf 154 = 4 := by kernel_rfl
@[go_sem] theorem zr154 : zeroAV Try.prog 154 = some (.i .i32 0) := by kernel_rfl
@[go_sem] theorem uk155 : ukOf Try.prog 155 = .struct := by kernel_rfl
@[go_sem] theorem sz155 : szOf Try.prog 155 = 11 := by kernel_rfl
@[go_sem] theorem fd155_0 : fldOf Try.prog 155 0 = some (0, 12) := by kernel_rfl
@[go_sem] theorem fd155_1 : fldOf Try.prog 155 1 = some (1, 12) := by kernel_rfl
@[go_sem] theorem fd155_2 : fldOf Try.prog 155 2 = some (2, 130) := by kernel_rfl
@[go_sem] theorem fd155_3 : fldOf Try.prog 155 3 = some (3, 149) := by kernel_rfl
@[go_sem] theorem fd155_4 : fldOf Try.prog 155 4 = some (4, 5) := by kernel_rfl
@[go_sem] theorem fd155_5 : fldOf Try.prog 155 5 = some (5, 5) := by kernel_rfl
@[go_sem] theorem fd155_6 : fldOf Try.prog 155 6 = some (6, 150) := by kernel_rfl
@[go_sem] theorem fd155_7 : fldOf Try.prog 155 7 = some (7, 151) := by kernel_rfl
@[go_sem] theorem fd155_8 : fldOf Try.prog 155 8 = some (8, 152) := by kernel_rfl
@[go_sem] theorem fd155_9 : fldOf Try.prog 155 9 = some (9, 153) := by kernel_rfl
@[go_sem] theorem fd155_10 : fldOf Try.prog 155 10 = some (10, 154) := by kernel_rfl
@[go_sem] theorem ck155 : cellK Try.prog 8 155 = [none, none, none, none, none, none, none, none, none, none, none] := by kernel_rfl
@[go_sem] theorem so155 : structOk Try.prog 155 = true := by kernel_rfl
@[go_sem] theorem by155 : Try.prog.bytesOf 155 = 48 := by kernel_rfl
@[go_sem] theorem zr155 : zeroAV Try.prog 155 = some (.agg [.i .u64 0, .i .u64 0, .i .u32 0, .i .u8 0, .i .u8 0, .i .u8 0, .i .u8 0, .nilf, .nilp, .i .i32 0, .i .i32 0]) := by kernel_rfl
@[go_sem] theorem uk156 : ukOf Try.prog 156 = .struct := by kernel_rfl
@[go_sem] theorem sz156 : szOf Try.prog 156 = 11 := by kernel_rfl
@[go_sem] theorem fd156_0 : fldOf Try.prog 156 0 = some (0, 12) := by kernel_rfl
@[go_sem] theorem fd156_1 : fldOf Try.prog 156 1 = some (1, 12) := by kernel_rfl
@[go_sem] theorem fd156_2 : fldOf Try.prog 156 2 = some (2, 130) := by kernel_rfl
@[go_sem] theorem fd156_3 : fldOf Try.prog 156 3 = some (3, 149) := by kernel_rfl
@[go_sem] theorem fd156_4 : fldOf Try.prog 156 4 = some (4, 5) := by kernel_rfl
@[go_sem] theorem fd156_5 : fldOf Try.prog 156 5 = some (5, 5) := by kernel_rfl
@[go_sem] theorem fd156_6 : fldOf Try.prog 156 6 = some (6, 150) := by kernel_rfl
@[go_sem] theorem fd156_7 : fldOf Try.prog 156 7 = some (7, 151) := by kernel_rfl
@[go_sem] theorem fd156_8 : fldOf Try.prog 156 8 = some (8, 152) := by kernel_rfl
@[go_sem] theorem fd156_9 : fldOf Try.prog 156 9 = some (9, 153) := by kernel_rfl
@[go_sem] theorem fd156_10 : fldOf Try.prog 156 10 = some (10, 154) := by kernel_rfl
@[go_sem] theorem ck156 : cellK Try.prog 8 156 = [none, none, none, none, none, none, none, none, none, none, none] := by kernel_rfl
@[go_sem] theorem so156 : structOk Try.prog 156 = true := by kernel_rfl
@[go_sem] theorem by156 : Try.prog.bytesOf 156 = 48 := by kernel_rfl
@[go_sem] theorem zr156 : zeroAV Try.prog 156 = some (.agg [.i .u64 0, .i .u64 0, .i .u32 0, .i .u8 0, .i .u8 0, .i .u8 0, .i .u8 0, .nilf, .nilp, .i .i32 0, .i .i32 0]) := by kernel_rfl
end Go.AW.TyTry
namespace Go.AW
open Go
set_option linter.unusedSimpArgs false
set_option linter.unusedVariables false
mutual
theorem ltk_mono {k n : Nat} (h : k ≤ n) : ∀ (a : AV), a.ltk k = true → a.ltk n = true
 | .ref _ _ _, e | .ptr _ _ _, e | .mp _, e => by simp only [AV.ltk, decide_eq_true_eq] at e ⊢; omega
 | .fn _ l, e => by simp only [AV.ltk] at e ⊢; exact ltks_mono h l e
 | .agg l, e => by simp only [AV.ltk] at e ⊢; exact ltks_mono h l e
 | .tup l, e => by simp only [AV.ltk] at e ⊢; exact ltks_mono h l e
 | .ifc _ v, e => by simp only [AV.ltk] at e ⊢; exact ltk_mono h v e
 | .gd _ v, e => by simp only [AV.ltk] at e ⊢; exact ltk_mono h v e
 | .any, _ | .b _, _ | .i _ _, _ | .s _, _ | .sl _ _, _ | .own _ _, _ | .ep _ _, _ | .nilp, _ | .nilm, _ | .nsl, _ | .esl, _ | .nilf, _ | .nili, _ => rfl
theorem ltks_mono {k n : Nat} (h : k ≤ n) : ∀ (l : List AV), AV.ltks k l = true → AV.ltks n l = true
 | [], _ => rfl
 | a :: l, e => by
  simp only [AV.ltks, Bool.and_eq_true] at e ⊢
  exact ⟨ltk_mono h a e.1, ltks_mono h l e.2⟩
end
theorem Ob.ltk_mono {k n : Nat} (h : k ≤ n) (x : Ob) (e : x.ltk k = true) : x.ltk n = true := by
 cases x with
 | cells sz rows =>
  simp only [Ob.ltk, List.all_eq_true] at e ⊢
  exact fun r hr a ha => AW.ltk_mono h a (e r hr a ha)
 | mapo es =>
  simp only [Ob.ltk, List.all_eq_true, Bool.and_eq_true] at e ⊢
  exact fun x hx => ⟨AW.ltk_mono h _ (e x hx).1, AW.ltk_mono h _ (e x hx).2⟩
 | frz => rfl
 | dead => rfl
def okO (oc : List Ob) : Bool := oc.all (Ob.ltk oc.length)
theorem okO_app {oc ex : List Ob} (h : okO oc = true) (hx : ex.all (Ob.ltk (oc.length + ex.length)) = true) : okO (oc ++ ex) = true := by
 unfold okO at h ⊢
 rw [List.length_append, List.all_append, Bool.and_eq_true]
 refine ⟨?_, hx⟩
 rw [List.all_eq_true] at h ⊢
 exact fun x hx => Ob.ltk_mono (by omega) x (h x hx)
@[go_sem] theorem app_len (oc : List Ob) (x : Ob) (l : List Ob) : (oc ++ x :: l)[oc.length]? = some x := by simp
@[go_sem] theorem app_len1 (oc : List Ob) (x y : Ob) (l : List Ob) : (oc ++ x :: y :: l)[oc.length + 1]? = some y := by simp [List.getElem?_append_right]
@[go_sem] theorem app_len2 (oc : List Ob) (x y z : Ob) (l : List Ob) : (oc ++ x :: y :: z :: l)[oc.length + 2]? = some z := by simp [List.getElem?_append_right]
@[go_sem] theorem app_set (oc : List Ob) (x y : Ob) (l : List Ob) : (oc ++ x :: l).set oc.length y = oc ++ y :: l := by simp
@[go_sem] theorem app_set1 (oc : List Ob) (x z y : Ob) (l : List Ob) : (oc ++ x :: z :: l).set (oc.length + 1) y = oc ++ x :: y :: l := by simp [List.set_append]
@[go_sem] theorem app_set2 (oc : List Ob) (x z v y : Ob) (l : List Ob) : (oc ++ x :: z :: v :: l).set (oc.length + 2) y = oc ++ x :: z :: y :: l := by simp [List.set_append]
attribute [go_sem] List.set_cons_zero List.set_cons_succ
theorem app_get {oc : List Ob} {i : Nat} {x : Ob} (l : List Ob) (h : oc[i]? = some x) : (oc ++ l)[i]? = some x := getE_mono h
attribute [go_sem] List.append_assoc List.cons_append List.length_append
@[go_sem] theorem bif_or (a b : Bool) : (bif a then true else b) = (a || b) := by cases a <;> rfl
@[go_sem] theorem bif_and (a b : Bool) : (bif a then b else false) = (a && b) := by cases a <;> rfl
section
variable {P : Program} {n : Nat} {gd : List (Option Nat)} {tk : List Nat} {Q : Exit → St → Prop} {s : St} {K : St → Prop}
theorem map_ren_range {k : Nat} {ac : List AV} (h : ac.all (AV.ltk k) = true) : ac.map (AV.ren fun j => (List.range k).getD j 0) = ac := by
 conv => rhs; rw [← List.map_id ac]
 rw [List.all_eq_true] at h
 exact List.map_congr_left fun a ha => ren_range a (h a ha)
theorem CallD.all {o : Oper} {c : Call} {x : Operand} {f : FuncId} {caps ac : List AV} {r : AV} (ho : o.op = .call c) (hc : c.callee = .value x) (hx : ung true (opd s.t x) = .fn f caps) (h : ACallsQ P f ac s.o r)
  (hin : c.args.toList.all (opIn n) = true) (hd : dstOk n o.dst = true) (hl : c.args.size ≤ ac.length) (hle : LeA (argVals c.args.toList (ac.take c.args.size) s.t ++ caps.map AV.dat) ac)
  (hoc : okO s.o = true) (hac : ac.all (AV.ltk s.o.length) = true) (hr : r.ltk 0 = true) : CallD P n o s ac r :=
 ⟨⟨c, x, f, caps, List.range s.o.length, s.o, ho, hc, hx, hin, hl, Hand.all hoc, by rw [map_ren_range hac]; exact hle, by rw [List.length_range]; exact hac, h⟩, hd, hr⟩
theorem RL_callQ {d : Option Tmp} {x : Operand} {xs : List Operand} {ats : Array TypeId} {ty : TypeId} {pos : String} {aft : Array Edge} {rest : List Oper} {f : FuncId} {caps ac : List AV} {r : AV} (h : ACallsQ P f ac s.o r)
  (hx : ung true (opd s.t x) = .fn f caps) (hin : xs.all (opIn n) = true) (hd : dstOk n d = true) (hl : xs.length ≤ ac.length) (hle : LeA (argVals xs (ac.take xs.length) s.t ++ caps.map AV.dat) ac)
  (hoc : okO s.o = true) (hac : ac.all (AV.ltk s.o.length) = true) (hr : r.ltk 0 = true) (hK : RL P n gd rest Q ((⟨argDrop xs (ac.take xs.length) s.t, s.o⟩ : St).put d r)) :
  RL P n gd (⟨d, .call ⟨.value x, xs.toArray, ats⟩, ty, pos, aft, none⟩ :: rest) Q s := by
 refine RL_call ac r rfl (CallD.all rfl rfl hx h hin hd (by simpa using hl) (by simpa using hle) hoc hac hr) ?_
 simpa only [dropA, List.size_toArray] using hK
theorem OpW_callE {o : Oper} {c : Call} {x : Operand} {f : FuncId} {caps ac : List AV} {R : AV → List Ob → Prop} (ho : o.op = .call c) (hc : c.callee = .value x) (hx : ung true (opd s.t x) = .fn f caps) (h : ACalls P f ac s.o R)
  (hlen : ∀ r o', R r o' → s.o.length ≤ o'.length ∧ r.ltk o'.length = true ∧ okO o' = true)
  (hin : c.args.toList.all (opIn n) = true) (hd : dstOk n o.dst = true) (hl : c.args.size ≤ ac.length) (hle : LeA (argVals c.args.toList (ac.take c.args.size) s.t ++ caps.map AV.dat) ac)
  (hoc : okO s.o = true) (hac : ac.all (AV.ltk s.o.length) = true) (hK : ∀ r o', R r o' → K ((⟨argDrop c.args.toList (ac.take c.args.size) s.t, o'⟩ : St).put o.dst r)) : OpW P n o s K := by
 refine OpW_call (R := R) ho hc hx hd hin (Hand.all hoc) hl (by rw [map_ren_range hac]; exact hle) (by rw [List.length_range]; exact hac) h ?_
 intro r o' hR
 obtain ⟨h1, h2, h3⟩ := hlen r o' hR
 rw [after_all h1]
 have : r.ren (phi (List.range s.o.length) s.o.length) = r := by
  conv => rhs; rw [← ren_self r]
  refine ren_congr (n := o'.length) (fun k hk => ?_) r h2
  unfold phi
  simp only [List.length_range]
  split
  ·rename_i hlt; exact range_getD hlt
  ·omega
 rw [this]
 exact hK r o' hR
theorem RL_callE {d : Option Tmp} {x : Operand} {xs : List Operand} {ats : Array TypeId} {ty : TypeId} {pos : String} {aft : Array Edge} {rest : List Oper} {f : FuncId} {caps ac : List AV} {R : AV → List Ob → Prop} (h : ACalls P f ac s.o R)
  (hlen : ∀ r o', R r o' → s.o.length ≤ o'.length ∧ r.ltk o'.length = true ∧ okO o' = true)
  (hx : ung true (opd s.t x) = .fn f caps) (hin : xs.all (opIn n) = true) (hd : dstOk n d = true) (hl : xs.length ≤ ac.length) (hle : LeA (argVals xs (ac.take xs.length) s.t ++ caps.map AV.dat) ac)
  (hoc : okO s.o = true) (hac : ac.all (AV.ltk s.o.length) = true) (hK : ∀ r o', R r o' → RL P n gd rest Q ((⟨argDrop xs (ac.take xs.length) s.t, o'⟩ : St).put d r)) :
  RL P n gd (⟨d, .call ⟨.value x, xs.toArray, ats⟩, ty, pos, aft, none⟩ :: rest) Q s := by
 refine RL_cons rfl (OpW_callE (R := R) rfl rfl hx h hlen hin hd (by simpa using hl) (by simpa using hle) hoc hac ?_)
 simpa only [List.size_toArray] using hK
theorem ACallsD.q {f : FuncId} {ac : List AV} {r : AV} (h : ACallsD P f ac r) (hr : r.ltk 0 = true) (hac : ac.all (AV.ltk 0) = true) : ∀ (o : Oper) (c : Call) (x : Operand) (caps : List AV), o.op = .call c → c.callee = .value x → ung true (opd s.t x) = .fn f caps →
  c.args.toList.all (opIn n) = true → dstOk n o.dst = true → c.args.size ≤ ac.length → LeA (argVals c.args.toList (ac.take c.args.size) s.t ++ caps.map AV.dat) ac → CallD P n o s ac r :=
 fun o c x caps ho hc hx hin hd hl hle => ⟨⟨c, x, f, caps, [], [], ho, hc, hx, hin, hl, Hand.nil _, by rw [map_ren_id _ hac]; exact hle, hac, h⟩, hd, hr⟩
theorem RL_callDg {d : Option Tmp} {f : FuncId} {xs : List Operand} {ats : Array TypeId} {ty : TypeId} {pos : String} {aft : Array Edge} {rest : List Oper} {ac : List AV} {r : AV} {j t : Nat} {want h0 b : Bool}
  (hj : gd.getD j none = some t) (hg : gv (s.t t) = some (h0, b)) (h : (h0 && b == want) = true → ACallsD P f ac r)
  (hin : xs.all (opIn n) = true) (hd : dstOk n d = true) (hlen : xs.length = ac.length) (hle : (h0 && b == want) = true → LeA (argVals xs ac s.t) ac) (harg : ac.all (AV.ltk 0) = true) (hres : r.ltk 0 = true)
  (hK : RL P n gd rest Q ((⟨argDrop xs ac s.t, s.o⟩ : St).put d (.gd (h0 && b == want) r))) : RL P n gd (⟨d, .call ⟨.value (.func f), xs.toArray, ats⟩, ty, pos, aft, some (j, want)⟩ :: rest) Q s := by
 have ht : ac.take xs.toArray.size = ac := by rw [List.take_of_length_le]; simp [hlen]
 refine RL_callg ac r rfl hj hg hd (fun e => (h e).q hres harg _ _ _ [] rfl rfl rfl hin hd (by simp [hlen]) (by rw [ht]; simpa using hle e)) ?_
 simpa only [dropA, ht] using hK
theorem D_callD {d : Option Tmp} {f : FuncId} {xs : List Operand} {ats : Array TypeId} {ty : TypeId} {pos : String} {aft : Array Edge} {rest : List Oper} {ac : List AV} {r : AV} (h : ACallsD P f ac r)
  (hin : xs.all (opIn n) = true) (hd : dstOk n d = true) (hlen : xs.length = ac.length) (hle : LeA (argVals xs ac s.t) ac) (harg : ac.all (AV.ltk 0) = true) (hres : r.ltk 0 = true)
  (hq : isQ tk ⟨d, .call ⟨.value (.func f), xs.toArray, ats⟩, ty, pos, aft, none⟩ = true) (ho : ac.all (fun c => !c.isOwn) = true) (hK : D P n gd tk rest K (s.put d r)) :
  D P n gd tk (⟨d, .call ⟨.value (.func f), xs.toArray, ats⟩, ty, pos, aft, none⟩ :: rest) K s := by
 have ht : ac.take xs.toArray.size = ac := by rw [List.take_of_length_le]; simp [hlen]
 exact D_call ac r rfl hq (h.q hres harg _ _ _ [] rfl rfl rfl hin hd (by simp [hlen]) (by rw [ht]; simpa using hle)) ho hK
theorem D_callDg {d : Option Tmp} {f : FuncId} {xs : List Operand} {ats : Array TypeId} {ty : TypeId} {pos : String} {aft : Array Edge} {rest : List Oper} {ac : List AV} {r : AV} {j t : Nat} {want h0 b : Bool}
  (hj : gd.getD j none = some t) (hg : gv (s.t t) = some (h0, b)) (h : (h0 && b == want) = true → ACallsD P f ac r)
  (hin : xs.all (opIn n) = true) (hd : dstOk n d = true) (hlen : xs.length = ac.length) (hle : (h0 && b == want) = true → LeA (argVals xs ac s.t) ac) (harg : ac.all (AV.ltk 0) = true) (hres : r.ltk 0 = true)
  (hq : isQ tk ⟨d, .call ⟨.value (.func f), xs.toArray, ats⟩, ty, pos, aft, some (j, want)⟩ = true) (ho : ac.all (fun c => !c.isOwn) = true) (hK : D P n gd tk rest K (s.put d (.gd (h0 && b == want) r))) :
  D P n gd tk (⟨d, .call ⟨.value (.func f), xs.toArray, ats⟩, ty, pos, aft, some (j, want)⟩ :: rest) K s := by
 have ht : ac.take xs.toArray.size = ac := by rw [List.take_of_length_le]; simp [hlen]
 exact D_callg ac r rfl hj hg hd hq (fun e => (h e).q hres harg _ _ _ [] rfl rfl rfl hin hd (by simp [hlen]) (by rw [ht]; simpa using hle e)) ho hK
theorem endQ_quiet {rs : List ResultVar} {oc ex : List Ob} {t : Nat → AV} {r r' : AV} (h1 : resAV P rs ⟨t, oc ++ ex⟩ = some r) (h2 : Le r r') (hoc : okO oc = true) (h6 : r'.ltk 0 = true) : endQ P rs oc.length (fun x o' => x = r' ∧ o' = oc) .ret ⟨t, oc ++ ex⟩ :=
 ⟨r, r', oc.length, h1, h2, Nat.le_refl _, by simp, by rw [List.take_left]; exact hoc, ltk_mono (Nat.zero_le _) _ h6, rfl, by rw [List.take_left]⟩
theorem endQ_quiet0 {rs : List ResultVar} {oc : List Ob} {t : Nat → AV} {r r' : AV} (h1 : resAV P rs ⟨t, oc⟩ = some r) (h2 : Le r r') (hoc : okO oc = true) (h6 : r'.ltk 0 = true) : endQ P rs oc.length (fun x o' => x = r' ∧ o' = oc) .ret ⟨t, oc⟩ := by
 have := endQ_quiet (P := P) (ex := []) (by rw [List.append_nil]; exact h1) h2 hoc h6
 rwa [List.append_nil] at this
end
end Go.AW
namespace Go.AW
open Go
set_option linter.unusedSimpArgs false
set_option linter.unusedVariables false
section
variable {P : Program} {n : Nat} {gd : List (Option Nat)} {tk : List Nat} {Q : Exit → St → Prop} {s s' : St} {K : St → Prop}
theorem Does_slot {o : Oper} {r : R1} {g : G} {a : Act} {w : World} (hs : slotR P tk o s true = some r) (hok : r.ok = true) (hd : dstOk g.n o.dst = true) (hat : At g s a w) : Does P g a w o (s.put o.dst r.v) := by
 by_cases hna : ∀ x, o.op ≠ .assign x
 ·have h1 := slotR_step1 (n := g.n) hs hna
  have := step1_sound hat (tk := tk) (o := o) (P := P) (by rw [h1]; simp [putS, hok, hd])
  rw [h1] at this
  exact this
 ·obtain ⟨x, hx⟩ : ∃ x, o.op = .assign x := by
   cases hop : o.op with
   | assign x => exact ⟨x, rfl⟩
   | _ => exact absurd (fun x => by rw [hop]; exact fun e => by cases e) hna
  have hr : r = ⟨true, upAV (elU (upT tk) P o.type) (ung true (opd s.t x)).dat⟩ := by
   unfold slotR at hs
   rw [hx] at hs
   simp only at hs
   split at hs
   ·split at hs
    ·cases hs
    ·exact (Option.some.inj hs).symm
   ·cases hs
  subst hr
  exact putS_sound rfl hat (by simp [putS, hd]) fun m reg h1 _ => ⟨_, exec_move (.inr hx), upAV_V (V.dat _ _ (ung_V rfl (opdV h1 x))), upAV_light (V.dat _ _ (ung_V rfl (opdV h1 x))) (AV.dat_isOwn _)⟩
theorem Does.weak {o : Oper} {g : G} {a : Act} {w : World} {s1 s2 : St} (h : Does P g a w o s1) (ht : ∀ k, Le (s1.t k) (s2.t k)) (ho : s2.o = s1.o) : Does P g a w o s2 := by
 rcases h with ⟨v, w', h1, h2⟩ | ⟨w', h1, h2⟩
 ·exact .inl ⟨v, w', h1, h2.weak ht ho⟩
 ·exact .inr ⟨w', h1, h2.weak ht ho⟩
theorem D_does {ops : Array Oper} {o : Oper} {r : List Oper} (hgd : ops.toList.map (·.dst) = gd) (hc : isCall o = false) (h : D P n gd tk (o :: r) K s) {g : G} {a : Act} {w : World} (hn : g.n = n) (hat : At g s a w) :
  (Region.wanted o (yielded ops a.tmps) = true ∧ ∃ s', D P n gd tk r K s' ∧ Does P g a w o s') ∨ (Region.wanted o (yielded ops a.tmps) = false ∧ ∃ s', D P n gd tk r K s' ∧ At g s' (a.put o.dst undef) w) := by
 subst hn
 have nocall : ∀ {ac : List AV} {r : AV}, CallD P g.n o s ac r → False := by
  rintro ac r ⟨⟨c, x, f, caps, ids, oc, h1, h2, _⟩, _, _⟩
  unfold isCall at hc
  rw [h1] at hc
  simp only [h2] at hc
  cases hc
 by_cases hq : isQ tk o = true
 ·simp only [D, hq, if_true] at h
  obtain ⟨v, ⟨hd, hv⟩, hr⟩ := h
  cases hg : o.guard with
  | none =>
   simp only [hg] at hv
   left
   refine ⟨by simp [Region.wanted, hg], _, hr, ?_⟩
   rcases hv with ⟨r1, h1, h2, rfl⟩ | ⟨ac, h1, h2⟩
   ·exact Does_slot h1 h2 hd hat
   ·exact (nocall h1).elim
  | some jw =>
   obtain ⟨j, want⟩ := jw
   simp only [hg] at hv
   obtain ⟨t, h0, x, e1, e2, hv⟩ := hv
   have hy := yield_b hgd hat e1 e2 want
   have hw : Region.wanted o (yielded ops a.tmps) = (h0 && x == want) := by simp only [Region.wanted, hg]; exact hy
   cases hcnd : (h0 && x == want) with
   | true =>
    left
    refine ⟨by rw [hw, hcnd], _, hr, ?_⟩
    rw [hcnd] at hv
    rcases hv with ⟨r1, h1, h2, rfl⟩ | ⟨ac, r1, h1, h2, rfl⟩
    ·refine (Does_slot h1 (h2 rfl) hd hat).weak (put_le s o.dst (Le.gdI rfl _)) ?_
     cases o.dst <;> rfl
    ·exact (nocall (h1 rfl)).elim
   | false =>
    right
    refine ⟨by rw [hw, hcnd], _, hr, hat.putAny hd (fun w Y m => ?_) ?_⟩
    ·rw [hcnd] at hv
     rcases hv with ⟨r1, h1, h2, rfl⟩ | ⟨ac, r1, h1, h2, rfl⟩ <;> simp [V]
    ·rw [hcnd] at hv
     rcases hv with ⟨r1, h1, h2, rfl⟩ | ⟨ac, r1, h1, h2, rfl⟩ <;> rfl
 ·have hq : isQ tk o = false := by simpa using hq
  simp only [D, hq, hc, if_false, Bool.false_eq_true] at h
  obtain ⟨hg, s1, h1, h2⟩ := h
  left
  refine ⟨by simp [Region.wanted, hg], s1, h2, ?_⟩
  have := step1_sound hat (tk := tk) (o := o) (P := P) (by rw [h1])
  rw [h1] at this
  exact this
end
def cover (ops : Array Oper) : Nat → List Nat → List (List Nat) → Bool
 | 0, A, T => A == [] && T == [[]]
 | k + 1, A, T => if A = [] then T == [[]] else !T.isEmpty && (A.any fun i => !A.any fun j => (dirs ops i).contains j) && A.all fun i => (A.any fun j => (dirs ops i).contains j) || cover ops k (A.erase i) (T.filterMap fun t => match t with | j :: r => if j = i then some r else none | [] => none)
def pairOk (ops : Array Oper) (gd : List (Option Nat)) (tk : List Nat) (tp : List (List Nat)) (a b : Nat) : Bool :=
 !(dirs ops a).contains b && ((tp.getD b []).contains a || (match ops[a]?, ops[b]? with | some x, some y => indep gd tk x y || indep2 gd tk x y || indep3 gd tk x y | _, _ => false))
structure Left (ops : Array Oper) (gd : List (Option Nat)) (tk : List Nat) (tp : List (List Nat)) (pre A post : List Nat) : Prop where
 nodup : (pre ++ A ++ post).Nodup
 p1 : pre.Pairwise fun a b => pairOk ops gd tk tp a b = true
 p2 : post.Pairwise fun a b => pairOk ops gd tk tp a b = true
 p3 : ∀ a ∈ pre, ∀ b ∈ A, pairOk ops gd tk tp a b = true
 p4 : ∀ a ∈ pre, ∀ b ∈ post, pairOk ops gd tk tp a b = true
 p5 : ∀ a ∈ A, ∀ b ∈ post, pairOk ops gd tk tp a b = true
 calls : ∀ i o, (i ∈ pre ∨ i ∈ post) → ops[i]? = some o → isCall o = true → ∀ a ∈ A, a ∈ tp.getD i []
 noc : ∀ i o, i ∈ A → ops[i]? = some o → isCall o = false
def drawOkA (ops : Array Oper) (gd : List (Option Nat)) (tk : List Nat) (pre A post : List Nat) (tp : List (List Nat)) : Bool :=
 decide (pre ++ A ++ post).Nodup && (List.range ops.size).all ((pre ++ A ++ post).contains ·) && (pre ++ A ++ post).all (fun i => decide (i < ops.size)) &&
 (List.range ops.size).all (fun i => (tp.getD i []).all fun j => (dirs ops i).contains j || (dirs ops i).any fun k => (tp.getD k []).contains j) &&
 (List.range ops.size).all (fun i => (dirs ops i).all fun k => k != i && decide (k < ops.size)) &&
 decide (pre.Pairwise fun a b => pairOk ops gd tk tp a b = true) && decide (post.Pairwise fun a b => pairOk ops gd tk tp a b = true) &&
 pre.all (fun a => A.all fun b => pairOk ops gd tk tp a b) && pre.all (fun a => post.all fun b => pairOk ops gd tk tp a b) && A.all (fun a => post.all fun b => pairOk ops gd tk tp a b) &&
 (pre ++ post).all (fun i => match ops[i]? with | some o => !isCall o || A.all fun a => (tp.getD i []).contains a | none => true) &&
 A.all (fun i => match ops[i]? with | some o => !isCall o | none => true) && (pre ++ A ++ post).length == ops.size
section
variable {P : Program} {n : Nat} {gd : List (Option Nat)} {tk : List Nat} {Q : Exit → St → Prop} {tp : List (List Nat)}
theorem cover_nil {ops : Array Oper} {k : Nat} {T : List (List Nat)} (h : cover ops k [] T = true) : T = [[]] := by
 cases k with
 | zero => simp only [cover, Bool.and_eq_true, beq_iff_eq] at h; exact h.2
 | succ k => simpa [cover] using h
theorem Left.sub {ops : Array Oper} {pre A post pre' A' post' : List Nat} (h : Left ops gd tk tp pre A post) (h1 : pre'.Sublist pre) (h2 : A'.Sublist A) (h3 : post'.Sublist post) : Left ops gd tk tp pre' A' post' :=
 ⟨h.nodup.sublist ((h1.append h2).append h3), h.p1.sublist h1, h.p2.sublist h3, fun a ha b hb => h.p3 a (h1.subset ha) b (h2.subset hb), fun a ha b hb => h.p4 a (h1.subset ha) b (h3.subset hb),
  fun a ha b hb => h.p5 a (h2.subset ha) b (h3.subset hb),
  fun i o hi ho hc a ha => h.calls i o (hi.imp (fun x => h1.subset x) (fun x => h3.subset x)) ho hc a (h2.subset ha), fun i o hi => h.noc i o (h2.subset hi)⟩
theorem wpAny_of_DA {ops : Array Oper} (hgd : ops.toList.map (·.dst) = gd) (c4 : ∀ i, i < ops.size → ∀ j ∈ tp.getD i [], j ∈ dirs ops i ∨ ∃ k ∈ dirs ops i, j ∈ tp.getD k [])
  (c5 : ∀ i, i < ops.size → ∀ k ∈ dirs ops i, k ≠ i ∧ k < ops.size) {g : G} (hn : g.n = n) :
  ∀ (fuel : Nat) (pre A post : List Nat) (listed : Array Bool) (a : Act) (w : World) (T : List (List Nat × (St → Prop))), (pre ++ A ++ post).length = fuel → Left ops gd tk tp pre A post → (∀ i ∈ pre ++ A ++ post, i < ops.size) → listed.size = ops.size →
   (∀ i, i < ops.size → (listed.getD i true = false ↔ i ∈ pre ++ A ++ post)) → (∀ k, k < ops.size → k ∉ pre ++ A ++ post → ∀ j ∈ tp.getD k [], j ∉ pre ++ A ++ post) →
   cover ops A.length A (T.map (·.1)) = true → (∀ t ∈ T, t.1.Perm A) → (∀ t ∈ T, ∀ s, t.2 s → ∀ a w, At g s a w → QL g Q .normal a w) →
   (∀ t ∈ T, ∃ s, D P n gd tk ((pre ++ t.1 ++ post).filterMap (ops[·]?)) t.2 s ∧ At g s a w) → wpAny P .any ops (QL g Q) fuel listed a w := by
 intro fuel
 induction fuel with
 | zero =>
  intro pre A post listed a w T hl hL hm hsz hli hcl hcov hperm hK hD
  have he : pre ++ A ++ post = [] := List.eq_nil_of_length_eq_zero hl
  simp only [List.append_eq_nil_iff] at he
  obtain ⟨⟨rfl, rfl⟩, rfl⟩ := he
  have hT := cover_nil hcov
  refine ⟨?_, ?_⟩
  ·unfold Region.ready
   rw [List.filter_eq_nil_iff]
   intro i hi
   have := (hli i (List.mem_range.1 hi))
   simp only [List.append_nil, List.not_mem_nil, iff_false, Bool.not_eq_false] at this
   simp [this]
  ·cases T with
   | nil => simp at hT
   | cons t T =>
    simp only [List.map_cons, List.cons.injEq] at hT
    obtain ⟨s, h1, h2⟩ := hD t (by simp)
    rw [hT.1] at h1
    simp only [List.nil_append, List.filterMap_nil, D] at h1
    exact hK t (by simp) s h1 a w h2
 | succ fuel ih =>
  intro pre A post listed a w T hl hL hm hsz hli hcl hcov hperm hK hD
  have hTne : T ≠ [] := by
   rintro rfl
   cases hA : A.length with
   | zero => rw [hA] at hcov; simp [cover] at hcov
   | succ k =>
    rw [hA] at hcov
    simp only [cover, List.map_nil] at hcov
    split at hcov
    ·simp at hcov
    ·simp at hcov
  have hdir : ∀ (i : Nat), i ∈ Region.ready .any ops listed → i < ops.size ∧ i ∈ pre ++ A ++ post ∧ ∀ k ∈ dirs ops i, k ∉ pre ++ A ++ post := by
   intro i hi
   rw [mem_ready] at hi
   obtain ⟨h1, o, ho, h2⟩ := hi
   have hlt := (Array.getElem?_eq_some_iff.1 ho).1
   refine ⟨hlt, (hli i hlt).1 h1, fun k hk hkr => ?_⟩
   unfold dirs at hk
   rw [ho] at hk
   simp only [List.mem_map, List.mem_filter, Array.mem_toList_iff] at hk
   obtain ⟨e, ⟨he, hb⟩, rfl⟩ := hk
   have h3 := h2 e he hb
   have h4 := (hli e.on (hm _ hkr)).2 hkr
   rw [Array.getD_eq_getD_getElem?] at h3 h4
   cases hq : listed[e.on]? with
   | none => rw [hq] at h4; simp at h4
   | some b => rw [hq] at h3 h4; simp at h3 h4; rw [h3] at h4; cases h4
  have isReady : ∀ (i : Nat), i ∈ pre ++ A ++ post → (∀ k ∈ dirs ops i, k ∉ pre ++ A ++ post) → i ∈ Region.ready .any ops listed := by
   intro i hi hno
   have hlt := hm i hi
   rw [mem_ready]
   refine ⟨(hli i hlt).2 hi, ops[i], by simp [hlt], fun e he hb => ?_⟩
   have hk : e.on ∈ dirs ops i := by
    unfold dirs
    rw [show ops[i]? = some ops[i] by simp [hlt]]
    simp only [List.mem_map, List.mem_filter, Array.mem_toList_iff]
    exact ⟨e, ⟨he, hb⟩, rfl⟩
   have hne := c5 i hlt _ hk
   cases hq : listed.getD e.on true with
   | false => exact absurd ((hli e.on hne.2).1 hq) (hno _ hk)
   | true =>
    rw [Array.getD_eq_getD_getElem?] at hq ⊢
    have h4 : e.on < listed.size := by rw [hsz]; exact hne.2
    rw [Array.getElem?_eq_getElem h4] at hq ⊢
    simpa using hq
  have pk : ∀ {x y : Nat}, pairOk ops gd tk tp x y = true → y ∉ dirs ops x := by
   intro x y h hy
   simp only [pairOk, Bool.and_eq_true, Bool.not_eq_true', List.contains_eq_mem, decide_eq_false_iff_not] at h
   exact h.1 hy
  have hself : ∀ {x : Nat}, x ∈ pre ++ A ++ post → x ∉ dirs ops x := fun hx hd => (c5 _ (hm _ hx) _ hd).1 rfl
  refine ⟨fun hno => ?_, fun i hi => ?_⟩
  ·-- the first one is ready
   exfalso
   have key : ∀ i, i ∈ pre ++ A ++ post → (∀ k ∈ dirs ops i, k ∉ pre ++ A ++ post) → False := fun i h1 h2 => by
    have := isReady i h1 h2
    rw [hno] at this; cases this
   cases pre with
   | cons i pre =>
    refine key i (by simp) fun k hk hkr => ?_
    simp only [List.cons_append, List.mem_cons, List.mem_append] at hkr
    rcases hkr with rfl | (h | h) | h
    ·exact hself (by simp) hk
    ·exact pk ((List.pairwise_cons.1 hL.p1).1 k h) hk
    ·exact pk (hL.p3 i (by simp) k h) hk
    ·exact pk (hL.p4 i (by simp) k h) hk
   | nil =>
    cases A with
    | cons i0 A0 =>
     have hcov0 := hcov
     rw [List.length_cons] at hcov0
     simp only [cover] at hcov0
     split at hcov0
     ·rename_i e; cases e
     ·rw [Bool.and_eq_true, Bool.and_eq_true] at hcov0
      obtain ⟨i, hiA, hin⟩ := List.any_eq_true.1 hcov0.1.2
      rw [Bool.not_eq_true', List.any_eq_false] at hin
      refine key i (by simp only [List.nil_append, List.mem_append]; exact .inl hiA) fun k hk hkr => ?_
      simp only [List.nil_append, List.mem_append] at hkr
      rcases hkr with h | h
      ·have := hin k h
       rw [List.contains_eq_mem] at this
       simp [hk] at this
      ·exact pk (hL.p5 i hiA k h) hk
    | nil =>
     cases post with
     | cons i post =>
      refine key i (by simp) fun k hk hkr => ?_
      simp only [List.nil_append, List.mem_cons] at hkr
      rcases hkr with rfl | h
      ·exact hself (by simp) hk
      ·exact pk ((List.pairwise_cons.1 hL.p2).1 k h) hk
     | nil => simp at hl
  ·obtain ⟨hlt, hir, hdn⟩ := hdir i hi
   have ho : ops[i]? = some ops[i] := by simp [hlt]
   -- what stands before it does not mind
   have hmove : ∀ (X Y : List Nat) (K : St → Prop) (s : St), (∀ p ∈ X, pairOk ops gd tk tp p i = true ∧ p ∈ pre ++ A ++ post) → D P n gd tk ((X ++ i :: Y).filterMap (ops[·]?)) K s →
     D P n gd tk (ops[i] :: (X ++ Y).filterMap (ops[·]?)) K s := by
    intro X Y K s hX h
    rw [List.filterMap_append, List.filterMap_cons, ho] at h
    rw [List.filterMap_append]
    refine D_front _ ?_ h
    intro p hpm
    obtain ⟨j, hj, hjo⟩ := List.mem_filterMap.1 hpm
    obtain ⟨h1, h2⟩ := hX j hj
    simp only [pairOk, Bool.and_eq_true, Bool.or_eq_true, List.contains_eq_mem, decide_eq_true_eq] at h1
    rcases h1.2 with h3 | h3
    ·exfalso
     rcases c4 i hlt j h3 with h4 | ⟨k, h4, h5⟩
     ·exact hdn j h4 h2
     ·exact hcl k (c5 i hlt k h4).2 (hdn k h4) j h5 h2
    ·rw [hjo, ho] at h3; exact h3
   -- the next round
   have next : ∀ (pre' A' post' : List Nat) (T' : List (List Nat × (St → Prop))) (a' : Act) (w' : World), (pre' ++ A' ++ post').length = fuel → Left ops gd tk tp pre' A' post' → (∀ j, j ∈ pre' ++ A' ++ post' ↔ j ∈ pre ++ A ++ post ∧ j ≠ i) →
     cover ops A'.length A' (T'.map (·.1)) = true → (∀ t ∈ T', t.1.Perm A') → (∀ t ∈ T', ∀ s, t.2 s → ∀ a w, At g s a w → QL g Q .normal a w) →
     (∀ t ∈ T', ∃ s, D P n gd tk ((pre' ++ t.1 ++ post').filterMap (ops[·]?)) t.2 s ∧ At g s a' w') → wpAny P .any ops (QL g Q) fuel (listed.setIfInBounds i true) a' w' := by
    intro pre' A' post' T' a' w' e1 e2 e3 e4 e5 e6 e7
    refine ih pre' A' post' _ a' w' T' e1 e2 (fun j hj => hm j ((e3 j).1 hj).1) (by simp [hsz]) ?_ ?_ e4 e5 e6 e7
    ·intro j hj
     by_cases hji : j = i
     ·subst hji
      have : ¬ (j ∈ pre' ++ A' ++ post') := fun h => ((e3 j).1 h).2 rfl
      simp only [this, iff_false]
      simp [hsz, hj]
     ·rw [getD_set_ne true (fun e => hji e.symm), hli j hj, e3 j]
      simp [hji]
    ·intro k hk hkr j hj hjr
     obtain ⟨h1, h2⟩ := (e3 j).1 hjr
     by_cases hki : k = i
     ·subst hki
      rcases c4 k hk j hj with h3 | ⟨q, h3, h4⟩
      ·exact hdn j h3 h1
      ·exact hcl q (c5 k hk q h3).2 (hdn q h3) j h4 h1
     ·exact hcl k hk (fun h => hkr ((e3 k).2 ⟨h, hki⟩)) j hj h1
   -- one round: an operation that is no call
   have round : ∀ (pre' A' post' : List Nat) (T' : List (List Nat × (St → Prop))), isCall ops[i] = false → T' ≠ [] → (pre' ++ A' ++ post').length = fuel → Left ops gd tk tp pre' A' post' → (∀ j, j ∈ pre' ++ A' ++ post' ↔ j ∈ pre ++ A ++ post ∧ j ≠ i) →
     cover ops A'.length A' (T'.map (·.1)) = true → (∀ t ∈ T', t.1.Perm A') → (∀ t ∈ T', ∀ s, t.2 s → ∀ a w, At g s a w → QL g Q .normal a w) →
     (∀ t ∈ T', ∃ s, D P n gd tk (ops[i] :: (pre' ++ t.1 ++ post').filterMap (ops[·]?)) t.2 s ∧ At g s a w) → wpOp P ops (QL g Q) i (wpAny P .any ops (QL g Q) fuel (listed.setIfInBounds i true)) a w := by
    intro pre' A' post' T' hc hne e1 e2 e3 e4 e5 e6 e7
    have hall : ∀ t ∈ T', (Region.wanted ops[i] (yielded ops a.tmps) = true ∧ ∃ s', D P n gd tk ((pre' ++ t.1 ++ post').filterMap (ops[·]?)) t.2 s' ∧ Does P g a w ops[i] s') ∨ (Region.wanted ops[i] (yielded ops a.tmps) = false ∧ ∃ s', D P n gd tk ((pre' ++ t.1 ++ post').filterMap (ops[·]?)) t.2 s' ∧ At g s' (a.put ops[i].dst undef) w) := by
     intro t ht
     obtain ⟨s, h1, h2⟩ := e7 t ht
     exact D_does hgd hc h1 hn h2
    unfold wpOp
    simp only [ho]
    cases hw : Region.wanted ops[i] (yielded ops a.tmps) with
    | false =>
     simp only [Bool.false_eq_true, if_false]
     refine next pre' A' post' T' _ _ e1 e2 e3 e4 e5 e6 fun t ht => ?_
     rcases hall t ht with ⟨h, _⟩ | ⟨_, h⟩
     ·rw [hw] at h; cases h
     ·exact h
    | true =>
     simp only [if_true]
     left
     have hdo : ∀ t ∈ T', ∃ s', D P n gd tk ((pre' ++ t.1 ++ post').filterMap (ops[·]?)) t.2 s' ∧ Does P g a w ops[i] s' := by
      intro t ht
      rcases hall t ht with ⟨_, h⟩ | ⟨h, _⟩
      ·exact h
      ·rw [hw] at h; cases h
     obtain ⟨t0, ht0⟩ := List.exists_mem_of_ne_nil T' hne
     obtain ⟨s0, _, hd0⟩ := hdo t0 ht0
     unfold Oper.wp
     rcases hd0 with ⟨v, w', hr, _⟩ | ⟨w', hr, _⟩
     ·rw [hr, Oper.upon_value]
      refine next pre' A' post' T' _ _ e1 e2 e3 e4 e5 e6 fun t ht => ?_
      obtain ⟨s', h1, h2⟩ := hdo t ht
      rcases h2 with ⟨v', w'', hr', h2⟩ | ⟨w'', hr', h2⟩
      ·rw [hr] at hr'
       simp only [Result.ok.injEq, Next.value.injEq] at hr'
       obtain ⟨rfl, rfl⟩ := hr'
       exact ⟨s', h1, h2⟩
      ·rw [hr] at hr'; simp at hr'
     ·rw [hr, Oper.upon_skip]
      refine next pre' A' post' T' _ _ e1 e2 e3 e4 e5 e6 fun t ht => ?_
      obtain ⟨s', h1, h2⟩ := hdo t ht
      rcases h2 with ⟨v', w'', hr', h2⟩ | ⟨w'', hr', h2⟩
      ·rw [hr] at hr'; simp at hr'
      ·rw [hr] at hr'
       simp only [Result.ok.injEq, true_and] at hr'
       subst hr'
       exact ⟨s', h1, h2⟩
   -- before and behind what is made
   have side : ∀ (pre' post' : List Nat), (i ∈ pre ∨ i ∈ post) → pre'.Sublist pre → post'.Sublist post → (pre' ++ A ++ post').length = fuel → (∀ j, j ∈ pre' ++ A ++ post' ↔ j ∈ pre ++ A ++ post ∧ j ≠ i) →
     (∀ t ∈ T, ∃ s, D P n gd tk (ops[i] :: (pre' ++ t.1 ++ post').filterMap (ops[·]?)) t.2 s ∧ At g s a w) → wpOp P ops (QL g Q) i (wpAny P .any ops (QL g Q) fuel (listed.setIfInBounds i true)) a w := by
    intro pre' post' hip h1 h2 h3 h4 h5
    have hL' := hL.sub h1 (List.Sublist.refl A) h2
    cases hc : isCall ops[i] with
    | false => exact round pre' A post' T hc hTne h3 hL' h4 hcov hperm hK h5
    | true =>
     have hA : A = [] := by
      cases hAA : A with
      | nil => rfl
      | cons x A' =>
       exfalso
       have hx : x ∈ A := by rw [hAA]; simp
       have hxt := hL.calls i _ hip ho hc x hx
       have hxr : x ∈ pre ++ A ++ post := by simp [hx]
       rcases c4 i hlt x hxt with h6 | ⟨k, h6, h7⟩
       ·exact hdn x h6 hxr
       ·exact hcl k (c5 i hlt k h6).2 (hdn k h6) x h7 hxr
     subst hA
     have hT := cover_nil hcov
     cases T with
     | nil => simp at hT
     | cons t T =>
      simp only [List.map_cons, List.cons.injEq, List.map_eq_nil_iff] at hT
      obtain ⟨hT1, rfl⟩ := hT
      obtain ⟨s, g1, g2⟩ := h5 t (by simp)
      refine D_exec hgd ho g1 hn g2 ?_
      intro s' a' w' hD' hat'
      refine next pre' [] post' [t] a' w' h3 hL' h4 ?_ (fun u hu => hperm u hu) (fun u hu => hK u hu) (fun u hu => ?_)
      ·simp [cover, hT1]
      ·simp only [List.mem_singleton] at hu
       subst hu
       exact ⟨s', hD', hat'⟩
   have hnd := hL.nodup
   simp only [List.mem_append] at hir
   rcases hir with (h | h) | h
   ·obtain ⟨X, Y, rfl⟩ := List.append_of_mem h
    refine side (X ++ Y) post (.inl h) (List.Sublist.append (List.Sublist.refl _) (List.sublist_cons_self _ _)) (List.Sublist.refl _) (by simp at hl ⊢; omega) ?_ ?_
    ·intro j
     have hni : i ∉ X ++ Y ++ A ++ post := by
      have : (i :: (X ++ (Y ++ (A ++ post)))).Nodup := by
       have := hnd
       simp only [List.append_assoc, List.cons_append] at this
       exact this.perm List.perm_middle
      have := (List.nodup_cons.1 this).1
      simpa [List.append_assoc] using this
     constructor
     ·intro hj
      refine ⟨?_, fun e => hni (e ▸ hj)⟩
      simp only [List.mem_append, List.mem_cons] at hj ⊢
      rcases hj with ((h | h) | h) | h <;> simp [h]
     ·rintro ⟨hj, hne⟩
      simp only [List.mem_append, List.mem_cons] at hj ⊢
      rcases hj with ((h | h | h) | h) | h
      ·simp [h]
      ·exact absurd h hne
      ·simp [h]
      ·simp [h]
      ·simp [h]
    ·intro t ht
     obtain ⟨s, h1, h2⟩ := hD t ht
     refine ⟨s, ?_, h2⟩
     have := hmove X (Y ++ t.1 ++ post) t.2 s (fun p hp => ⟨?_, by simp [hp]⟩) (by simpa [List.append_assoc] using h1)
     ·simpa [List.append_assoc] using this
     ·exact (List.pairwise_append.1 hL.p1).2.2 p hp i (by simp)
   ·-- one of those that make
    have hcA := hL.noc i _ h ho
    let T' : List (List Nat × (St → Prop)) := T.filterMap fun t => match t.1 with | j :: r => if j = i then some (r, t.2) else none | [] => none
    have hT' : ∀ u ∈ T', ∃ t ∈ T, t.1 = i :: u.1 ∧ t.2 = u.2 := by
     intro u hu
     obtain ⟨t, ht, h1⟩ := List.mem_filterMap.1 hu
     refine ⟨t, ht, ?_⟩
     split at h1
     ·rename_i j r hj
      split at h1
      ·rename_i hji
       obtain rfl := Option.some.inj h1
       exact ⟨by rw [hj, hji], rfl⟩
      ·cases h1
     ·cases h1
    have hmapT : T'.map (·.1) = (T.map (·.1)).filterMap fun t => match t with | j :: r => if j = i then some r else none | [] => none := by
     rw [List.map_filterMap, List.filterMap_map]
     congr 1
     funext t
     simp only [Function.comp]
     cases t.1 with
     | nil => rfl
     | cons j r =>
      simp only
      split <;> rfl
    have hAl : A.length = (A.erase i).length + 1 := by
     rw [List.length_erase_of_mem h]
     have := List.length_pos_of_mem h
     omega
    have hcov' : cover ops (A.erase i).length (A.erase i) (T'.map (·.1)) = true := by
     rw [hAl] at hcov
     simp only [cover] at hcov
     split at hcov
     ·rename_i e; rw [e] at h; cases h
     ·rw [Bool.and_eq_true, Bool.and_eq_true, List.all_eq_true] at hcov
      rw [hmapT]
      have := hcov.2 i h
      rw [Bool.or_eq_true] at this
      rcases this with h7 | h7
      ·obtain ⟨j, hj, hjd⟩ := List.any_eq_true.1 h7
       rw [List.contains_eq_mem, decide_eq_true_eq] at hjd
       exact absurd (by simp [hj]) (hdn j hjd)
      ·exact h7
    have hAn : A.Nodup := by
     have := hnd
     rw [List.append_assoc] at this
     exact ((List.nodup_append.1 (List.nodup_append.1 this).2.1)).1
    have hmemE : ∀ j, j ∈ A.erase i ↔ j ≠ i ∧ j ∈ A := fun j => hAn.mem_erase_iff
    refine round pre (A.erase i) post T' hcA ?_ ?_ (hL.sub (List.Sublist.refl _) List.erase_sublist (List.Sublist.refl _)) ?_ hcov' ?_ ?_ ?_
    ·intro e
     have : T'.map (·.1) = [] := by rw [e]; rfl
     rw [this] at hcov'
     cases hq : (A.erase i).length with
     | zero => rw [hq] at hcov'; simp [cover] at hcov'
     | succ k =>
      rw [hq] at hcov'
      simp only [cover] at hcov'
      split at hcov' <;> simp at hcov'
    ·simp only [List.length_append] at hl ⊢
     omega
    ·intro j
     have hdis : i ∉ pre ∧ i ∉ post := by
      refine ⟨fun hp => ?_, fun hp => ?_⟩
      ·exact (List.nodup_append.1 (List.nodup_append.1 hnd).1).2.2 i hp i h rfl
      ·exact (List.nodup_append.1 hnd).2.2 i (by simp [h]) i hp rfl
     simp only [List.mem_append, hmemE]
     constructor
     ·rintro ((h1 | h1) | h1)
      ·exact ⟨by simp [h1], fun e => hdis.1 (e ▸ h1)⟩
      ·exact ⟨by simp [h1.2], h1.1⟩
      ·exact ⟨by simp [h1], fun e => hdis.2 (e ▸ h1)⟩
     ·rintro ⟨(h1 | h1) | h1, h2⟩
      ·simp [h1]
      ·simp [h1, h2]
      ·simp [h1]
    ·intro u hu
     obtain ⟨t, ht, e1, e2⟩ := hT' u hu
     have := hperm t ht
     rw [e1] at this
     have h3 := this.erase i
     simpa using h3
    ·intro u hu s hs
     obtain ⟨t, ht, e1, e2⟩ := hT' u hu
     exact hK t ht s (by rw [e2]; exact hs)
    ·intro u hu
     obtain ⟨t, ht, e1, e2⟩ := hT' u hu
     obtain ⟨s, h1, h2⟩ := hD t ht
     refine ⟨s, ?_, h2⟩
     rw [e1, e2] at h1
     have := hmove pre (u.1 ++ post) u.2 s (fun p hp => ⟨hL.p3 p hp i h, by simp [hp]⟩) (by simpa [List.append_assoc] using h1)
     simpa [List.append_assoc] using this
   ·obtain ⟨X, Y, rfl⟩ := List.append_of_mem h
    refine side pre (X ++ Y) (.inr h) (List.Sublist.refl _) (List.Sublist.append (List.Sublist.refl _) (List.sublist_cons_self _ _)) (by simp at hl ⊢; omega) ?_ ?_
    ·intro j
     have hni : i ∉ pre ++ A ++ (X ++ Y) := by
      have : (i :: ((pre ++ A ++ X) ++ Y)).Nodup := by
       have := hnd
       rw [show pre ++ A ++ (X ++ i :: Y) = (pre ++ A ++ X) ++ i :: Y by simp [List.append_assoc]] at this
       exact this.perm List.perm_middle
      have := (List.nodup_cons.1 this).1
      simpa [List.append_assoc] using this
     constructor
     ·intro hj
      refine ⟨?_, fun e => hni (e ▸ hj)⟩
      simp only [List.mem_append, List.mem_cons] at hj ⊢
      rcases hj with (h | h) | h | h <;> simp [h]
     ·rintro ⟨hj, hne⟩
      simp only [List.mem_append, List.mem_cons] at hj ⊢
      rcases hj with (h | h) | h | h | h
      ·simp [h]
      ·simp [h]
      ·simp [h]
      ·exact absurd h hne
      ·simp [h]
    ·intro t ht
     obtain ⟨s, h1, h2⟩ := hD t ht
     refine ⟨s, ?_, h2⟩
     have := hmove (pre ++ t.1 ++ X) Y t.2 s (fun p hp => ?_) (by simpa [List.append_assoc] using h1)
     ·simpa [List.append_assoc] using this
     ·simp only [List.mem_append] at hp
      rcases hp with (hp | hp) | hp
      ·exact ⟨hL.p4 p hp i (by simp), by simp [hp]⟩
      ·have := (hperm t ht).mem_iff.1 hp
       exact ⟨hL.p5 p this i (by simp), by simp [this]⟩
      ·exact ⟨(List.pairwise_append.1 hL.p2).2.2 p hp i (by simp), by simp [hp]⟩
end
def Fin (Q : Exit → St → Prop) (n0 : Nat) (s : St) : Prop := ∃ s', Q .normal s' ∧ ∀ (g : G) (a : Act) (w : World), g.m.length ≤ n0 → At g s a w → At g s' a w
theorem Fin.id {Q : Exit → St → Prop} {n0 : Nat} {s : St} (h : Q .normal s) : Fin Q n0 s := ⟨s, h, fun _ _ _ _ h => h⟩
theorem Fin.sw {Q : Exit → St → Prop} {n0 : Nat} {s : St} (i j : Nat) (hi : n0 ≤ i) (hj : n0 ≤ j) (hi' : i < s.o.length) (hj' : j < s.o.length) (h : Fin Q n0 (swS i j s)) : Fin Q n0 s := by
 obtain ⟨s', h1, h2⟩ := h
 exact ⟨s', h1, fun g a w hg hat => h2 g a w hg (hat.swap hi' hj' (by omega) (by omega))⟩
section
variable {P : Program} {n : Nat} {Q : Exit → St → Prop} {s : St}
theorem W_drawA {id : Nat} {l : List Oper} (hm : P.follows .mixedOrders = true) (tk : List Nat) (pre A post : List Nat) (tp : List (List Nat)) (T : List (List Nat)) (hok : drawOkA l.toArray (l.map (·.dst)) tk pre A post tp = true)
  (hcov : cover l.toArray A.length A T = true) (hperm : ∀ t ∈ T, t.Perm A) (h : ∀ t ∈ T, D P n (l.map (·.dst)) tk ((pre ++ t ++ post).filterMap (l[·]?)) (Fin Q s.o.length) s) : W P n (.region id l.toArray true) Q s := by
 intro g a w hn hat
 have hat' : At g s a { w with drawn := w.drawn + 1 } := by
  obtain ⟨⟨m, reg, h1, h2, h3⟩, h4, h5, h6⟩ := hat
  have hg := Grow.draw w (w.drawn + 1)
  exact ⟨⟨m, reg, h1.grow hg, h2, h3⟩, h4.trans (hg.evol (fun _ _ => False)) (fun _ _ k => k.elim), h5, h6⟩
 have hgl := hat.glen
 simp only [drawOkA, Bool.and_eq_true, decide_eq_true_eq, List.all_eq_true, List.mem_range, Bool.or_eq_true, List.contains_iff_mem, List.any_eq_true, bne_iff_ne, beq_iff_eq, Bool.not_eq_true'] at hok
 obtain ⟨⟨⟨⟨⟨⟨⟨⟨⟨⟨⟨⟨c1, c2⟩, c3⟩, c4⟩, c5⟩, q1⟩, q2⟩, q3⟩, q4⟩, q5⟩, q7⟩, q8⟩, q9⟩ := hok
 refine wp_region_any hm ?_
 have hL : Left l.toArray (l.map (·.dst)) tk tp pre A post := by
  refine ⟨c1, q1, q2, q3, q4, q5, fun i o hi ho hc x hx => ?_, fun i o hi ho => ?_⟩
  ·have := q7 i (by simpa using hi)
   rw [ho] at this
   simp only [Bool.or_eq_true, Bool.not_eq_true', List.all_eq_true, List.contains_iff_mem] at this
   rcases this with h | h
   ·rw [hc] at h; cases h
   ·exact h x hx
  ·have := q8 i hi
   rw [ho] at this
   simpa using this
 refine wpAny_of_DA (P := P) (n := n) (Q := Q) (by simp) c4 c5 hn _ pre A post _ a _ (T.map fun t => (t, Fin Q s.o.length)) q9 hL c3 (by simp) ?_ ?_ ?_ ?_ ?_ ?_
 ·intro i hi
  constructor
  ·intro _; exact c2 i hi
  ·intro _; simp only [List.size_toArray] at hi; simp [hi]
 ·intro k hk hkr; exact absurd (c2 k hk) hkr
 ·rw [List.map_map]; simpa [Function.comp_def] using hcov
 ·intro t ht
  obtain ⟨t', ht', rfl⟩ := List.mem_map.1 ht
  exact hperm t' ht'
 ·intro t ht s1 hs1 a1 w1 hat1
  obtain ⟨t', ht', rfl⟩ := List.mem_map.1 ht
  obtain ⟨s', k1, k2⟩ := hs1
  exact ⟨s', k1, k2 g a1 w1 hgl hat1⟩
 ·intro t ht
  obtain ⟨t', ht', rfl⟩ := List.mem_map.1 ht
  exact ⟨s, by simpa using h t' ht', hat'⟩
end
end Go.AW
namespace Go.AW
open Go
set_option linter.unusedSimpArgs false
set_option linter.unusedVariables false
theorem Hand.none (o : List Ob) : Hand o [] [] := ⟨rfl, List.nodup_nil, fun j i h => by simp at h⟩
theorem ACallsD.frame {P : Program} {f : FuncId} {ac : List AV} {r : AV} (h : ACallsD P f ac r) (hac : ac.all (AV.ltk 0) = true) (hr : r.ltk 0 = true) (oc : List Ob) : ACallsQ P f ac oc r := by
 refine ⟨h.1, fun w Z m reg vs hlen hrel => ?_⟩
 have H := Hand.none oc
 have hd := hrel.down H (S := 0) (n := ac.length) (ac := fun k => ac.getD k .any) (fun k hk => by
  simp only [Nat.zero_add]
  have hl : (ac.getD k .any).ltk 0 = true := by
   rw [List.getD_eq_getElem?_getD, List.getElem?_eq_getElem hk]
   exact List.all_eq_true.1 hac _ (List.getElem_mem hk)
  refine ⟨?_, hl⟩
  conv => lhs; rw [← ren_self (ac.getD k .any)]
  exact ren_congr (n := 0) (fun j hj => by omega) _ hl)
 have e1 : (fun k => if k < ac.length then ac.getD k .any else AV.any) = fun k => ac.getD k .any := by
  funext k
  by_cases hk : k < ac.length
  ·rw [if_pos hk]
  ·rw [if_neg hk, List.getD_eq_getElem?_getD, List.getElem?_eq_none (by omega)]; rfl
 have e2 : (fun k => if k < ac.length then vs.getD (0 + k) undef else undef) = fun k => vs.getD k undef := by
  funext k
  by_cases hk : k < ac.length
  ·rw [if_pos hk, Nat.zero_add]
  ·rw [if_neg hk, List.getD_eq_getElem?_getD, List.getElem?_eq_none (by omega)]; rfl
 rw [e1, e2] at hd
 refine Calls.mono (h.2 w _ _ _ vs hlen hd) ?_
 rintro e w' ⟨v, r', o', m', reg', he, ⟨rfl, rfl⟩, k1, k2, k3, k4⟩
 obtain ⟨g1, g2, g3⟩ := Rel.up (t1 := fun _ => .any) (u1 := fun _ => undef) (d := 0) hrel H k1 k2 k3 k4 (fun k => by simp only [V]) (fun k sz rows h => by cases h) (fun k sz rows h => by cases h)
 have ea : after oc [] [] = oc := by simp [after, back]
 have er : r'.ren (phi [] oc.length) = r' := by
  conv => rhs; rw [← ren_self r']
  exact ren_congr (n := 0) (fun j hj => by omega) _ hr
 rw [ea, er] at g1
 rw [ea] at g3
 refine ⟨v, r', oc, _, _, he, ⟨rfl, rfl⟩, ?_, g2, g3, fun id mb hm => ?_⟩
 ·exact g1
 ·rw [List.getElem?_append_left (List.getElem?_eq_some_iff.1 hm).1]; exact hm
end Go.AW
