/-
AW, part Zx: the loop over a map. While it runs, the map's object is hidden ('dead') and neither its block nor the iterator's is turned by what the rounds do.
-/
import Derived.Test.YtfjdiofipbchcaaKaf
import Derived.Maps.RangeRun
import Derived.Shelf.Spec.SlicesGrow
namespace Go.AW
open Go
set_option linter.unusedSimpArgs false
set_option linter.unusedVariables false
def AV.lit : AV → Bool
  | .b _ | .i _ _ | .s _ => true
  | _ => false
theorem V_lit {w w' : World} {Y Y' : CS} {m m' : List MB} {a : AV} {v : Value} (h : a.lit = true) (k : V w Y m a v) : V w' Y' m' a v := by
  cases a <;> simp_all [AV.lit, V]
def litE (es : List (AV × AV)) : Bool := es.all fun e => e.1.lit && e.2.lit
theorem MapR_lit {w w' : World} {Y Y' : CS} {m m' : List MB} : ∀ {es : List (AV × AV)} {l : List MapEntry}, litE es = true → MapR w Y m es l → MapR w' Y' m' es l
  | [], _, _, k => by simpa only [MapR] using k
  | (a, b) :: r, _, h, k => by
    simp only [litE, List.all_cons, Bool.and_eq_true] at h
    simp only [MapR] at k ⊢
    obtain ⟨e, t, h1, h2, h3, h4⟩ := k
    exact ⟨e, t, h1, V_lit h.1.1 h2, V_lit h.1.2 h3, MapR_lit (by simpa [litE] using h.2) h4⟩
theorem Rel.hideMap {w : World} {Z : CS} {m : List MB} {reg : Pl → Option Reg} {t : Nat → AV} {u : Nat → Value} {o : List Ob} (h : Rel w Z m reg t u o) {id : Nat} {es : List (AV × AV)} {mb : MB}
    (ho : o[id]? = some (.mapo es)) (hm : m[id]? = some mb) : Rel w (fun b x => Z b x ∨ b = mb.blk) m reg t u (o.set id .dead) ∧ (∀ b x, XS m reg (o.set id .dead) b x → XS m reg o b x) := by
  have live' : ∀ {i : Nat} {x : Ob}, (o.set id .dead)[i]? = some x → x.live → i ≠ id ∧ o[i]? = some x := by
    intro i x hi hl
    rw [set_get ho] at hi
    split at hi
    · obtain rfl := Option.some.inj hi; exact hl.elim
    · rename_i e; exact ⟨e, hi⟩
  have hX : ∀ b x, XS m reg (o.set id .dead) b x → XS m reg o b x := by
    rintro b x (⟨j, ob, mb', g1, g2, g3, g4⟩ | k)
    · exact .inl ⟨j, ob, mb', (live' g1 g2).2, g2, g3, g4⟩
    · exact .inr k
  have hY : ∀ b x, YS (fun b x => Z b x ∨ b = mb.blk) m reg (o.set id .dead) b x → YS Z m reg o b x := by
    rintro b x (k | k | rfl)
    · exact .inl (hX b x k)
    · exact .inr k
    · exact .inl (.inl ⟨id, _, mb, ho, trivial, hm, rfl⟩)
  have K := Keeps.sub (w := w) m hY
  refine ⟨⟨by simp [h.len], fun k => V.keep K _ _ (h.tv k), ?_, ?_, h.rok, ?_, h.rdj, ?_, ?_, ?_⟩, hX⟩
  · intro j x mb' hj hmj
    rw [set_get ho] at hj
    split at hj
    · obtain rfl := Option.some.inj hj; trivial
    · exact Ob.keep K x (fun _ => rfl) (h.ob j x mb' hj hmj)
  · intro i j x y a b hi hj lx ly ha hb e
    exact h.inj i j x y a b (live' hi lx).2 (live' hj ly).2 lx ly ha hb e
  · intro p rg j x mb' hp hj hl hmj
    exact h.rob p rg j x mb' hp (live' hj hl).2 hl hmj
  · intro p sz rows v hl hv
    refine h.own p sz rows v ?_ hv
    cases p with
    | t k => exact hl
    | o i r c =>
      simp only [leaf, set_get ho] at hl ⊢
      split at hl
      · rename_i e
        split at e
        · cases e
        · rename_i e'; rw [e]; exact hl
      · cases hl
  · rintro b x (hz | rfl) hx
    · exact h.zx b x hz (hX b x hx)
    · rcases hx with ⟨j, ob, mb', g1, g2, g3, g4⟩ | ⟨p, r, hp, hb, _⟩
      · obtain ⟨hne, hj⟩ := live' g1 g2
        exact hne (h.inj j id ob _ mb' mb hj ho g2 trivial g3 hm g4)
      · exact h.rob p r id _ mb hp ho trivial hm hb.symm
  · rintro b x (hz | rfl)
    · exact h.zs b x hz
    · obtain ⟨ents, clock, g1, _⟩ := h.ob id _ mb ho hm
      exact get_lt g1
theorem Rel.addDead {w : World} {Z : CS} {m : List MB} {reg : Pl → Option Reg} {t : Nat → AV} {u : Nat → Value} {o : List Ob} (h : Rel w Z m reg t u o) (x : Obj) :
    Rel { w with heap := w.heap.push x } (fun b y => Z b y ∨ b = w.heap.size) (m ++ [⟨w.heap.size, 0, 0, 0⟩]) reg t u (o ++ [.dead]) ∧
      (∀ b y, XS (m ++ [⟨w.heap.size, 0, 0, 0⟩]) reg (o ++ [.dead]) b y → XS m reg o b y) := by
  have g := Grow.push w x
  have h' := h.grow g
  have live' : ∀ {i : Nat} {x : Ob}, (o ++ [.dead])[i]? = some x → x.live → o[i]? = some x := by
    intro i x hi hl
    rw [append_get] at hi
    split at hi
    · obtain rfl := Option.some.inj hi; exact hl.elim
    · exact hi
  have mget : ∀ {i : Nat} {mb : MB} {x : Ob}, o[i]? = some x → (m ++ [⟨w.heap.size, 0, 0, 0⟩])[i]? = some mb → m[i]? = some mb := by
    intro i mb x hi hm
    have := (List.getElem?_eq_some_iff.1 hi).1
    rw [append_get, if_neg (by rw [h.len]; omega)] at hm
    exact hm
  have hX : ∀ b y, XS (m ++ [⟨w.heap.size, 0, 0, 0⟩]) reg (o ++ [.dead]) b y → XS m reg o b y := by
    rintro b y (⟨j, ob, mb', g1, g2, g3, g4⟩ | k)
    · exact .inl ⟨j, ob, mb', live' g1 g2, g2, mget (live' g1 g2) g3, g4⟩
    · exact .inr k
  have K : Keeps w (YS Z m reg o) m { w with heap := w.heap.push x } (YS (fun b y => Z b y ∨ b = w.heap.size) (m ++ [⟨w.heap.size, 0, 0, 0⟩]) reg (o ++ [.dead])) (m ++ [⟨w.heap.size, 0, 0, 0⟩]) := by
    refine ⟨fun b y v hc hy => ⟨g.cell hc, ?_⟩, fun id mb hm => ?_⟩
    · rintro (k | k | rfl)
      · exact hy (.inl (hX b y k))
      · exact hy (.inr k)
      · have := cell_lt hc; omega
    · rw [append_get, if_neg (by have := (List.getElem?_eq_some_iff.1 hm).1; omega)]
      exact hm
  refine ⟨⟨by simp [h.len], fun k => V.keep K _ _ (h.tv k), ?_, ?_, h'.rok, ?_, h.rdj, ?_, ?_, ?_⟩, hX⟩
  · intro j x' mb' hj hmj
    rw [append_get] at hj
    split at hj
    · obtain rfl := Option.some.inj hj; trivial
    · have hm := mget hj hmj
      have hob := h.ob j x' mb' hj hm
      refine Ob.keep K x' (fun hl => ?_) hob
      refine g.block _ ?_
      cases x' with
      | cells sz rows => obtain ⟨_, ⟨c, e, g1, _⟩, _⟩ := hob; exact get_lt g1
      | mapo es => obtain ⟨ents, clock, g1, _⟩ := hob; exact get_lt g1
      | _ => exact hl.elim
  · intro i j x y a b hi hj lx ly ha hb e
    have hi' := live' hi lx; have hj' := live' hj ly
    exact h.inj i j x y a b hi' hj' lx ly (mget hi' ha) (mget hj' hb) e
  · intro p rg j x mb' hp hj hl hmj
    have hj' := live' hj hl
    exact h.rob p rg j x mb' hp hj' hl (mget hj' hmj)
  · intro p sz rows v hl hv
    have hlo : leaf t o p = some (.own sz rows) := by
      cases p with
      | t k => exact hl
      | o i r c =>
        simp only [leaf, append_get] at hl ⊢
        split at hl
        · rename_i e
          split at e
          · cases e
          · rw [e]; exact hl
        · cases hl
    refine h'.own p sz rows v hlo ?_
    cases p with
    | t k => exact hv
    | o i r c =>
      have : ∃ y, o[i]? = some y := by
        simp only [leaf] at hlo
        cases hq : o[i]? with
        | none => rw [hq] at hlo; cases hlo
        | some y => exact ⟨y, rfl⟩
      obtain ⟨y, hy⟩ := this
      have := (List.getElem?_eq_some_iff.1 hy).1
      simp only [valAt] at hv ⊢
      rw [append_get, if_neg (by rw [h.len]; omega)] at hv
      exact hv
  · rintro b y (hz | rfl) hx
    · exact h.zx b y hz (hX b y hx)
    · rcases hX _ _ hx with ⟨j, ob, mb', g1, g2, g3, g4⟩ | ⟨p, r, hp, hb, _⟩
      · have hob := h.ob j ob mb' g1 g3
        have : mb'.blk < w.heap.size := by
          cases ob with
          | cells sz rows => obtain ⟨_, ⟨c, e, g1, _⟩, _⟩ := hob; exact get_lt g1
          | mapo es => obtain ⟨ents, clock, g1, _⟩ := hob; exact get_lt g1
          | _ => exact g2.elim
        omega
      · have := h.rok p r hp; omega
  · rintro b y (hz | rfl)
    · have := h.zs b y hz; simp; omega
    · simp
theorem Rel.setHid {w : World} {Z : CS} {m : List MB} {reg : Pl → Option Reg} {t : Nat → AV} {u : Nat → Value} {o : List Ob} (h : Rel w Z m reg t u o) {bi : Nat} (hz : ∀ x, Z bi x) {x x' : Obj}
    (hb : w.heap[bi]? = some x) (hx : ∀ c e q, x ≠ .cells c e q) (hx' : ∀ c e q, x' ≠ .cells c e q) : Rel { w with heap := w.heap.setIfInBounds bi x' } Z m reg t u o := by
  have hlt := get_lt hb
  have hget : ∀ b, ({ w with heap := w.heap.setIfInBounds bi x' } : World).heap[b]? = if b = bi then some x' else w.heap[b]? := by
    intro b
    simp only [Array.getElem?_setIfInBounds]
    by_cases e : b = bi
    · subst e; simp [hlt]
    · rw [if_neg (fun q => e q.symm), if_neg e]
  have hcell : ∀ b y v, w.cell? ⟨b, y, none⟩ = some v → ({ w with heap := w.heap.setIfInBounds bi x' } : World).cell? ⟨b, y, none⟩ = some v := by
    intro b y v hc
    obtain ⟨c, e, f, g1, g2⟩ := cell_at hc
    have : b ≠ bi := by rintro rfl; rw [hb] at g1; exact hx _ _ _ (Option.some.inj g1)
    unfold World.cell? at hc ⊢
    rw [hget, if_neg this]; exact hc
  have K : Keeps w (YS Z m reg o) m { w with heap := w.heap.setIfInBounds bi x' } (YS Z m reg o) m := ⟨fun b y v hc hy => ⟨hcell b y v hc, hy⟩, fun _ _ h => h⟩
  have hnx : ∀ y, ¬ XS m reg o bi y := fun y => h.zx bi y (hz y)
  refine ⟨h.len, fun k => V.keep K _ _ (h.tv k), ?_, h.inj, fun p r hr => by simpa using h.rok p r hr, h.rob, h.rdj, ?_, h.zx, fun b y hz => by simpa using h.zs b y hz⟩
  · intro j y mb' hj hmj
    refine Ob.keep K y (fun hl => ?_) (h.ob j y mb' hj hmj)
    rw [hget, if_neg (fun e => hnx 0 (.inl ⟨j, y, mb', hj, hl, hmj, e⟩))]
  · intro p sz rows v hl hv
    have hv' : valAt w m u p = some v ∨ True := .inr trivial
    cases p with
    | t k =>
      obtain ⟨a, cap, e1, e2⟩ := h.own (.t k) sz rows v hl hv
      refine ⟨a, cap, e1, fun hc => ?_⟩
      obtain ⟨blk, off, lo, c, e, q1, q2, q3, q4, q5⟩ := e2 hc
      exact ⟨blk, off, lo, c, e, q1, q2, q3, by rw [hget, if_neg (fun e => hnx lo (.inr ⟨_, _, q2, e, Nat.le_refl _⟩))]; exact q4, q5⟩
    | o i r c =>
      have hv2 : valAt w m u (.o i r c) = some v := by
        simp only [leaf] at hl
        cases hq : o[i]? with
        | none => rw [hq] at hl; cases hl
        | some y =>
          rw [hq] at hl
          cases y with
          | cells k rs =>
            simp only [valAt] at hv ⊢
            cases hm : m[i]? with
            | none => rw [hm] at hv; cases hv
            | some mb' =>
              rw [hm] at hv
              simp only [Option.bind_some] at hv ⊢
              unfold World.cell? at hv ⊢
              rw [hget, if_neg (fun e => hnx 0 (.inl ⟨i, _, mb', hq, trivial, hm, e⟩))] at hv
              exact hv
          | _ => cases hl
      obtain ⟨a, cap, e1, e2⟩ := h.own (.o i r c) sz rows v hl hv2
      refine ⟨a, cap, e1, fun hc => ?_⟩
      obtain ⟨blk, off, lo, c', e, q1, q2, q3, q4, q5⟩ := e2 hc
      exact ⟨blk, off, lo, c', e, q1, q2, q3, by rw [hget, if_neg (fun e => hnx lo (.inr ⟨_, _, q2, e, Nat.le_refl _⟩))]; exact q4, q5⟩
theorem Rel.showMap {w : World} {Z : CS} {m : List MB} {reg : Pl → Option Reg} {t : Nat → AV} {u : Nat → Value} {o : List Ob} {bm bi : Nat} (h : Rel w (fun b x => (Z b x ∨ b = bm) ∨ b = bi) m reg t u o) {id : Nat} {es : List (AV × AV)} {mb : MB}
    (hm : m[id]? = some mb) (hmb : mb.blk = bm) {ents : Array MapEntry} {clock : Nat} (hb : w.heap[bm]? = some (.map ents clock)) (hl : litE es = true)
    {w0 : World} {Y0 : CS} {m0 : List MB} (hr : MapR w0 Y0 m0 es ents.toList) (hp : ents.toList.Pairwise fun a b => a.born < b.born) (hc : ∀ e ∈ ents.toList, e.born < clock) (hz : ∀ x, ¬ Z bm x) :
    Rel w Z m reg t u (o.set id (.mapo es)) ∧ ∀ b x, XS m reg (o.set id (.mapo es)) b x → XS m reg o b x ∨ b = bm := by
  obtain ⟨y0, ho⟩ : ∃ y, o[id]? = some y := ⟨_, List.getElem?_eq_getElem (by have := (List.getElem?_eq_some_iff.1 hm).1; rw [h.len] at this; exact this)⟩
  have hnx : ∀ y, ¬ XS m reg o bm y := fun y => h.zx bm y (.inl (.inr rfl))
  have hX : ∀ b x, XS m reg (o.set id (.mapo es)) b x → XS m reg o b x ∨ b = bm := by
    rintro b x (⟨j, ob, mb', g1, g2, g3, g4⟩ | k)
    · rw [set_get ho] at g1
      split at g1
      · rename_i e; subst e; rw [hm] at g3; obtain rfl := Option.some.inj g3; exact .inr (g4.symm.trans hmb)
      · exact .inl (.inl ⟨j, ob, mb', g1, g2, g3, g4⟩)
    · exact .inl (.inr k)
  have hY : ∀ b x, YS Z m reg (o.set id (.mapo es)) b x → YS (fun b x => (Z b x ∨ b = bm) ∨ b = bi) m reg o b x := by
    rintro b x (k | k)
    · rcases hX b x k with k | k
      · exact .inl k
      · exact .inr (.inl (.inr k))
    · exact .inr (.inl (.inl k))
  have K := Keeps.sub (w := w) m hY
  refine ⟨⟨by simp [h.len], fun k => V.keep K _ _ (h.tv k), ?_, ?_, h.rok, ?_, h.rdj, ?_, ?_, fun b x hz => h.zs b x (.inl (.inl hz))⟩, hX⟩
  · intro j x mb' hj hmj
    rw [set_get ho] at hj
    split at hj
    · rename_i e; subst e
      rw [hm] at hmj
      obtain rfl := Option.some.inj hmj
      obtain rfl := Option.some.inj hj
      exact ⟨ents, clock, by rw [hmb]; exact hb, MapR_lit hl hr, hp, hc⟩
    · exact Ob.keep K x (fun _ => rfl) (h.ob j x mb' hj hmj)
  · intro i j x y a b hi hj lx ly ha hb' e
    rw [set_get ho] at hi hj
    split at hi <;> split at hj
    · omega
    · rename_i e1 e2
      subst e1; rw [hm] at ha; obtain rfl := Option.some.inj ha
      exact absurd (.inl ⟨j, y, b, hj, ly, hb', by rw [← e, hmb]⟩) (hnx 0)
    · rename_i e1 e2
      subst e2; rw [hm] at hb'; obtain rfl := Option.some.inj hb'
      exact absurd (.inl ⟨i, x, a, hi, lx, ha, by rw [e, hmb]⟩) (hnx 0)
    · exact h.inj i j x y a b hi hj lx ly ha hb' e
  · intro p rg j x mb' hp hj hl' hmj
    rw [set_get ho] at hj
    split at hj
    · rename_i e; subst e; rw [hm] at hmj; obtain rfl := Option.some.inj hmj
      intro e; exact hnx rg.lo (.inr ⟨p, rg, hp, by rw [← e, hmb], Nat.le_refl _⟩)
    · exact h.rob p rg j x mb' hp hj hl' hmj
  · intro p sz rows v hl' hv
    refine h.own p sz rows v ?_ hv
    cases p with
    | t k => exact hl'
    | o i r c =>
      simp only [leaf, set_get ho] at hl' ⊢
      split at hl'
      · rename_i e
        split at e
        · cases e
        · rw [e]; exact hl'
      · cases hl'
  · intro b x hzb hx
    rcases hX b x hx with k | rfl
    · exact h.zx b x (.inl (.inl hzb)) k
    · exact hz x hzb
structure Hid where
  im : Nat
  ii : Nat
  bm : Nat
  bi : Nat
  ents : Array MapEntry
  clock : Nat
structure HAt (g : G) (h : Hid) (seen : Array Nat) (s : St) (a : Act) (w : World) : Prop where
  rel : ∃ m reg mb mi, Rel w (fun b x => (g.Z b x ∨ b = h.bm) ∨ b = h.bi) m reg s.t (fun k => a.tmps.getD k undef) s.o ∧ (∀ b x, XS m reg s.o b x → g.X b x ∨ g.w.heap.size ≤ b) ∧
    (∀ (id : Nat) mb, g.m[id]? = some mb → m[id]? = some mb) ∧ m[h.im]? = some mb ∧ mb.blk = h.bm ∧ m[h.ii]? = some mi ∧ mi = ⟨h.bi, 0, 0, 0⟩
  evol : Evol g.w g.X w
  size : a.tmps.size = g.n
  defers : a.defers = []
  map : w.heap[h.bm]? = some (.map h.ents h.clock)
  it : w.heap[h.bi]? = some (.mapIter (some h.bm) h.clock seen h.clock)
  gx : ∀ x, g.X h.bm x ∨ g.w.heap.size ≤ h.bm
  gi : g.w.heap.size ≤ h.bi
  zm : ∀ x, ¬ g.Z h.bm x
  ne : h.bm ≠ h.bi
theorem HAt.inner {g : G} {h : Hid} {seen : Array Nat} {s : St} {a : Act} {w : World} (H : HAt g h seen s a w) :
    ∃ g' : G, g'.n = g.n ∧ At g' s a w ∧ ∀ s1 a1 w1, At g' s1 a1 w1 → HAt g h seen s1 a1 w1 := by
  obtain ⟨m, reg, mb, mi, h1, h2, h3, h4, h5, h6, h7⟩ := H.rel
  refine ⟨⟨w, XS m reg s.o, fun b x => (g.Z b x ∨ b = h.bm) ∨ b = h.bi, m, g.n⟩, rfl, ⟨⟨m, reg, h1, fun b x k => .inl k, fun _ _ k => k⟩, .refl _ _, H.size, H.defers⟩, ?_⟩
  rintro s1 a1 w1 ⟨⟨m1, reg1, q1, q2, q3⟩, q4, q5, q6⟩
  simp only at q1 q2 q3 q4 q5
  refine ⟨⟨m1, reg1, mb, mi, q1, fun b x k => ?_, fun id mb' k => q3 _ _ (h3 _ _ k), q3 _ _ h4, h5, q3 _ _ h6, h7⟩, ?_, q5, q6, ?_, ?_, H.gx, H.gi, H.zm, H.ne⟩
  · rcases q2 b x k with k | k
    · exact h2 b x k
    · exact .inr (Nat.le_trans H.evol.size k)
  · exact H.evol.trans q4 fun b x k => (h2 b x k)
  · rw [q4.block h.bm (get_lt H.map) (fun x => h1.zx h.bm x (.inl (.inr rfl)))]; exact H.map
  · rw [q4.block h.bi (get_lt H.it) (fun x => h1.zx h.bi x (.inr rfl))]; exact H.it
theorem W.hid {P : Program} {n : Nat} {c : Code} {Q : Exit → St → Prop} {s : St} (hw : W P n c Q s) {g : G} {h : Hid} {seen : Array Nat} {a : Act} {w : World} (hn : g.n = n) (H : HAt g h seen s a w) :
    c.wp P (fun e a' w' => ∃ s', Q e s' ∧ HAt g h seen s' a' w') a w := by
  obtain ⟨g', h1, h2, h3⟩ := H.inner
  exact wp_mono (hw g' a w (h1.trans hn) h2) fun e a' w' ⟨s', k1, k2⟩ => ⟨s', k1, h3 _ _ _ k2⟩
theorem LetsOut.mono {Q Q' : Exit → Act → World → Prop} (hq : ∀ e a w, Q e a w → Q' e a w) (h : LetsOut Q) : LetsOut Q' := let ⟨a, w, k⟩ := h; ⟨a, w, hq _ _ _ k⟩
theorem Oper.wp_mono2 {P : Program} {o : Oper} {a : Act} {w : World} {K K' : Act → World → Prop} {Q Q' : Exit → Act → World → Prop} (hk : ∀ a w, K a w → K' a w) (hq : ∀ e a w, Q e a w → Q' e a w) (h : o.wp P a w K Q) : o.wp P a w K' Q' := by
  unfold Oper.wp at *
  generalize (execOp a.eval o).run P w = r at *
  cases r with
  | ok n w' =>
    cases n <;> simp only [Oper.upon] at h ⊢ <;>
      first
        | exact hk _ _ h
        | exact Calls.mono h (fun e w'' he => by cases e <;> first | exact hk _ _ he | exact hq _ _ _ he | exact LetsOut.mono hq he)
        | exact Rows.mono h (fun _ _ he => hk _ _ he)
        | exact h
  | halt x w' => cases x <;> simp only [Oper.upon] at h ⊢ <;> first | exact h | exact hq _ _ _ h
theorem wpOps_mono2 {P : Program} {ops : Array Oper} {Q Q' : Exit → Act → World → Prop} (hq : ∀ e a w, Q e a w → Q' e a w) : ∀ (is : List Nat) (a : Act) (w : World), wpOps P ops Q is a w → wpOps P ops Q' is a w
  | [], _, _, h => hq _ _ _ h
  | i :: r, a, w, h => by
    simp only [wpOps] at h ⊢
    split at h
    · exact wpOps_mono2 hq r _ _ h
    · split at h
      · rename_i hw
        rw [if_pos hw]
        exact h.imp (Oper.wp_mono2 (wpOps_mono2 hq r) hq) fun k => ⟨k.1, LetsOut.mono hq k.2⟩
      · rename_i hw
        rw [if_neg hw]
        exact wpOps_mono2 hq r _ _ h
theorem RL.hid {P : Program} {n : Nat} {gd : List (Option Nat)} {rest : List Oper} {Q : Exit → St → Prop} {s : St} (hr : RL P n gd rest Q s) {ops : Array Oper} {is : List Nat} (ho : ops.toList.map (·.dst) = gd) (hf : FitsL ops is rest)
    {g : G} {h : Hid} {seen : Array Nat} {a : Act} {w : World} (hn : g.n = n) (H : HAt g h seen s a w) : wpOps P ops (fun e a' w' => ∃ s', Q e s' ∧ HAt g h seen s' a' w') is a w := by
  obtain ⟨g', h1, h2, h3⟩ := H.inner
  exact wpOps_mono2 (fun e a' w' ⟨s', k1, k2⟩ => ⟨s', k1, h3 _ _ _ k2⟩) is a w (hr ops is ho hf g' a w (h1.trans hn) h2)
theorem HAt.put {g : G} {h : Hid} {seen : Array Nat} {s : St} {a : Act} {w : World} (H : HAt g h seen s a w) {d : Nat} (hd : d < g.n) {av : AV} {v : Value} (hv : ∀ Y m, V w Y m av v) (hl : av.isOwn = false) :
    HAt g h seen ⟨upd s.t d av, s.o⟩ (a.put (some d) v) w := by
  obtain ⟨g', h1, h2, h3⟩ := H.inner
  obtain ⟨⟨m, reg, q1, q2, q3⟩, q4, q5, q6⟩ := h2
  exact h3 _ _ _ (At.put (s := s) q1 q2 q3 q4 q5 q6 (d := some d) (by simpa [dstOk, h1] using hd) (hv _ _) (.inl hl))
theorem HAt.slot {g : G} {h : Hid} {seen : Array Nat} {s : St} {a : Act} {w : World} (H : HAt g h seen s a w) {k : Nat} (hk : s.t k = .ptr h.ii 0 0) : a.eval (.tmp k) = .pointer (some ⟨h.bi, 0, none⟩) := by
  obtain ⟨m, reg, mb, mi, h1, h2, h3, h4, h5, h6, h7⟩ := H.rel
  have := h1.tv k
  rw [hk] at this
  simp only [V] at this
  obtain ⟨mb', e1, e2⟩ := this
  rw [h6] at e1
  obtain rfl := Option.some.inj e1
  subst h7
  rw [show a.eval (.tmp k) = a.tmps.getD k undef from rfl, e2]
  simp
theorem HAt.out {g : G} {h : Hid} {seen : Array Nat} {s : St} {a : Act} {w : World} (H : HAt g h seen s a w) {es : List (AV × AV)} (hl : litE es = true)
    {w0 : World} {Y0 : CS} {m0 : List MB} (hr : MapR w0 Y0 m0 es h.ents.toList) (hp : h.ents.toList.Pairwise fun a b => a.born < b.born) (hc : ∀ e ∈ h.ents.toList, e.born < h.clock) :
    At g ⟨s.t, s.o.set h.im (.mapo es)⟩ a w := by
  obtain ⟨m, reg, mb, mi, h1, h2, h3, h4, h5, h6, h7⟩ := H.rel
  obtain ⟨r1, r2⟩ := h1.showMap h4 h5 H.map hl hr hp hc H.zm
  refine ⟨⟨m, reg, r1, fun b x k => ?_, h3⟩, H.evol, H.size, H.defers⟩
  rcases r2 b x k with k | rfl
  · exact h2 b x k
  · exact H.gx x
theorem HAt.step {g : G} {h : Hid} {seen seen' : Array Nat} {s : St} {a : Act} {w w1 : World} (H : HAt g h seen s a w) (hw : w1 = w ∨ w1 = w.drew) :
    HAt g h seen' s a (Go.ChangeMaps.setBlock w1 h.bi (.mapIter (some h.bm) h.clock seen' h.clock)) := by
  have H1 : HAt g h seen s a w1 := by
    rcases hw with rfl | rfl
    · exact H
    · have gr : Grow w w.drew := ⟨rfl, rfl, rfl, Nat.le_refl _, fun _ _ => rfl⟩
      obtain ⟨m, reg, mb, mi, h1, h2, h3, h4, h5, h6, h7⟩ := H.rel
      exact ⟨⟨m, reg, mb, mi, h1.grow gr, h2, h3, h4, h5, h6, h7⟩, H.evol.trans (gr.evol g.X) (fun b x k => .inl k), H.size, H.defers, H.map, H.it, H.gx, H.gi, H.zm, H.ne⟩
  obtain ⟨m, reg, mb, mi, h1, h2, h3, h4, h5, h6, h7⟩ := H1.rel
  have hlt := get_lt H1.it
  have hget : ∀ b, (Go.ChangeMaps.setBlock w1 h.bi (.mapIter (some h.bm) h.clock seen' h.clock)).heap[b]? = if b = h.bi then some (.mapIter (some h.bm) h.clock seen' h.clock) else w1.heap[b]? := by
    intro b
    simp only [Go.ChangeMaps.setBlock, Array.getElem?_setIfInBounds]
    by_cases e : b = h.bi
    · subst e; simp [hlt]
    · rw [if_neg (fun q => e q.symm), if_neg e]
  refine ⟨⟨m, reg, mb, mi, h1.setHid (fun x => .inr rfl) H1.it (by intros; simp) (by intros; simp), h2, h3, h4, h5, h6, h7⟩, ?_, H1.size, H1.defers, ?_, ?_, H1.gx, H1.gi, H1.zm, H1.ne⟩
  · have hE := H1.evol
    refine ⟨hE.os, hE.tape, hE.output, by simpa [Go.ChangeMaps.setBlock] using hE.size, fun b hb hx => ?_, fun b x v hx hc => ?_⟩
    · rw [hget, if_neg (by have := H1.gi; omega)]; exact hE.block b hb hx
    · have : b < g.w.heap.size := cell_lt hc
      have h9 := hE.cell b x v hx hc
      unfold World.cell? at h9 ⊢
      rw [hget, if_neg (show ¬ b = h.bi by have := H1.gi; omega)]; exact h9
  · rw [hget, if_neg H1.ne]; exact H1.map
  · rw [hget, if_pos rfl]
theorem MapR.pairs {w : World} {Y : CS} {m : List MB} : ∀ {es : List (AV × AV)} {l : List MapEntry}, MapR w Y m es l → ∀ x ∈ es.zip l, V w Y m x.1.1 x.2.key ∧ V w Y m x.1.2 x.2.val
  | [], _, _, x, hx => by simp at hx
  | (a, b) :: r, l, h, x, hx => by
    simp only [MapR] at h
    obtain ⟨e, t, rfl, h2, h3, h4⟩ := h
    simp only [List.zip_cons_cons, List.mem_cons] at hx
    rcases hx with rfl | hx
    · exact ⟨h2, h3⟩
    · exact MapR.pairs h4 x hx
def remE (es : List (AV × AV)) (l : List MapEntry) (seen : Array Nat) : List ((AV × AV) × MapEntry) := (es.zip l).filter fun p => !seen.contains p.2.born
theorem perm_out {α : Type} (f : α → Nat) : ∀ (l : List α) (x : α), x ∈ l → (l.map f).Nodup → l.Perm (x :: l.filter fun y => !(f y == f x))
  | [], x, h, _ => by cases h
  | y :: r, x, h, hn => by
    simp only [List.map_cons, List.nodup_cons] at hn
    rcases List.mem_cons.1 h with rfl | h
    · rw [List.filter_cons, if_neg (by simp)]
      rw [List.filter_eq_self.2 (fun z hz => by
        simp only [Bool.not_eq_true', beq_eq_false_iff_ne]
        intro e; exact hn.1 (e ▸ List.mem_map_of_mem hz))]
    · have hne : f y ≠ f x := fun e => hn.1 (e ▸ List.mem_map_of_mem h)
      rw [List.filter_cons, if_pos (by simpa using hne)]
      exact ((perm_out f r x h hn.2).cons y).trans (List.Perm.swap _ _ _)
theorem zip_born {es : List (AV × AV)} {l : List MapEntry} (h : es.length = l.length) : (es.zip l).map (fun p => p.2.born) = l.map (·.born) := by
  rw [show (fun p : (AV × AV) × MapEntry => p.2.born) = (fun e : MapEntry => e.born) ∘ Prod.snd from rfl, ← List.map_map, List.map_snd_zip (by omega)]
section
variable {P : Program} {n : Nat}
theorem wp_loopN {Q : Exit → Act → World → Prop} {c : Code} (J : Nat → Act → World → Prop) (round : ∀ N a w, J N a w → c.wp P (Exit.then (fun a' w' => ∃ M, M < N ∧ J M a' w') Q) a w) {N : Nat} {a : Act} {w : World} (h0 : J N a w) : (Code.loop c).wp P Q a w := by
  intro b k cs
  have key : ∀ N a w, J N a w → ∃ e a' w', Q e a' w' ∧ Arrives P (lone (b.at a (.code c :: .inLoop c :: k)) cs w) b k cs e a' w' := by
    intro N
    induction N using Nat.strongRecOn with
    | _ N ih =>
      intro a w hI
      obtain ⟨e, a₁, w₁, hq, harr⟩ := round N a w hI b (.inLoop c :: k) cs
      cases e with
      | normal =>
        obtain ⟨M, hM, hJ⟩ := hq
        obtain ⟨e₂, a₂, w₂, hq₂, harr₂⟩ := ih M hM a₁ w₁ hJ
        exact ⟨e₂, a₂, w₂, hq₂, .of_steps (Steps.trans harr (.one step_inLoop)) harr₂⟩
      | exit id => exact ⟨_, a₁, w₁, hq, .pass (x := .inLoop c) rfl (fun _ _ => .inl (by simp)) harr⟩
      | goto l => exact ⟨_, a₁, w₁, hq, .pass (x := .inLoop c) rfl (fun _ _ => .inl (by simp)) harr⟩
      | ret => exact ⟨_, a₁, w₁, hq, .pass (x := .inLoop c) rfl (fun _ _ => .inl (by simp)) harr⟩
      | panic ch => exact ⟨_, a₁, w₁, hq, .pass (x := .inLoop c) rfl (fun _ _ => .inl (by simp)) harr⟩
      | outgrown => exact ⟨_, a₁, w₁, hq, .pass (x := .inLoop c) rfl (fun _ _ => .inl (by simp)) harr⟩
  obtain ⟨e, a', w', hq, harr⟩ := key _ a w h0
  exact ⟨e, a', w', hq, .of_steps (.one step_loop) harr⟩
theorem wpOps_val {ops : Array Oper} {Q : Exit → Act → World → Prop} {i : Nat} {is : List Nat} {o : Oper} {a : Act} {w w' : World} {v : Value} (hi : ops[i]? = some o) (hg : o.guard = none) (hrun : (execOp a.eval o).run P w = .ok (.value v) w')
    (h : wpOps P ops Q is (a.put o.dst v) w') : wpOps P ops Q (i :: is) a w := by
  have hw : Region.wanted o (yielded ops a.tmps) = true := by simp [Region.wanted, hg]
  simp only [wpOps, hi, hw, if_true]
  refine .inl ?_
  unfold Oper.wp
  rw [hrun]
  exact h
theorem wpOps_append {ops : Array Oper} {Q : Exit → Act → World → Prop} {js : List Nat} : ∀ (is : List Nat) (a : Act) (w : World), wpOps P ops (Exit.then (wpOps P ops Q js) Q) is a w → wpOps P ops Q (is ++ js) a w
  | [], _, _, h => h
  | i :: r, a, w, h => by
    simp only [wpOps, List.cons_append] at h ⊢
    split at h
    · exact wpOps_append r _ _ h
    · split at h
      · rename_i hw
        rw [if_pos hw]
        refine h.imp (fun h => ?_) fun k => ⟨k.1, let ⟨a', w', q⟩ := k.2; ⟨a', w', q⟩⟩
        unfold Oper.wp at h ⊢
        generalize (execOp _ _).run P w = r' at *
        cases r' with
        | ok x w' =>
          cases x <;> simp only [Oper.upon] at h ⊢ <;>
            first
              | exact wpOps_append r _ _ h
              | exact Calls.mono h (fun e w'' he => by cases e <;> first | exact wpOps_append r _ _ he | exact he | exact (let ⟨a', w', q⟩ := he; ⟨a', w', q⟩))
              | exact Rows.mono h (fun _ _ he => wpOps_append r _ _ he)
              | exact h
        | halt x w' => cases x <;> simp only [Oper.upon] at h ⊢ <;> first | exact h
      · rename_i hw
        rw [if_neg hw]
        exact wpOps_append r _ _ h
def rangeQ (B B1 im : Nat) (es : List (AV × AV)) (K : St → Prop) (Q : Exit → St → Prop) : Exit → St → Prop
  | .normal, s => K s
  | .exit b, s => if b = B1 then K s else if b = B then Q .normal ⟨s.t, s.o.set im (.mapo es)⟩ else Q (.exit b) ⟨s.t, s.o.set im (.mapo es)⟩
  | e, s => Q e ⟨s.t, s.o.set im (.mapo es)⟩
theorem rangeQ_normal {B B1 im : Nat} {es : List (AV × AV)} {K : St → Prop} {Q : Exit → St → Prop} {s : St} (h : K s) : rangeQ B B1 im es K Q .normal s := h
theorem rangeQ_ret {B B1 im : Nat} {es : List (AV × AV)} {K : St → Prop} {Q : Exit → St → Prop} {s : St} (h : Q .ret ⟨s.t, s.o.set im (.mapo es)⟩) : rangeQ B B1 im es K Q .ret s := h
theorem W_rangeMap {l0 : List Oper} (kk : Nat) {T kt et ty0 ty1 ty2 ty3 : TypeId} {x : Operand} {it d1 d2 d3 B B1 r0 r1 r2 im : Nat} {p0 p1 p2 p3 : String} {f0 f1 f2 f3 : Array Edge} {ops2 : List Oper} {body : Code} {Q : Exit → St → Prop} {s s1 : St} {es : List (AV × AV)}
    (hk : l0.drop kk = [⟨some it, .range T x, ty0, p0, f0, none⟩]) (pre : RL P n (l0.map (·.dst)) (l0.take kk) (fun e s' => e = .normal ∧ s' = s1) s)
    (hu : P.underlying T = some (.map kt et)) (hx : ung true (opd s1.t x) = .mp im) (hid : s1.o[im]? = some (.mapo es)) (hl : litE es = true)
    (hd : (it < n ∧ d1 < n ∧ d2 < n ∧ d3 < n) ∧ d1 ≠ it ∧ d2 ≠ it ∧ d3 ≠ it ∧ d1 ≠ d2)
    (I : List (AV × AV) → (Nat → AV) → List Ob → Prop) (h0 : I es (upd s1.t it (.ptr s1.o.length 0 0)) (s1.o.set im .dead ++ [.dead]))
    (round : ∀ (l l' : List (AV × AV)) (k v : AV) (t : Nat → AV) (o : List Ob), I l t o → t it = .ptr s1.o.length 0 0 → l.Perm ((k, v) :: l') → (∀ y ∈ l, y ∈ es) →
      RL P n ((some d3) :: ops2.map (·.dst)) ops2 (seqQ P n body (rangeQ B B1 im es (fun s' => I l' s'.t s'.o ∧ s'.t it = .ptr s1.o.length 0 0) Q)) ⟨upd (upd (upd t d1 (.tup [.b true, k, v])) d2 (.b true)) d3 (.tup [k, v]), o⟩)
    (fin : ∀ (t : Nat → AV) (o : List Ob), I [] t o → Q .normal ⟨upd (upd t d1 (.tup [.b false])) d2 (.b false), o.set im (.mapo es)⟩) :
    W P n (.seq (.region r0 l0.toArray false) (.block B (.loop (.seq (.region r1 [⟨some d1, .next (.tmp it) false, ty1, p1, f1, none⟩, ⟨some d2, .extract (.tmp d1) 0, ty2, p2, f2, none⟩].toArray false)
          (.seq (.cond (.tmp d2) .skip (.exit B)) (.block B1 (.seq (.region r2 (⟨some d3, .entry (.tmp it), ty3, p3, f3, none⟩ :: ops2).toArray false) body))))))) Q s := by
  obtain ⟨⟨hin, h1n, h2n, h3n⟩, h1i, h2i, h3i, h12⟩ := hd
  intro g a w hn hat
  -- the region before
  refine wp_seq (wp_mono (Q := fun e a' w' => e = .normal ∧ ∃ (h : Hid) (w0 : World) (Y0 : CS) (m0 : List MB), h.im = im ∧ h.ii = s1.o.length ∧ HAt g h #[] ⟨upd s1.t it (.ptr s1.o.length 0 0), s1.o.set im .dead ++ [.dead]⟩ a' w' ∧
      MapR w0 Y0 m0 es h.ents.toList ∧ (h.ents.toList.Pairwise fun a b => a.born < b.born) ∧ ∀ e ∈ h.ents.toList, e.born < h.clock) (wp_region ?_) ?_)
  · have hkl : kk < l0.length := by
      have := congrArg List.length hk
      simp only [List.length_drop, List.length_cons, List.length_nil] at this; omega
    have hlen : l0.length = kk + 1 := by
      have := congrArg List.length hk
      simp only [List.length_drop, List.length_cons, List.length_nil] at this; omega
    have hsz : l0.toArray.size = kk + 1 := by simp [hlen]
    have hlast : l0.toArray[kk]? = some ⟨some it, .range T x, ty0, p0, f0, none⟩ := by
      have : (l0.drop kk)[0]? = some ⟨some it, .range T x, ty0, p0, f0, none⟩ := by rw [hk]; rfl
      rw [List.getElem?_drop] at this
      simpa using this
    rw [hsz, List.range_succ]
    refine wpOps_append _ _ _ ?_
    have hfit : FitsL l0.toArray (List.range kk) (l0.take kk) := by
      have key : ∀ (k : Nat) (i : Nat), i + k ≤ kk → FitsL l0.toArray (List.range' i k) ((l0.drop i).take k) := by
        intro k
        induction k with
        | zero => intro i _; simp [FitsL]
        | succ k ih =>
          intro i hi
          have hil : i < l0.length := by omega
          rw [List.range'_succ, List.drop_eq_getElem_cons hil, List.take_succ_cons]
          refine ⟨by simp [hil], ih (i + 1) (by omega)⟩
      have := key kk 0 (by omega)
      rwa [List.drop_zero, ← List.range_eq_range'] at this
    refine wpOps_mono2 ?_ _ _ _ (pre l0.toArray _ (by simp) hfit g a w hn hat)
    rintro e a' w' ⟨s', ⟨rfl, rfl⟩, hat'⟩
    show wpOps P _ _ [kk] a' w'
    obtain ⟨⟨m, reg, q1, q2, q3⟩, q4, q5, q6⟩ := hat'
    have hv := ung_V (g := true) rfl (opd_V q1.tv x)
    rw [hx] at hv
    simp only [V] at hv
    obtain ⟨mb, hmb, hv⟩ := hv
    obtain ⟨ents, clock, e1, e2, e3, e4⟩ := q1.ob im _ mb hid hmb
    refine wpOps_val hlast rfl (v := .pointer (some ⟨w'.heap.size, 0, none⟩)) (w' := { w' with heap := w'.heap.push (.mapIter (some mb.blk) clock #[] clock) }) ?_ ?_
    · have hg : (getObj mb.blk).run P w' = .ok (.map ents clock) w' := by simp [getObj, Sem.run, e1]
      have hxv : a'.eval x = .map (some mb.blk) := hv
      have : (Instr.range T (.map (some mb.blk))).run P w' = .ok (.pointer (some ⟨w'.heap.size, 0, none⟩)) { w' with heap := w'.heap.push (.mapIter (some mb.blk) clock #[] clock) } := by
        unfold Instr.range
        simp only [srun_bind, run_und hu, hg, srun_pure, Result.andThen]
        simp [newObj, Sem.run]
      show ((do pure (Next.value (← Instr.range T (a'.eval x))) : Sem Next)).run P w' = _
      rw [hxv, srun_bind_ok this]; rfl
    · obtain ⟨r1', x1⟩ := q1.hideMap hid hmb
      obtain ⟨r2', x2⟩ := r1'.addDead (.mapIter (some mb.blk) clock #[] clock)
      have hgr := Grow.push w' (.mapIter (some mb.blk) clock #[] clock)
      have hblt := get_lt e1
      refine ⟨rfl, ⟨im, s'.o.length, mb.blk, w'.heap.size, ents, clock⟩, w', _, m, rfl, rfl, ?_, e2, e3, e4⟩
      have H : HAt g ⟨im, s'.o.length, mb.blk, w'.heap.size, ents, clock⟩ #[] ⟨s'.t, s'.o.set im .dead ++ [.dead]⟩ a' { w' with heap := w'.heap.push (.mapIter (some mb.blk) clock #[] clock) } := by
        refine ⟨⟨_, reg, mb, ⟨w'.heap.size, 0, 0, 0⟩, r2', fun b y k => q2 b y (x1 b y (x2 b y k)), fun id mb' k => ?_, ?_, rfl, ?_, rfl⟩, q4.trans (hgr.evol g.X) (fun b y k => .inl k), q5, q6, ?_, ?_, ?_, q4.size, ?_, ?_⟩
        · have := q3 _ _ k
          rw [append_get, if_neg (by have := (List.getElem?_eq_some_iff.1 this).1; omega)]
          exact this
        · rw [append_get, if_neg (by have := (List.getElem?_eq_some_iff.1 hmb).1; simp only; omega)]
          exact hmb
        · rw [append_get, if_pos q1.len.symm]
        · exact hgr.obj e1
        · show (w'.heap.push _)[w'.heap.size]? = _
          simp
        · exact fun y => q2 _ y (.inl ⟨im, _, mb, hid, trivial, hmb, rfl⟩)
        · exact fun y k => q1.zx _ y k (.inl ⟨im, _, mb, hid, trivial, hmb, rfl⟩)
        · simp only; omega
      obtain ⟨g', k1, k2, k3⟩ := H.inner
      obtain ⟨⟨m3, reg3, u1, u2, u3⟩, u4, u5, u6⟩ := k2
      obtain ⟨m4, reg4, mb4, mi4, v1, v2, v3, v4, v5, v6, v7⟩ := H.rel
      refine ⟨⟨_, (fun p => if p = .t it then none else reg4 p), mb4, mi4, ?_, ?_, v3, v4, v5, v6, v7⟩, H.evol, by rw [put_size]; exact H.size, by rw [put_defers]; exact H.defers, H.map, H.it, H.gx, H.gi, H.zm, H.ne⟩
      · show Rel _ _ m4 (fun p => if p = .t it then none else reg4 p) (upd s'.t it _) (fun k => (a'.put (some it) _).tmps.getD k undef) _
        rw [put_getD a' it _ (by rw [q5]; omega)]
        refine v1.put it ?_ (.inl rfl)
        simp only [V]
        exact ⟨_, v6, by subst v7; simp⟩
      · rintro b y (k | ⟨p, rg, g1, g2⟩)
        · exact v2 b y (.inl k)
        · simp only at g1
          split at g1
          · cases g1
          · exact v2 b y (.inr ⟨p, rg, g1, g2⟩)
  · rintro e a' w' ⟨rfl, h, w0, Y0, m0, hhi, hii, H, hr, hp, hc⟩
    show Code.wp P _ _ a' w'
    have hlen : es.length = h.ents.toList.length := (MapR.length hr).symm
    have hnd : (h.ents.toList.map (·.born)).Nodup := by
      rw [List.nodup_iff_pairwise_ne, List.pairwise_map]
      exact hp.imp fun h => Nat.ne_of_lt h
    have hout : ∀ {seen : Array Nat} {s : St} {a : Act} {w : World}, HAt g h seen s a w → At g ⟨s.t, s.o.set im (.mapo es)⟩ a w := fun H => hhi ▸ H.out hl hr hp hc
    refine wp_block (wp_loopN (fun N a w => ∃ seen t o, HAt g h seen ⟨t, o⟩ a w ∧ I ((remE es h.ents.toList seen).map (·.1)) t o ∧ t it = .ptr s1.o.length 0 0 ∧ (remE es h.ents.toList seen).length = N) ?_ (N := es.length)
      ⟨#[], _, _, H, ?_, by simp [upd], ?_⟩)
    · rintro N a2 w2 ⟨seen, t, o, H2, hI, hti, hN⟩
      have hit2 : a2.eval (.tmp it) = .pointer (some ⟨h.bi, 0, none⟩) := H2.slot (s := ⟨t, o⟩) (by simpa [hii] using hti)
      have hexec : ∀ (v : Value) (w3 : World), (Instr.next (.pointer (some ⟨h.bi, 0, none⟩)) false ty1).run P w2 = .ok v w3 → (execOp a2.eval ⟨some d1, .next (.tmp it) false, ty1, p1, f1, none⟩).run P w2 = .ok (.value v) w3 := by
        intro v w3 hv
        show ((do pure (Next.value (← Instr.next (a2.eval (.tmp it)) false ty1)) : Sem Next)).run P w2 = _
        rw [hit2, srun_bind_ok hv]; rfl
      have hext : ∀ (a3 : Act) (w3 : World) (b : Bool) (r : List Value), a3.eval (.tmp d1) = .tuple (Value.bool b :: r).toArray → (execOp a3.eval ⟨some d2, .extract (.tmp d1) 0, ty2, p2, f2, none⟩).run P w3 = .ok (.value (.bool b)) w3 := by
        intro a3 w3 b r hv
        show ((do pure (Next.value (← Instr.extract (a3.eval (.tmp d1)) 0)) : Sem Next)).run P w3 = _
        rw [hv]
        simp [Instr.extract, srun_bind, srun_pure, Result.andThen]
      have hput1 : ∀ (a3 : Act) (d : Nat) (v : Value), a3.tmps.size = g.n → d < n → (a3.put (some d) v).eval (.tmp d) = v := by
        intro a3 d v hs hd
        show (a3.put (some d) v).tmps.getD d undef = v
        have := congrFun (put_getD a3 d v (by omega)) d
        simp only [upd_same] at this
        exact this
      rcases run_next_at (P := P) w2 ty1 h.bi h.bm h.clock h.clock seen h.ents h.clock H2.it H2.map hc (Nat.le_refl _) with ⟨hleft, hrun⟩ | ⟨e, he, w3, hw3, hrun⟩
      · have hrem : remE es h.ents.toList seen = [] := by
          have hall := all_seen h.ents seen hleft
          unfold remE
          rw [List.filter_eq_nil_iff]
          intro p hp
          have := hall p.2 (List.of_mem_zip hp).2
          simpa using this
        rw [hrem] at hI
        have H3 := (H2.put (d := d1) (by omega) (av := .tup [.b false]) (v := .tuple #[.bool false]) (by intro Y m; simp [V, Vs]) rfl)
        have H4 := (H3.put (d := d2) (by omega) (av := .b false) (v := .bool false) (by intro Y m; simp [V]) rfl)
        refine wp_seq (wp_region ?_)
        show wpOps P _ _ [0, 1] a2 w2
        refine wpOps_val (o := ⟨some d1, .next (.tmp it) false, ty1, p1, f1, none⟩) rfl rfl (hexec _ _ hrun) (wpOps_val (o := ⟨some d2, .extract (.tmp d1) 0, ty2, p2, f2, none⟩) rfl rfl (hext _ _ false [] (hput1 a2 d1 _ H2.size h1n)) ?_)
        show Code.wp P _ _ _ _
        refine wp_seq (wp_cond_false (hput1 _ d2 _ H3.size h2n) (wp_exit ?_))
        simp only [Exit.then, Exit.inBlock, if_true]
        exact ⟨_, fin _ _ hI, hout H4⟩
      · have hmem := mem_left he
        obtain ⟨j, hj⟩ := List.getElem?_of_mem hmem.1
        have hjl := (List.getElem?_eq_some_iff.1 hj).1
        obtain ⟨kv, hkv⟩ : ∃ kv, es[j]? = some kv := ⟨_, List.getElem?_eq_getElem (by omega)⟩
        have hpm : (kv, e) ∈ es.zip h.ents.toList := by
          refine List.mem_of_getElem? (i := j) ?_
          rw [List.getElem?_zip_eq_some]; exact ⟨hkv, hj⟩
        have hV := MapR.pairs hr _ hpm
        have hlit : kv.1.lit = true ∧ kv.2.lit = true := by
          have := List.all_eq_true.1 hl kv (List.mem_of_getElem? hkv)
          simpa using this
        have hin' : (kv, e) ∈ remE es h.ents.toList seen := by
          unfold remE
          rw [List.mem_filter]
          exact ⟨hpm, by simpa using hmem.2⟩
        have hnd2 : ((remE es h.ents.toList seen).map fun p => p.2.born).Nodup := by
          unfold remE
          exact ((List.filter_sublist.map _).nodup (by rw [zip_born hlen]; exact hnd))
        have hperm := perm_out (fun p : (AV × AV) × MapEntry => p.2.born) _ _ hin' hnd2
        have hrem' : (remE es h.ents.toList seen).filter (fun y => !(y.2.born == e.born)) = remE es h.ents.toList (seen.push e.born) := by
          unfold remE
          rw [List.filter_filter]
          refine List.filter_congr fun p hp => ?_
          simp only [Array.contains_push, Bool.not_or]
          rw [Bool.and_comm]
        rw [hrem'] at hperm
        have hperm2 := hperm.map (·.1)
        simp only [List.map_cons] at hperm2
        have hlenN := hperm.length_eq
        simp only [List.length_cons] at hlenN
        have H3 := H2.step (seen' := seen.push e.born) hw3
        have H4 := (H3.put (d := d1) (by omega) (av := .tup [.b true, kv.1, kv.2]) (v := .tuple #[.bool true, e.key, e.val]) (by
          intro Y m; simp only [V, Vs]
          exact ⟨_, rfl, _, _, rfl, rfl, _, _, rfl, V_lit hlit.1 hV.1, _, _, rfl, V_lit hlit.2 hV.2, rfl⟩) rfl)
        have H5 := (H4.put (d := d2) (by omega) (av := .b true) (v := .bool true) (by intro Y m; simp [V]) rfl)
        refine wp_seq (wp_region ?_)
        show wpOps P _ _ [0, 1] a2 w2
        refine wpOps_val (o := ⟨some d1, .next (.tmp it) false, ty1, p1, f1, none⟩) rfl rfl (hexec _ _ hrun) (wpOps_val (o := ⟨some d2, .extract (.tmp d1) 0, ty2, p2, f2, none⟩) rfl rfl (hext _ _ true [e.key, e.val] (hput1 a2 d1 _ H2.size h1n)) ?_)
        show Code.wp P _ _ _ _
        refine wp_seq (wp_cond_true (hput1 _ d2 _ H4.size h2n) (wp_skip ?_))
        show Code.wp P _ _ _ _
        refine wp_block (wp_seq (wp_region ?_))
        have hsz : (⟨some d3, .entry (.tmp it), ty3, p3, f3, none⟩ :: ops2 : List Oper).toArray.size = ops2.length + 1 := by simp
        rw [hsz, List.range_succ_eq_map]
        have hit5 : ((a2.put (some d1) (.tuple #[.bool true, e.key, e.val])).put (some d2) (.bool true)).eval (.tmp it) = .pointer (some ⟨h.bi, 0, none⟩) :=
          H5.slot (by simp only [upd_ne _ _ _ (Ne.symm h2i), upd_ne _ _ _ (Ne.symm h1i), hii]; exact hti)
        refine wpOps_val (o := ⟨some d3, .entry (.tmp it), ty3, p3, f3, none⟩) (by simp) rfl (v := .tuple #[e.key, e.val]) (w' := Go.ChangeMaps.setBlock w3 h.bi (.mapIter (some h.bm) h.clock (seen.push e.born) h.clock)) ?_ ?_
        · have hrun2 := run_entry_at (P := P) (Go.ChangeMaps.setBlock w3 h.bi (.mapIter (some h.bm) h.clock (seen.push e.born) h.clock)) h.bi h.bm h.clock seen h.ents h.clock e H5.it H5.map hmem.1 hnd
          show ((do pure (Next.value (← Instr.entry (Act.eval _ (.tmp it)))) : Sem Next)).run P _ = _
          rw [hit5, srun_bind_ok hrun2]; rfl
        have H6 := (H5.put (d := d3) (by omega) (av := .tup [kv.1, kv.2]) (v := .tuple #[e.key, e.val]) (by
          intro Y m; simp only [V, Vs]
          exact ⟨_, rfl, _, _, rfl, V_lit hlit.1 hV.1, _, _, rfl, V_lit hlit.2 hV.2, rfl⟩) rfl)
        have hrd := round _ _ kv.1 kv.2 t o hI hti hperm2 (fun y hy => by
          obtain ⟨p, hp1, rfl⟩ := List.mem_map.1 hy
          unfold remE at hp1
          exact (List.of_mem_zip (List.mem_filter.1 hp1).1).1)
        have hfit : FitsL (⟨some d3, .entry (.tmp it), ty3, p3, f3, none⟩ :: ops2 : List Oper).toArray ((List.range ops2.length).map Nat.succ) ops2 := by
          have key : ∀ (l pre : List Oper), (⟨some d3, .entry (.tmp it), ty3, p3, f3, none⟩ :: ops2 : List Oper) = pre ++ l → FitsL (⟨some d3, .entry (.tmp it), ty3, p3, f3, none⟩ :: ops2 : List Oper).toArray (List.range' pre.length l.length) l := by
            intro l
            induction l with
            | nil => intro pre _; simp [FitsL]
            | cons q l ih =>
              intro pre hpre
              simp only [List.length_cons, List.range'_succ, FitsL]
              refine ⟨by rw [hpre]; simp, ?_⟩
              have := ih (pre ++ [q]) (by rw [hpre]; simp)
              simpa using this
          have := key ops2 [⟨some d3, .entry (.tmp it), ty3, p3, f3, none⟩] rfl
          have e9 : (List.range ops2.length).map Nat.succ = List.range' 1 ops2.length := by
            rw [List.range'_eq_map_range]
            exact List.map_congr_left fun z _ => by omega
          rw [e9]
          exact this
        refine wpOps_mono2 ?_ _ _ _ (hrd.hid (by simp) hfit hn H6)
        rintro e3 a3 w4 ⟨s3, hq3, H7⟩
        have hend : ∀ (e4 : Exit) (s4 : St) (a4 : Act) (w5 : World), rangeQ B B1 im es (fun s' => I ((remE es h.ents.toList (seen.push e.born)).map (·.1)) s'.t s'.o ∧ s'.t it = .ptr s1.o.length 0 0) Q e4 s4 → HAt g h (seen.push e.born) s4 a4 w5 →
            Exit.inBlock B1 (Exit.then (fun a' w' => ∃ M, M < N ∧ ∃ seen t o, HAt g h seen ⟨t, o⟩ a' w' ∧ I ((remE es h.ents.toList seen).map (·.1)) t o ∧ t it = .ptr s1.o.length 0 0 ∧ (remE es h.ents.toList seen).length = M)
              (Exit.inBlock B (fun e a' w' => ∃ s', Q e s' ∧ At g s' a' w'))) e4 a4 w5 := by
          intro e4 s4 a4 w5 hq H8
          have hgo : (I ((remE es h.ents.toList (seen.push e.born)).map (·.1)) s4.t s4.o ∧ s4.t it = .ptr s1.o.length 0 0) → ∃ M, M < N ∧ ∃ seen t o, HAt g h seen ⟨t, o⟩ a4 w5 ∧ I ((remE es h.ents.toList seen).map (·.1)) t o ∧ t it = .ptr s1.o.length 0 0 ∧ (remE es h.ents.toList seen).length = M :=
            fun hk => ⟨_, by omega, seen.push e.born, s4.t, s4.o, H8, hk.1, hk.2, rfl⟩
          cases e4 with
          | normal => exact hgo hq
          | exit b =>
            simp only [rangeQ] at hq
            simp only [Exit.inBlock]
            split
            · rename_i eb
              rw [if_pos eb] at hq
              exact hgo hq
            · rename_i eb
              rw [if_neg eb] at hq
              simp only [Exit.then, Exit.inBlock]
              split
              · rename_i eb2
                rw [if_pos eb2] at hq
                exact ⟨_, hq, hout H8⟩
              · rename_i eb2
                rw [if_neg eb2] at hq
                exact ⟨_, hq, hout H8⟩
          | _ => exact ⟨_, hq, hout H8⟩
        cases e3 with
        | normal => exact wp_mono (W.hid (s := s3) hq3 hn H7) fun e4 a4 w5 ⟨s4, q1, q2⟩ => hend e4 s4 a4 w5 q1 q2
        | exit b => exact hend (.exit b) s3 a3 w4 hq3 H7
        | goto b => exact hend (.goto b) s3 a3 w4 hq3 H7
        | ret => exact hend .ret s3 a3 w4 hq3 H7
        | panic b => exact hend (.panic b) s3 a3 w4 hq3 H7
        | outgrown => exact hend .outgrown s3 a3 w4 hq3 H7
    · unfold remE
      rw [List.filter_eq_self.2 (by intro p _; simp), List.map_fst_zip (by omega)]
      exact h0
    · unfold remE
      rw [List.filter_eq_self.2 (by intro p _; simp), List.length_zip]; omega
end
end Go.AW
namespace Go.AW
open Go
set_option linter.unusedSimpArgs false
set_option linter.unusedVariables false
attribute [go_sem] List.drop_succ_cons
section
variable {P : Program} {n : Nat} {gd : List (Option Nat)} {tk : List Nat} {Q : Exit → St → Prop} {s : St}
theorem RL_runRp (kk : Nat) : ∀ {l : List Oper} {s : St}, runR P n gd tk (fun l' s => RL P n gd (l' ++ l.drop kk) Q s) (l.take kk) (fun s => RL P n gd (l.drop kk) Q s) s → RL P n gd l Q s := by
  intro l
  have key : ∀ (a b : List Oper) (s : St), runR P n gd tk (fun l' s => RL P n gd (l' ++ b) Q s) a (fun s => RL P n gd b Q s) s → RL P n gd (a ++ b) Q s := by
    intro a b
    induction a with
    | nil => intro s h; exact h
    | cons o r ih =>
      intro s h
      simp only [runR] at h
      split at h
      · exact h
      · exact RL_one (tk := tk) (s' := (runO P n gd tk o s).2) (by rw [← h.1]) (ih _ h.2)
  intro s h
  have := key (l.take kk) (l.drop kk) s h
  rwa [List.take_append_drop] at this
theorem RL_part (tk : List Nat) (kk : Nat) {l : List Oper} (h : ∀ (R : List Oper → St → Prop), (∀ l s, RL P n gd l Q s → R l s) → runR P n gd tk (fun l' => R (l' ++ l.drop kk)) (l.take kk) (R (l.drop kk)) s) : RL P n gd l Q s :=
  RL_runRp kk (h _ (fun _ _ h => h))
theorem W_part {id : Nat} {l : List Oper} (tk : List Nat) (kk : Nat) (h : ∀ (R : List Oper → St → Prop), (∀ l' s, RL P n (l.map (·.dst)) l' Q s → R l' s) → runR P n (l.map (·.dst)) tk (fun l' => R (l' ++ l.drop kk)) (l.take kk) (R (l.drop kk)) s) : W P n (.region id l.toArray false) Q s :=
  W_region (RL_part tk kk h)
end
end Go.AW
namespace Go.AW
open Go Go.Proofs TyTry Go.IntWalk
set_option linter.unusedSimpArgs false
set_option linter.unusedVariables false
set_option maxRecDepth 10000
set_option maxHeartbeats 1000000
inductive PlanD where
  | mk (kind width i j : Int) (name : ByteArray) (cols : List Int) (kids : List PlanD)
namespace PlanD
def kind : PlanD → Int | .mk k _ _ _ _ _ _ => k
def width : PlanD → Int | .mk _ w _ _ _ _ _ => w
def i : PlanD → Int | .mk _ _ x _ _ _ _ => x
def j : PlanD → Int | .mk _ _ _ x _ _ _ => x
def name : PlanD → ByteArray | .mk _ _ _ _ x _ _ => x
def cols : PlanD → List Int | .mk _ _ _ _ _ x _ => x
def kids : PlanD → List PlanD | .mk _ _ _ _ _ _ x => x
mutual
def cells : PlanD → List AV
  | .mk k w i j nm cs ks => [.i .i64 k, .i .i64 w, .i .i64 i, .i .i64 j, .s nm, .sl 1 (ints cs), .sl 7 (cellsL ks)]
def cellsL : List PlanD → List (List AV)
  | [] => []
  | p :: r => p.cells :: cellsL r
end
theorem ind {P : PlanD → Prop} (h : ∀ p, (∀ k ∈ p.kids, P k) → P p) : ∀ p, P p
  | .mk k w i j nm cs ks => h _ fun q hq => by
    exact ind h q
termination_by p => SizeOf.sizeOf p
decreasing_by
  simp only [PlanD.mk.sizeOf_spec]
  have : SizeOf.sizeOf q < SizeOf.sizeOf ks := List.sizeOf_lt_of_mem hq
  omega
end PlanD
def plans (l : List PlanD) : List (List AV) := l.map PlanD.cells
theorem cellsL_plans : ∀ l : List PlanD, PlanD.cellsL l = plans l
  | [] => by simp [PlanD.cellsL, plans]
  | p :: r => by simp only [PlanD.cellsL, plans, List.map_cons, cellsL_plans r]
theorem plans_len (l : List PlanD) : (plans l).length = l.length := by simp [plans]
theorem PlanD.cells_eq (p : PlanD) : p.cells = [.i .i64 p.kind, .i .i64 p.width, .i .i64 p.i, .i .i64 p.j, .s p.name, .sl 1 (ints p.cols), .sl 7 (plans p.kids)] := by
  cases p; simp only [PlanD.cells, cellsL_plans, kind, width, PlanD.i, PlanD.j, name, cols, kids]
theorem plans_get {l : List PlanD} {k : Nat} {x : PlanD} (h : l[k]? = some x) : (plans l).getD k [] = [.i .i64 x.kind, .i .i64 x.width, .i .i64 x.i, .i .i64 x.j, .s x.name, .sl 1 (ints x.cols), .sl 7 (plans x.kids)] := by
  simp [plans, h, PlanD.cells_eq]
attribute [go_sem] plans_len
inductive PlanD.Ok : PlanD → Prop
  | mk (p : PlanD) : p.name.size ≤ 1125899906842624 → p.cols.length ≤ 1125899906842624 → p.kids.length ≤ 1125899906842624 → (∀ k ∈ p.kids, k.Ok) → p.Ok
theorem PlanD.Ok.name {p : PlanD} : p.Ok → p.name.size ≤ 1125899906842624 | .mk _ h _ _ _ => h
theorem PlanD.Ok.cols {p : PlanD} : p.Ok → p.cols.length ≤ 1125899906842624 | .mk _ _ h _ _ => h
theorem PlanD.Ok.len {p : PlanD} : p.Ok → p.kids.length ≤ 1125899906842624 | .mk _ _ _ h _ => h
theorem PlanD.Ok.kid {p : PlanD} : p.Ok → ∀ k ∈ p.kids, k.Ok | .mk _ _ _ _ h => h
def spareF (p : PlanD) : Bool :=
  (p.kind == 0 || p.kind == 1 || p.width == 0) && (p.kind == 2 || p.kind == 3 || (p.i == 0 && p.j == 0)) && (p.kind == 0 || decide (p.name.size = 0)) && (p.kind == 5 || (p.cols.length : Int) == 0)
theorem spare_spec (p : PlanD) : ACallsD Try.prog 64 [.agg p.cells] (.b (spareF p)) := by
  rw [PlanD.cells_eq]
  refine ACalls_of' (n := 61) (rs := [.tmp 2]) (show Try.prog.funcs[64]? = some Try.f64 by kernel_rfl) rfl rfl rfl (by simp) (by decide +kernel) ?_
  repeat (first | refine nav ?_ | refine bo ?_)
  (refine wr fun K R hK hR => ?_; simp (maxSteps := 10000000) only [go_sem]; (try go_ints); (repeat refine And.intro side ?_); (first | refine hK _ ?_ | refine hR _ _ ?_); clear hK hR K R)
  repeat (first | refine nav ?_ | refine bo ?_)
  (refine W_dreg (by decide +kernel) [] [0, 1, 2, 3, 4, 5, 6, 7, 8, 9, 10, 11, 12, 13, 14, 15, 16, 17] [[], [0], [0, 1], [1, 0, 2], [2, 0, 1, 3], [3, 1, 0, 2, 4], [4, 2, 0, 1, 3, 5], [5, 4, 6, 2, 0, 1, 3], [], [8], [8, 9], [2, 0, 1, 3, 9, 8, 10], [10, 8, 9, 3, 1, 0, 2, 11], [11, 2, 0, 1, 3, 9, 8, 10, 12], [12, 10, 8, 9, 3, 1, 0, 2, 11, 13], [13, 12, 14, 10, 8, 9, 3, 1, 0, 2, 11], [10, 8, 9, 11, 3, 1, 0, 2, 6, 4, 5, 7], [7, 5, 4, 6, 16, 11, 2, 0, 1, 3, 9, 8, 10, 14, 12, 13, 15]] (by decide +kernel) rfl fun K R hK hR => ?_; simp only [List.filterMap_cons, List.filterMap_nil, List.getElem?_cons_zero, List.getElem?_cons_succ, List.cons_append, List.nil_append]; simp (maxSteps := 10000000) only [go_sem]; (try go_ints); (repeat refine And.intro side ?_); (first | refine hK _ ?_ | refine hR _ _ ?_); clear hK hR K R)
  repeat (first | refine nav ?_ | refine bo ?_)
  (refine W_part [] 7 fun R hR => ?_; simp (maxSteps := 10000000) only [go_sem]; (try go_ints); (repeat refine And.intro side ?_); refine hR _ _ ?_; clear hR R)
  generalize hX : (p.kind == 0 || p.kind == 1 || p.width == 0) = X
  cases X
  · (refine rr fun K R hK hR => ?_; simp (maxSteps := 10000000) only [go_sem, size_zero]; (try go_ints); (try simp only [go_sem, size_zero]); (repeat refine And.intro side ?_); (first | refine hK _ ?_ | refine hR _ _ ?_); clear hK hR K R)
    repeat (first | refine nav ?_ | refine bo ?_)
    refine endQ_data (by simp only [go_sem] <;> exact rfl) (Le.of_eq ?_) rfl
    unfold spareF
    rw [hX]
    simp
  (refine RL_part [] 13 fun R hR => ?_; simp (maxSteps := 10000000) only [go_sem]; (try go_ints); (repeat refine And.intro side ?_); refine hR _ _ ?_; clear hR R)
  generalize hY : (p.kind == 2 || p.kind == 3 || p.i == 0 && p.j == 0) = Y
  cases Y
  · (refine rr fun K R hK hR => ?_; simp (maxSteps := 10000000) only [go_sem, size_zero]; (try go_ints); (try simp only [go_sem, size_zero]); (repeat refine And.intro side ?_); (first | refine hK _ ?_ | refine hR _ _ ?_); clear hK hR K R)
    repeat (first | refine nav ?_ | refine bo ?_)
    refine endQ_data (by simp only [go_sem] <;> exact rfl) (Le.of_eq ?_) rfl
    unfold spareF
    rw [hX, hY]
    simp
  (refine RL_part [] 10 fun R hR => ?_; simp (maxSteps := 10000000) only [go_sem, size_zero]; (try go_ints); (try simp only [go_sem, size_zero]); (repeat refine And.intro side ?_); refine hR _ _ ?_; clear hR R)
  generalize hZ : (p.kind == 0 || decide (p.name.size = 0)) = Z
  cases Z
  · (refine rr fun K R hK hR => ?_; simp (maxSteps := 10000000) only [go_sem, size_zero]; (try go_ints); (try simp only [go_sem, size_zero]); (repeat refine And.intro side ?_); (first | refine hK _ ?_ | refine hR _ _ ?_); clear hK hR K R)
    repeat (first | refine nav ?_ | refine bo ?_)
    refine endQ_data (by simp only [go_sem] <;> exact rfl) (Le.of_eq ?_) rfl
    unfold spareF
    rw [hX, hY, hZ]
    simp
  (refine rr fun K R hK hR => ?_; simp (maxSteps := 10000000) only [go_sem]; (try go_ints); (repeat refine And.intro side ?_); (first | refine hK _ ?_ | refine hR _ _ ?_); clear hK hR K R)
  repeat (first | refine nav ?_ | refine bo ?_)
  refine endQ_data (by simp only [go_sem] <;> exact rfl) (Le.of_eq ?_) rfl
  unfold spareF
  rw [hX, hY, hZ]
  simp
def kidsF (k : Int) : Nat := if k = 0 ∨ k = 1 then 0 else if k = 4 ∨ k = 6 ∨ k = 7 then 2 else 1
theorem kids_spec (k : Int) : ACallsD Try.prog 65 [.i .i64 k] (.i .i64 (kidsF k)) := by
  refine ACalls_of' (n := 11) (rs := [.tmp 2]) (show Try.prog.funcs[65]? = some Try.f65 by kernel_rfl) rfl rfl rfl (by simp) (by decide +kernel) ?_
  repeat' (first | refine nav ?_ | refine bo ?_ | (refine wr fun K R hK hR => ?_; simp (maxSteps := 10000000) only [go_sem]; (try go_ints); (repeat refine And.intro side ?_); (first | refine hK _ ?_ | refine hR _ _ ?_); clear hK hR K R) | ((refine W_cond (by simp only [go_sem, *] <;> exact rfl) (fun hb => ?_) (fun hb => ?_)) <;> (try exact Bool.noConfusion hb)))
  all_goals refine endQ_data (by simp only [go_sem] <;> exact rfl) (Le.of_eq ?_) rfl
  all_goals simp_all [kidsF]
theorem inside1_spec {oc : List Ob} (ho : okO oc = true) {i : Nat} {n : Int} (hi : oc[i]? = some (.cells 1 [[.i .i64 n]])) (x : Int) :
    ACallsQ Try.prog 79 [.i .i64 x, .ptr i 0 0] oc (.b (decide (x < 0) || decide (x ≥ n))) := by
  refine ACalls_of' (n := 11) (rs := [.tmp 3]) (show Try.prog.funcs[79]? = some Try.f79 by kernel_rfl) rfl rfl rfl (by simp) (by decide +kernel) ?_
  repeat (first | refine nav ?_ | refine bo ?_)
  (refine wr fun K R hK hR => ?_; simp (maxSteps := 10000000) only [go_sem]; (try go_ints); (repeat refine And.intro side ?_); (first | refine hK _ ?_ | refine hR _ _ ?_); clear hK hR K R)
  repeat (first | refine nav ?_ | refine bo ?_)
  (refine wr fun K R hK hR => ?_; simp (maxSteps := 10000000) only [go_sem, hi]; (try go_ints); (try simp only [go_sem, hi]); (repeat refine And.intro side ?_); (first | refine hK _ ?_ | refine hR _ _ ?_); clear hK hR K R)
  repeat (first | refine nav ?_ | refine bo ?_)
  refine endQ_quiet0 (by simp only [go_sem] <;> exact rfl) (Le.of_eq ?_) (by assumption) rfl
  rfl
def insideF (n : Int) (l : List Int) : Bool := !l.any fun x => decide (x < 0) || decide (x ≥ n)
theorem inside_spec (n : Int) (l : List Int) (hl : l.length ≤ 1099511627776) : ACallsD Try.prog 66 [.i .i64 n, .sl 1 (ints l)] (.b (insideF n l)) := by
  refine ACalls_of' (n := 9) (rs := [.tmp 4]) (show Try.prog.funcs[66]? = some Try.f66 by kernel_rfl) rfl rfl rfl (by simp) (by decide +kernel) ?_
  repeat (first | refine nav ?_ | refine bo ?_)
  (refine wr fun K R hK hR => ?_; simp (maxSteps := 10000000) only [go_sem]; (try go_ints); (repeat refine And.intro side ?_); (first | refine hK _ ?_ | refine hR _ _ ?_); clear hK hR K R)
  repeat (first | refine nav ?_ | refine bo ?_)
  (refine wr fun K R hK hR => ?_; simp (maxSteps := 10000000) only [go_sem]; (try go_ints); (repeat refine And.intro side ?_); (first | refine hK _ ?_ | refine hR _ _ ?_); clear hK hR K R)
  refine RL_callQ (containsInt_spec rfl rfl rfl _ l hl fun x _ => inside1_spec (i := 0) rfl rfl x) (by simp only [go_sem] <;> exact rfl) rfl rfl (by simp) (by simp only [go_sem]) rfl rfl rfl ?_
  (refine rr fun K R hK hR => ?_; simp (maxSteps := 10000000) only [go_sem]; (try go_ints); (repeat refine And.intro side ?_); (first | refine hK _ ?_ | refine hR _ _ ?_); clear hK hR K R)
  repeat (first | refine nav ?_ | refine bo ?_)
  refine endQ_data (by simp only [go_sem] <;> exact rfl) (Le.of_eq ?_) rfl
  rfl
end Go.AW
namespace Go.Proofs
open Go.Shelf
def Try.growI_ren : Go.Shelf.Ren := ⟨fun | 4 => 82 | n => n, fun | 22 => 32 | 25 => 3 | 3 => 3 | 4 => 4 | 9 => 9 | 20 => 20 | 0 => 0 | n => n, fun | n => n⟩
theorem Try.growI : Go.Proofs.Lays8.n4 Try.prog Try.growI_ren := {
  mixed := by kernel_rfl
  f4 := ⟨Try.f82.name, by kernel_rfl, Try.func82.trans (congrArg some (by kernel_rfl))⟩
  t0 := Try.underlying0
  a0 := Try.isAgg0
  z0 := Try.sizeOf0
  v0 := Try.zeroValue0
  t3 := Try.underlying3
  a3 := Try.isAgg3
  z3 := Try.sizeOf3
  v3 := Try.zeroValue3
  t4 := Try.underlying4
  a4 := Try.isAgg4
  z4 := Try.sizeOf4
  v4 := Try.zeroValue4
  t9 := Try.underlying9
  a9 := Try.isAgg9
  z9 := Try.sizeOf9
  v9 := Try.zeroValue9
  t20 := Try.underlying20
  a20 := Try.isAgg20
  z20 := Try.sizeOf20
  v20 := Try.zeroValue20
  t22 := Try.underlying32
  a22 := Try.isAgg32
  z22 := Try.sizeOf32
  v22 := Try.zeroValue32 }
end Go.Proofs
namespace Go.AW
open Go Go.Proofs TyTry Go.IntWalk
set_option linter.unusedSimpArgs false
set_option linter.unusedVariables false
set_option maxRecDepth 10000
set_option maxHeartbeats 1000000
theorem ACalls_room {P : Program} {f : FuncId} {sz n : Nat} (hok : callOk P f = true)
    (h : ∀ w : World, Calls P f #[.slice none 0 0, .int .i64 n] w fun e w' => ∃ (cap : Nat) (cs : Array Value) (ty : TypeId), e = .returned (.slice (some ⟨w.heap.size, 0, none⟩) 0 cap) ∧ w' = w.drew.alloc (.cells cs ty (0, 0)) ∧ cap * sz ≤ cs.size ∧ cap ≤ maxLen) (oc : List Ob) :
    ACalls P f [.nsl, .i .i64 n] oc fun r o' => r = .own sz [] ∧ o' = oc := by
  refine ⟨hok, fun w Z m reg vs hlen hrel => ?_⟩
  obtain ⟨v0, v1, rfl⟩ : ∃ v0 v1, vs = [v0, v1] := by
    match vs, hlen with
    | [a, b], _ => exact ⟨a, b, rfl⟩
  have t0 := hrel.tv 0
  have t1 := hrel.tv 1
  simp only [List.getD_cons_zero, List.getD_cons_succ, V] at t0 t1
  subst t0 t1
  refine Calls.mono (h w) ?_
  rintro e w' ⟨cap, cs, ty, rfl, rfl, hcs, hmx⟩
  have g : Grow w w.drew := ⟨rfl, rfl, rfl, Nat.le_refl _, fun _ _ => rfl⟩
  have h1 := hrel.grow g
  have h2 := h1.fresh 2 (c := cs) (e := ty) (sz := sz) (cap := cap) (rows := []) (by simp) hmx hcs (fun w' Y' _ _ => by simp only [Rs])
  obtain ⟨h3, x3⟩ := h2.one 2
  simp only [upd, if_true] at h3
  refine ⟨_, .own sz [], oc, m, _, rfl, ⟨rfl, rfl⟩, h3, ?_, ?_, fun _ _ k => k⟩
  · exact (g.evol _).trans ((Grow.push w.drew (.cells cs ty (0, 0))).evol (XS m reg oc)) (fun b x k => .inl k)
  · intro b x hx
    rcases x3 b x hx with k | ⟨p, rg, e1, e2, e3⟩
    · exact .inl (.inl k)
    · simp only at e1
      split at e1
      · obtain rfl := Option.some.inj e1
        exact .inr (Nat.le_of_eq e2)
      · exact .inl (.inr ⟨p, rg, e1, e2, e3⟩)
theorem ACalls_noroom {P : Program} {f : FuncId} (hok : callOk P f = true)
    (h : ∀ w : World, Calls P f #[.slice none 0 0, .int .i64 (0 : Nat)] w fun e w' => e = .returned (.slice none 0 0) ∧ w' = w) :
    ACallsD P f [.nsl, .i .i64 0] .nsl := by
  refine ⟨hok, fun w Z m reg vs hlen hrel => ?_⟩
  obtain ⟨v0, v1, rfl⟩ : ∃ v0 v1, vs = [v0, v1] := by
    match vs, hlen with
    | [a, b], _ => exact ⟨a, b, rfl⟩
  have t0 := hrel.tv 0
  have t1 := hrel.tv 1
  simp only [List.getD_cons_zero, List.getD_cons_succ, V] at t0 t1
  subst t0 t1
  refine Calls.mono (h w) ?_
  rintro e w' ⟨rfl, rfl⟩
  have h2 := hrel.put 2 (av := .nsl) (v := .slice none 0 0) (by simp only [V]) (.inl rfl)
  obtain ⟨h3, x3⟩ := h2.one 2
  simp only [upd, if_true] at h3
  refine ⟨_, .nsl, [], m, _, rfl, ⟨rfl, rfl⟩, h3, ?_, ?_, fun _ _ k => k⟩
  · exact Evol.refl _ _
  · intro b x hx
    rcases x3 b x hx with k | ⟨p, rg, e1, e2, e3⟩
    · exact .inl (.inl k)
    · simp only at e1
      split at e1
      · cases e1
      · exact .inl (.inr ⟨p, rg, e1, e2, e3⟩)
theorem ACallsD.le {P : Program} {f : FuncId} {ac : List AV} {r r' : AV} (h : ACallsD P f ac r) (hle : Le r r') : ACallsD P f ac r' := by
  refine ⟨h.1, fun w Z m reg vs hlen hrel => Calls.mono (h.2 w Z m reg vs hlen hrel) ?_⟩
  rintro e w' ⟨v, r1, o', m', reg', he, ⟨rfl, rfl⟩, hr, h3, h4, h5⟩
  refine ⟨v, r', [], m', reg', he, ⟨rfl, rfl⟩, hr.weak fun k => ?_, h3, h4, h5⟩
  by_cases hk : k = 0
  · simp only [hk, if_true]; exact hle
  · simp only [hk, if_false]; exact .refl _
theorem roomI (n : Nat) (h0 : 0 < n) (hn : n ≤ 100000000) : ACallsD Try.prog 82 [.nsl, .i .i64 n] (.own 1 []) := by
  obtain ⟨i0, hi0, hs, hb, hz⟩ : ∃ i0, Try.prog.info? 3 = some i0 ∧ i0.size = 1 ∧ i0.bytes = 8 ∧ i0.zero = some (.int .i64 0) := ⟨Option.get (Try.prog.info? 3) (by kernel_rfl), by kernel_rfl, by kernel_rfl, by kernel_rfl, by kernel_rfl⟩
  refine ACalls_room (by decide +kernel) (fun w => ?_) []
  refine (Any8.slices_Grow_grow Try.growI i0 _ hi0 hz (by omega) none 0 0 n [] w (by omega) (by omega) (by rw [hb]; omega) (by omega) (by simp) (fun _ => rfl) (by simp)).mono ?_
  rintro e w' ⟨rfl, rfl⟩
  refine ⟨_, _, _, rfl, rfl, ?_, grownCap_le_maxLen _ _ _ _ (by simp [maxLen]; omega)⟩
  have hg := grownCap_ge w (0 + n) 0 (Try.growI_ren.t 25)
  simp only [Array.size_append, size_zeroCells, Value.cells, List.size_toArray, List.length_nil, List.length_cons]
  omega
theorem roomI0 : ACallsD Try.prog 82 [.nsl, .i .i64 0] .nsl :=
  ACalls_noroom (by decide +kernel) fun w => Any8.slices_Grow_room Try.growI none 0 0 0 w (by omega) (by omega) (by omega) (by omega)
theorem roomI' (n : Nat) (hn : n ≤ 100000000) : ACallsD Try.prog 82 [.nsl, .i .i64 n] (.own 1 []) := by
  rcases Nat.eq_zero_or_pos n with rfl | h
  · exact roomI0.le (Le.nslO 1)
  · exact roomI n h hn
theorem flat_take {L : List (List Int)} {k : Nat} {x : List Int} (h : L[k]? = some x) : (L.take (k + 1)).flatten = (L.take k).flatten ++ x := by
  rw [List.take_add_one, h]; simp
theorem flat_take_le (L : List (List Int)) (k : Nat) : (L.take k).flatten.length ≤ L.flatten.length := by
  conv => rhs; rw [← List.take_append_drop k L, List.flatten_append, List.length_append]
  omega
theorem concatI (L : List (List Int)) (hl : L.length ≤ 1000000) (hn : L.flatten.length ≤ 100000000) : ACallsD Try.prog 74 [.sl 1 (tups L)] (.sl 1 (ints L.flatten)) := by
  have hL : (tups L).length = L.length := by simp [tups]
  refine ACalls_of' (n := 36) (rs := [.tmp 2]) (show Try.prog.funcs[74]? = some Try.f74 by kernel_rfl) rfl rfl rfl (by simp) (by decide +kernel) ?_
  repeat (first | refine nav ?_ | refine bo ?_)
  (refine wr fun K R hK hR => ?_; simp (maxSteps := 10000000) only [go_sem]; (try go_ints); (repeat refine And.intro side ?_); (first | refine hK _ ?_ | refine hR _ _ ?_); clear hK hR K R)
  repeat (first | refine nav ?_ | refine bo ?_)
  (refine wr fun K R hK hR => ?_; simp (maxSteps := 10000000) only [go_sem]; (try go_ints); (repeat refine And.intro side ?_); (first | refine hK _ ?_ | refine hR _ _ ?_); clear hK hR K R)
  repeat (first | refine nav ?_ | refine bo ?_)
  (refine wr fun K R hK hR => ?_; simp (maxSteps := 10000000) only [go_sem, hL]; (try go_ints); (try simp only [go_sem, hL]); (repeat refine And.intro side ?_); (first | refine hK _ ?_ | refine hR _ _ ?_); clear hK hR K R)
  repeat (first | refine nav ?_ | refine bo ?_)
  refine W_for 11 23 [3, 5] (fun m t o => ∃ k : Nat, [] = o ∧ t 11 = .i .i64 k ∧ t 3 = .i .i64 (L.take k).flatten.length ∧ m = L.length - k ∧ k ≤ L.length) L.length ⟨0, rfl, by simp only [go_sem] <;> rfl, by simp only [go_sem] <;> rfl, by omega, by omega⟩ ?_
  rintro m t o ⟨k, rfl, h11, h3, rfl, hk⟩
  repeat (first | refine nav ?_ | refine bo ?_)
  (refine wr fun K R hK hR => ?_; simp (maxSteps := 10000000) only [go_sem, h11]; (try go_ints); (try simp only [go_sem, h11]); (repeat refine And.intro side ?_); (first | refine hK _ ?_ | refine hR _ _ ?_); clear hK hR K R)
  repeat (first | refine nav ?_ | refine bo ?_)
  refine W_cond (by simp only [go_sem] <;> exact rfl) (fun hb => ?_) (fun hb => ?_)
  · simp at hb
    obtain ⟨x, hx⟩ : ∃ x, L[k]? = some x := ⟨_, List.getElem?_eq_getElem hb⟩
    have hxl : (L.take (k + 1)).flatten.length = (L.take k).flatten.length + x.length := by rw [flat_take hx, List.length_append]
    have hxm := flat_take_le L (k + 1)
    repeat (first | refine nav ?_ | refine bo ?_)
    (refine wr fun K R hK hR => ?_; simp (maxSteps := 10000000) only [go_sem, h11, h3, tups_get hx]; (try go_ints); (try simp only [go_sem, h11, h3, tups_get hx]); (repeat refine And.intro side ?_); (first | refine hK _ ?_ | refine hR _ _ ?_); clear hK hR K R)
    repeat (first | refine nav ?_ | refine bo ?_)
    (refine wr fun K R hK hR => ?_; simp (maxSteps := 10000000) only [go_sem, h3]; (try go_ints); (try simp only [go_sem, h3]); (repeat refine And.intro side ?_); (first | refine hK _ ?_ | refine hR _ _ ?_); clear hK hR K R)
    repeat (first | refine nav ?_ | refine bo ?_)
    (refine wr fun K R hK hR => ?_; simp (maxSteps := 10000000) only [go_sem]; (try go_ints); (repeat refine And.intro side ?_); (first | refine hK _ ?_ | refine hR _ _ ?_); clear hK hR K R)
    repeat (first | refine nav ?_ | refine bo ?_)
    refine W_cond (by simp only [go_sem] <;> exact rfl) (fun hb => ?_) (fun hb => ?_)
    · simp at hb; omega
    repeat (first | refine nav ?_ | refine bo ?_)
    (refine wr fun K R hK hR => ?_; simp (maxSteps := 10000000) only [go_sem, h11]; (try go_ints); (try simp only [go_sem, h11]); (repeat refine And.intro side ?_); (first | refine hK _ ?_ | refine hR _ _ ?_); clear hK hR K R)
    refine forQ_normal (L.length - (k + 1)) (by omega) ⟨k + 1, ?_⟩
    rw [hxl]
    ((try simp only [go_sem]); (repeat' refine And.intro ?_ ?_) <;> (try first | with_reducible rfl | omega | with_reducible assumption | (simp; done)))
  · simp at hb
    obtain rfl : k = L.length := by omega
    rw [List.take_length] at h3
    repeat (first | refine nav ?_ | refine bo ?_)
    (refine wr fun K R hK hR => ?_; simp (maxSteps := 10000000) only [go_sem, h3]; (try go_ints); (try simp only [go_sem, h3]); (repeat refine And.intro side ?_); (first | refine hK _ ?_ | refine hR _ _ ?_); clear hK hR K R)
    refine RL_callF (roomI' _ hn) rfl rfl rfl (by first | (simp only [go_sem] <;> first | exact LeA.refl _ | exact Le.refl _) | exact LeA.refl _) rfl rfl ?_
    (refine rr fun K R hK hR => ?_; simp (maxSteps := 10000000) only [go_sem]; (try go_ints); (repeat refine And.intro side ?_); (first | refine hK _ ?_ | refine hR _ _ ?_); clear hK hR K R)
    repeat (first | refine nav ?_ | refine bo ?_)
    (refine wr fun K R hK hR => ?_; simp (maxSteps := 10000000) only [go_sem, hL]; (try go_ints); (try simp only [go_sem, hL]); (repeat refine And.intro side ?_); (first | refine hK _ ?_ | refine hR _ _ ?_); clear hK hR K R)
    repeat (first | refine nav ?_ | refine bo ?_)
    refine W_for 27 35 [6, 8] (fun m t o => ∃ (k : Nat), [] = o ∧ t 27 = .i .i64 k ∧ t 6 = .own 1 (ints (L.take k).flatten) ∧ m = L.length - k ∧ k ≤ L.length) L.length ⟨0, rfl, by simp only [go_sem] <;> rfl, by simp only [go_sem] <;> rfl, by omega, by omega⟩ ?_
    rintro m t o ⟨k, rfl, h27, h6, rfl, hk⟩
    repeat (first | refine nav ?_ | refine bo ?_)
    (refine wr fun K R hK hR => ?_; simp (maxSteps := 10000000) only [go_sem, h27]; (try go_ints); (try simp only [go_sem, h27]); (repeat refine And.intro side ?_); (first | refine hK _ ?_ | refine hR _ _ ?_); clear hK hR K R)
    repeat (first | refine nav ?_ | refine bo ?_)
    refine W_cond (by simp only [go_sem] <;> exact rfl) (fun hb => ?_) (fun hb => ?_)
    · simp at hb
      obtain ⟨x, hx⟩ : ∃ x, L[k]? = some x := ⟨_, List.getElem?_eq_getElem hb⟩
      have hxl : (L.take (k + 1)).flatten.length = (L.take k).flatten.length + x.length := by rw [flat_take hx, List.length_append]
      have hxm := flat_take_le L (k + 1)
      have hi1 : (ints (L.take k).flatten).length = (L.take k).flatten.length := by unfold ints; rw [List.length_map]
      have hi2 : (ints x).length = x.length := by unfold ints; rw [List.length_map]
      repeat (first | refine nav ?_ | refine bo ?_)
      (refine wr fun K R hK hR => ?_; simp (maxSteps := 10000000) only [go_sem, h27, h6, tups_get hx]; (try go_ints); (try simp only [go_sem, h27, h6, tups_get hx]); (repeat refine And.intro side ?_); (first | refine hK _ ?_ | refine hR _ _ ?_); clear hK hR K R)
      repeat (first | refine nav ?_ | refine bo ?_)
      (refine W_reg [31] fun K R hK hR => ?_; simp (maxSteps := 10000000) only [go_sem, h6, hi1, hi2]; (try go_ints); (try simp only [go_sem, h6, hi1, hi2]); (repeat refine And.intro side ?_); (first | refine hK _ ?_ | refine hR _ _ ?_); clear hK hR K R)
      repeat (first | refine nav ?_ | refine bo ?_)
      (refine wr fun K R hK hR => ?_; simp (maxSteps := 10000000) only [go_sem, h27]; (try go_ints); (try simp only [go_sem, h27]); (repeat refine And.intro side ?_); (first | refine hK _ ?_ | refine hR _ _ ?_); clear hK hR K R)
      refine forQ_normal (L.length - (k + 1)) (by omega) ⟨k + 1, ?_⟩
      rw [flat_take hx]
      ((try simp only [go_sem]); (repeat' refine And.intro ?_ ?_) <;> (try first | with_reducible rfl | omega | with_reducible assumption | (simp; done)))
      simp [ints]
    · simp at hb
      obtain rfl : k = L.length := by omega
      rw [List.take_length] at h6
      repeat (first | refine nav ?_ | refine bo ?_)
      (refine wr fun K R hK hR => ?_; simp (maxSteps := 10000000) only [go_sem, h6]; (try go_ints); (try simp only [go_sem, h6]); (repeat refine And.intro side ?_); (first | refine hK _ ?_ | refine hR _ _ ?_); clear hK hR K R)
      repeat (first | refine nav ?_ | refine bo ?_)
      refine endQ_data (by simp only [go_sem] <;> exact rfl) (Le.of_eq ?_) rfl
      rfl
end Go.AW
namespace Go.AW
open Go Go.Proofs TyTry Go.IntWalk
set_option linter.unusedSimpArgs false
set_option linter.unusedVariables false
set_option maxRecDepth 10000
set_option maxHeartbeats 1000000
def kid3 (ks : List (List (List Int))) : List (List AV) := ks.map fun l => [.sl 1 (tups l)]
theorem kid3_len (L : List (List (List Int))) : (kid3 L).length = L.length := by simp [kid3]
theorem tups_app (a : List (List Int)) (x : List Int) : tups a ++ [[.sl 1 (ints x)]] = tups (a ++ [x]) := by simp [tups]
def joinF (a b : List (List Int)) : List (List Int) := a.flatMap fun t => b.map fun u => t ++ u
theorem joinF_take {a b : List (List Int)} {k : Nat} {t : List Int} (h : a[k]? = some t) : joinF (a.take (k + 1)) b = joinF (a.take k) b ++ b.map fun u => t ++ u := by
  unfold joinF
  rw [List.take_add_one, h, List.flatMap_append]; simp
abbrev boxQ (q : PlanD) : Ob := .cells 7 [[AV.i IntKind.i64 q.kind, AV.i IntKind.i64 q.width, AV.i IntKind.i64 q.i, AV.i IntKind.i64 q.j, AV.s q.name, AV.sl 1 (ints q.cols), AV.sl 7 (plans q.kids)]]
theorem join_spec (a b : List (List Int)) (ha : a.length ≤ 1000000) (hbb : b.length ≤ 1000000) (hab : a.length * b.length ≤ 1000000)
    (hal : ∀ t ∈ a, t.length ≤ 1000000) (hbl : ∀ t ∈ b, t.length ≤ 1000000) (q : PlanD) : ACallsD Try.prog 60 [.any, .agg q.cells, .sl 1 (kid3 [a, b])] (.sl 1 (tups (joinF a b))) := by
  have hq := q.cells_eq
  rw [hq]
  have k0 : (kid3 [a, b]).getD 0 [] = [.sl 1 (tups a)] := rfl
  have k1 : (kid3 [a, b]).getD 1 [] = [.sl 1 (tups b)] := rfl
  have kl : (kid3 [a, b]).length = 2 := rfl
  have tl : ∀ l : List (List Int), (tups l).length = l.length := fun l => by simp [tups]
  refine ACalls_of' (n := 38) (rs := [.tmp 6]) (show Try.prog.funcs[60]? = some Try.f60 by kernel_rfl) rfl rfl rfl (by simp) (by decide +kernel) ?_
  repeat (first | refine nav ?_ | refine bo ?_)
  (refine wr fun K R hK hR => ?_; simp (maxSteps := 10000000) only [go_sem]; (try go_ints); (repeat refine And.intro side ?_); (first | refine hK _ ?_ | refine hR _ _ ?_); clear hK hR K R)
  repeat (first | refine nav ?_ | refine bo ?_)
  (refine wr fun K R hK hR => ?_; simp (maxSteps := 10000000) only [go_sem]; (try go_ints); (repeat refine And.intro side ?_); (first | refine hK _ ?_ | refine hR _ _ ?_); clear hK hR K R)
  repeat (first | refine nav ?_ | refine bo ?_)
  (refine wr fun K R hK hR => ?_; simp (maxSteps := 10000000) only [go_sem, k0, k1, kl, tl]; (try go_ints); (try simp only [go_sem, k0, k1, kl, tl]); (repeat refine And.intro side ?_); (first | refine hK _ ?_ | refine hR _ _ ?_); clear hK hR K R)
  repeat (first | refine nav ?_ | refine bo ?_)
  have jl : ∀ k, (joinF (a.take k) b).length = (a.take k).length * b.length := fun k => by
    unfold joinF
    rw [List.length_flatMap]
    simp [List.map_const']
  refine W_for 16 38 [7, 9, 11] (fun m t o => ∃ k : Nat, [boxQ q] = o ∧ t 16 = .i .i64 k ∧ t 7 = .own 1 (tups (joinF (a.take k) b)) ∧ m = a.length - k ∧ k ≤ a.length) a.length ⟨0, rfl, by simp only [go_sem] <;> rfl, by simp only [go_sem] <;> rfl, by omega, by omega⟩ ?_
  rintro m t o ⟨k, rfl, h16, h7, rfl, hk⟩
  repeat (first | refine nav ?_ | refine bo ?_)
  (refine wr fun K R hK hR => ?_; simp (maxSteps := 10000000) only [go_sem, h16]; (try go_ints); (try simp only [go_sem, h16]); (repeat refine And.intro side ?_); (first | refine hK _ ?_ | refine hR _ _ ?_); clear hK hR K R)
  repeat (first | refine nav ?_ | refine bo ?_)
  refine W_cond (by simp only [go_sem] <;> exact rfl) (fun hb => ?_) (fun hb => ?_)
  · simp at hb
    obtain ⟨x, hx⟩ : ∃ x, a[k]? = some x := ⟨_, List.getElem?_eq_getElem hb⟩
    have hxm := List.mem_of_getElem? hx
    have hxl := hal x hxm
    have hmul : (a.take k).length * b.length + b.length ≤ 1000000 := by
      have h1 : (k + 1) * b.length ≤ a.length * b.length := Nat.mul_le_mul_right _ hb
      rw [List.length_take, Nat.min_eq_left hk, ← Nat.succ_mul]
      exact Nat.le_trans h1 hab
    repeat (first | refine nav ?_ | refine bo ?_)
    (refine wr fun K R hK hR => ?_; simp (maxSteps := 10000000) only [go_sem, h16, tups_get hx, tl]; (try go_ints); (try simp only [go_sem, h16, tups_get hx, tl]); (repeat refine And.intro side ?_); (first | refine hK _ ?_ | refine hR _ _ ?_); clear hK hR K R)
    repeat (first | refine nav ?_ | refine bo ?_)
    (refine wr fun K R hK hR => ?_; simp (maxSteps := 10000000) only [go_sem, k0, k1, kl, tl]; (try go_ints); (try simp only [go_sem, k0, k1, kl, tl]); (repeat refine And.intro side ?_); (first | refine hK _ ?_ | refine hR _ _ ?_); clear hK hR K R)
    repeat (first | refine nav ?_ | refine bo ?_)
    refine W_for 24 36 [7, 11] (fun m t2 o => ∃ j : Nat, [boxQ q] = o ∧ t2 24 = .i .i64 j ∧ t2 7 = .own 1 (tups (joinF (a.take k) b ++ (b.take j).map fun u => x ++ u)) ∧ m = b.length - j ∧ j ≤ b.length) b.length ⟨0, rfl, by simp only [go_sem] <;> rfl, by simp only [go_sem, h7, List.take_zero, List.map_nil, List.append_nil], by omega, by omega⟩ ?_
    rintro m t2 o ⟨j, rfl, h24, h72, rfl, hj⟩
    repeat (first | refine nav ?_ | refine bo ?_)
    (refine wr fun K R hK hR => ?_; simp (maxSteps := 10000000) only [go_sem, h24]; (try go_ints); (try simp only [go_sem, h24]); (repeat refine And.intro side ?_); (first | refine hK _ ?_ | refine hR _ _ ?_); clear hK hR K R)
    repeat (first | refine nav ?_ | refine bo ?_)
    refine W_cond (by simp only [go_sem] <;> exact rfl) (fun hb => ?_) (fun hb => ?_)
    · simp at hb
      obtain ⟨y, hy⟩ : ∃ y, b[j]? = some y := ⟨_, List.getElem?_eq_getElem hb⟩
      have hyl := hbl y (List.mem_of_getElem? hy)
      have hc := concatI [x, y] (by simp) (by simp; omega)
      have hc1 : tups [x, y] = [[.sl 1 (ints x)], [.sl 1 (ints y)]] := rfl
      have hc2 : [x, y].flatten = x ++ y := by simp
      rw [hc1, hc2] at hc
      have hmj := List.length_take_le j b
      obtain ⟨acc, hacc⟩ : ∃ acc, acc = joinF (a.take k) b ++ (b.take j).map fun u => x ++ u := ⟨_, rfl⟩
      have hln : acc.length ≤ 1000000 := by
        rw [hacc, List.length_append, jl, List.length_map]
        omega
      rw [← hacc] at h72
      repeat (first | refine nav ?_ | refine bo ?_)
      (refine wr fun K R hK hR => ?_; simp (maxSteps := 10000000) only [go_sem, h24, tups_get hy, tl]; (try go_ints); (try simp only [go_sem, h24, tups_get hy, tl]); (repeat refine And.intro side ?_); (first | refine hK _ ?_ | refine hR _ _ ?_); clear hK hR K R)
      repeat (first | refine nav ?_ | refine bo ?_)
      (refine W_reg [28] fun K R hK hR => ?_; simp (maxSteps := 10000000) only [go_sem, h72]; (try go_ints); (try simp only [go_sem, h72]); (repeat refine And.intro side ?_); (first | refine hK _ ?_ | refine hR _ _ ?_); clear hK hR K R)
      refine RL_callF (hc) rfl rfl rfl (by first | (simp only [go_sem] <;> first | exact LeA.refl _ | exact Le.refl _) | exact LeA.refl _) rfl rfl ?_
      (refine rr fun K R hK hR => ?_; simp (maxSteps := 10000000) only [go_sem, tl, hln]; (try go_ints); (try simp only [go_sem, tl, hln]); (repeat refine And.intro side ?_); (first | refine hK _ ?_ | refine hR _ _ ?_); clear hK hR K R)
      repeat (first | refine nav ?_ | refine bo ?_)
      (refine wr fun K R hK hR => ?_; simp (maxSteps := 10000000) only [go_sem, h24]; (try go_ints); (try simp only [go_sem, h24]); (repeat refine And.intro side ?_); (first | refine hK _ ?_ | refine hR _ _ ?_); clear hK hR K R)
      refine forQ_normal (b.length - (j + 1)) (by omega) ⟨j + 1, ?_⟩
      rw [List.take_add_one, hy, List.map_append, ← List.append_assoc, ← hacc]
      ((try simp only [go_sem, tups_app]); (repeat' refine And.intro ?_ ?_) <;> (try first | with_reducible rfl | omega | with_reducible assumption | (simp; done)))
    · simp at hb
      obtain rfl : j = b.length := by omega
      rw [List.take_length, ← joinF_take hx] at h72
      repeat (first | refine nav ?_ | refine bo ?_)
      (refine wr fun K R hK hR => ?_; simp (maxSteps := 10000000) only [go_sem, h16, mix_mix]; (try go_ints); (try simp only [go_sem, h16, mix_mix]); (repeat refine And.intro side ?_); (first | refine hK _ ?_ | refine hR _ _ ?_); clear hK hR K R)
      refine forQ_normal (a.length - (k + 1)) (by omega) ⟨k + 1, ?_⟩
      ((try simp only [go_sem, h72]); (repeat' refine And.intro ?_ ?_) <;> (try first | with_reducible rfl | omega | with_reducible assumption | (simp; done)))
  · simp at hb
    obtain rfl : k = a.length := by omega
    rw [List.take_length] at h7
    repeat (first | refine nav ?_ | refine bo ?_)
    (refine wr fun K R hK hR => ?_; simp (maxSteps := 10000000) only [go_sem, h7]; (try go_ints); (try simp only [go_sem, h7]); (repeat refine And.intro side ?_); (first | refine hK _ ?_ | refine hR _ _ ?_); clear hK hR K R)
    repeat (first | refine nav ?_ | refine bo ?_)
    refine endQ_data (by simp only [go_sem] <;> exact rfl) (Le.of_eq ?_) rfl
    rfl
end Go.AW
namespace Go.AW
open Go Go.Proofs TyTry Go.IntWalk
set_option linter.unusedSimpArgs false
set_option linter.unusedVariables false
set_option maxRecDepth 10000
mutual
theorem unref_ltk {id sz : Nat} {rows : List (List AV)} {k : Nat} (hk : k ≤ id) : ∀ (a : AV), a.ltk k = true → a.unref id sz rows = a
  | .ref j _ _, h => by
    simp only [AV.ltk, decide_eq_true_eq] at h
    simp only [AV.unref]
    rw [if_neg]
    omega
  | .fn _ l, h => by simp only [AV.ltk] at h; simp only [AV.unref, unrefs_ltk hk l h]
  | .agg l, h => by simp only [AV.ltk] at h; simp only [AV.unref, unrefs_ltk hk l h]
  | .tup l, h => by simp only [AV.ltk] at h; simp only [AV.unref, unrefs_ltk hk l h]
  | .ifc _ v, h => by simp only [AV.ltk] at h; simp only [AV.unref, unref_ltk hk v h]
  | .bm _ v, h => by simp only [AV.ltk] at h; simp only [AV.unref, unref_ltk hk v h]
  | .gd _ v, h => by simp only [AV.ltk] at h; simp only [AV.unref, unref_ltk hk v h]
  | .any, _ | .b _, _ | .i _ _, _ | .s _, _ | .sl _ _, _ | .own _ _, _ | .ep _ _, _ | .nilp, _ | .nilm, _ | .nsl, _ | .esl, _ | .nilf, _ | .nili, _ | .ptr _ _ _, _ | .mp _, _ => rfl
theorem unrefs_ltk {id sz : Nat} {rows : List (List AV)} {k : Nat} (hk : k ≤ id) : ∀ (l : List AV), AV.ltks k l = true → AV.unrefs id sz rows l = l
  | [], _ => rfl
  | a :: l, h => by
    simp only [AV.ltks, Bool.and_eq_true] at h
    simp only [AV.unrefs, unref_ltk hk a h.1, unrefs_ltk hk l h.2]
end
theorem Ob.unref_ltk {id sz : Nat} {rows : List (List AV)} {k : Nat} (hk : k ≤ id) (x : Ob) (h : x.ltk k = true) : x.unref id sz rows = x := by
  cases x with
  | cells s rs =>
    simp only [Ob.ltk, List.all_eq_true] at h
    simp only [Ob.unref, Ob.cells.injEq, true_and]
    conv => rhs; rw [← List.map_id rs]
    refine List.map_congr_left fun r hr => ?_
    conv => rhs; rw [show (_root_.id r) = r from rfl, ← List.map_id r]
    exact List.map_congr_left fun a ha => AW.unref_ltk hk a (h r hr a ha)
  | mapo es =>
    simp only [Ob.ltk, List.all_eq_true, Bool.and_eq_true] at h
    simp only [Ob.unref, Ob.mapo.injEq]
    conv => rhs; rw [← List.map_id es]
    refine List.map_congr_left fun x hx => ?_
    rw [AW.unref_ltk hk _ (h x hx).1, AW.unref_ltk hk _ (h x hx).2]; rfl
  | _ => rfl
theorem ints_set (l : List Int) (p : Nat) (b : Int) : (ints l).modify p (fun row => row.set 0 (.i .i64 b)) = ints (l.set p b) := by
  apply List.ext_getElem?
  intro i
  simp only [ints, List.getElem?_modify, List.getElem?_map, List.getElem?_set]
  by_cases hi : p = i
  · subst hi
    cases h : l[p]? with
    | none => have := List.getElem?_eq_none_iff.1 h; simp; omega
    | some x => have := (List.getElem?_eq_some_iff.1 h).1; simp [this]
  · simp [hi]
theorem frS_last {o : List Ob} {t : Nat → AV} {rows : List (List AV)} (ho : okO o = true) (hd : rows.map (fun r => r.map AV.dat) = rows) :
    frS o.length 1 rows ⟨t, o ++ [.cells 1 rows]⟩ = ⟨fun k => (t k).unref o.length 1 rows, o ++ [.frz 1 rows]⟩ := by
  simp only [frS, hd, app_set, List.map_append, List.map_cons, List.map_nil, Ob.unref, St.mk.injEq, true_and]
  congr 1
  conv => rhs; rw [← List.map_id o]
  refine List.map_congr_left fun x hx => ?_
  unfold okO at ho
  rw [List.all_eq_true] at ho
  exact Ob.unref_ltk (Nat.le_refl _) x (ho x hx)
def tab (l : List (Nat × AV)) : Nat → AV := fun k => match l.find? (fun x => x.1 == k) with | some x => x.2 | none => .any
theorem tab_le {t : Nat → AV} {l : List (Nat × AV)} (h : ∀ x ∈ l, t x.1 = x.2) (k : Nat) : Le (t k) (tab l k) := by
  unfold tab
  cases hf : l.find? (fun x => x.1 == k) with
  | none => exact Le.any _
  | some x =>
    have h1 := List.find?_some hf
    have h2 := List.mem_of_find?_eq_some hf
    simp only [beq_iff_eq] at h1
    rw [← h1, h x h2]
    exact Le.refl _
@[go_sem] theorem tab_cons (j : Nat) (v : AV) (l : List (Nat × AV)) (k : Nat) : tab ((j, v) :: l) k = if j = k then v else tab l k := by
  unfold tab
  rw [List.find?_cons]
  by_cases h : j = k
  · simp [h]
  · have : (j == k) = false := by simpa using h
    simp [h, this]
@[go_sem] theorem tab_nil (k : Nat) : tab [] k = .any := rfl
theorem tab_mix {t : Nat → AV} {lo hi : Nat} {L : List Nat} {l l0 : List (Nat × AV)} (h : ∀ x ∈ l, t x.1 = x.2) (h0 : ∀ x ∈ l0, t x.1 = x.2) (k : Nat) : Le (t k) (mix lo hi L (tab l) (tab l0) k) := by
  simp only [mix]
  split
  · exact tab_le h k
  · exact tab_le h0 k
theorem W_forM {P : Program} {n : Nat} {Q : Exit → St → Prop} {c : Code} (lo hi : Nat) (L : List Nat) (I : Nat → (Nat → AV) → List Ob → Prop) (m : Nat) {t1 t0 : Nat → AV} {o0 : List Ob} (h0 : I m t1 o0)
    (round : ∀ m t o, I m t o → W P n c (forQ lo hi L t0 I m Q) ⟨mix lo hi L t t0, o⟩) : W P n (.loop c) Q ⟨mix lo hi L t1 t0, o0⟩ := by
  refine W_while (fun m s => ∃ t, s.t = mix lo hi L t t0 ∧ I m t s.o) m ⟨t1, rfl, h0⟩ ?_
  rintro m ⟨ts, o⟩ ⟨t, ht, hI⟩
  simp only at ht
  subst ht
  refine (round m t o hI).mono ?_
  intro e s h
  cases e with
  | normal =>
    obtain ⟨m', t', h1, h2, h3⟩ := h
    exact ⟨m', h1, t', h2, h3⟩
  | _ => exact h
end Go.AW
namespace Go.AW
open Go Go.Proofs TyTry Go.IntWalk
set_option linter.unusedSimpArgs false
set_option linter.unusedVariables false
set_option maxRecDepth 10000
set_option maxHeartbeats 1000000
def placesF (cs : List Int) (x : List Int) : List Int := cs.map fun c => x.getD c.toNat 0
def placesP (cs : List Int) (x : List Int) (j : Nat) : List Int := (placesF cs x).take j ++ List.replicate (cs.length - j) 0
theorem placesP_len (cs : List Int) (x : List Int) (j : Nat) (h : j ≤ cs.length) : (placesP cs x j).length = cs.length := by
  simp [placesP, placesF]; omega
theorem placesP_zero (cs : List Int) (x : List Int) : placesP cs x 0 = List.replicate cs.length 0 := by simp [placesP]
theorem placesP_full (cs : List Int) (x : List Int) : placesP cs x cs.length = placesF cs x := by
  have : (placesF cs x).length = cs.length := by simp [placesF]
  unfold placesP
  rw [← this, List.take_length]; simp [this]
theorem placesP_set (cs : List Int) (x : List Int) (j : Nat) (c : Int) (h : cs[j]? = some c) : (placesP cs x j).set j (x.getD c.toNat 0) = placesP cs x (j + 1) := by
  have hj := (List.getElem?_eq_some_iff.1 h).1
  have hf : (placesF cs x)[j]? = some (x.getD c.toNat 0) := by simp [placesF, h]
  have hl : ((placesF cs x).take j).length = j := by simp [placesF]; omega
  unfold placesP
  rw [List.set_append_right _ _ (by omega), hl, Nat.sub_self, List.take_add_one, hf, show cs.length - j = (cs.length - (j + 1)) + 1 by omega, List.replicate_succ]
  simp
theorem okO_set' {o : List Ob} {i : Nat} {x : Ob} (h : okO o = true) (hx : x.ltk o.length = true) : okO (o.set i x) = true := by
  unfold okO at h ⊢
  rw [List.length_set, List.all_eq_true]
  rw [List.all_eq_true] at h
  intro y hy
  rcases List.mem_or_eq_of_mem_set hy with hy | rfl
  · exact h y hy
  · exact hx
def SortedP (l r : List (List Int)) : Prop := ∀ (oc : List Ob) (id : Nat), okO oc = true → oc[id]? = some (.cells 1 (tups l)) →
  ACalls Try.prog 75 [.ref id 0 l.length] oc fun x o' => ∃ k rows, x = .ref id 0 k ∧ o' = oc.set id (.cells 1 rows) ∧ k ≤ rows.length ∧ rows.take k = tups r ∧ (rows.all fun r => r.all fun c => c.dat.ltk 0 && c.dat.plain) = true ∧ okO o' = true
theorem project_spec (q : PlanD) (l r : List (List Int)) (hs0 : ACallsD Try.prog 75 [.nsl] (.sl 1 [])) (hs : SortedP (l.map (placesF q.cols)) r) (hr : l = [] → r = [])
    (hl : l.length ≤ 1000000) (hc : q.cols.length ≤ 1000000) (hll : ∀ x ∈ l, x.length ≤ 1000000) (hin : ∀ x ∈ l, ∀ c ∈ q.cols, 0 ≤ c ∧ c < x.length) :
    ACallsD Try.prog 61 [.any, .agg q.cells, .sl 1 (kid3 [l])] (.sl 1 (tups r)) := by
  have hq := q.cells_eq
  rw [hq]
  have k0 : (kid3 [l]).getD 0 [] = [.sl 1 (tups l)] := rfl
  have kl : (kid3 [l]).length = 1 := rfl
  have tl : ∀ l : List (List Int), (tups l).length = l.length := fun l => by simp [tups]
  have il : ∀ l : List Int, (ints l).length = l.length := fun l => by simp [ints]
  refine ACalls_of' (n := 48) (rs := [.tmp 6]) (show Try.prog.funcs[61]? = some Try.f61 by kernel_rfl) rfl rfl rfl (by simp) (by decide +kernel) ?_
  repeat (first | refine nav ?_ | refine bo ?_)
  (refine wr fun K R hK hR => ?_; simp (maxSteps := 10000000) only [go_sem]; (try go_ints); (repeat refine And.intro side ?_); (first | refine hK _ ?_ | refine hR _ _ ?_); clear hK hR K R)
  repeat (first | refine nav ?_ | refine bo ?_)
  (refine W_reg [1000000] fun K R hK hR => ?_; simp (maxSteps := 10000000) only [go_sem]; (try go_ints); (repeat refine And.intro side ?_); (first | refine hK _ ?_ | refine hR _ _ ?_); clear hK hR K R)
  repeat (first | refine nav ?_ | refine bo ?_)
  (refine wr fun K R hK hR => ?_; simp (maxSteps := 10000000) only [go_sem, k0, kl, tl]; (try go_ints); (try simp only [go_sem, k0, kl, tl]); (repeat refine And.intro side ?_); (first | refine hK _ ?_ | refine hR _ _ ?_); clear hK hR K R)
  repeat (first | refine nav ?_ | refine bo ?_)
  refine W_weak (s' := ⟨mix 17 48 [7, 9, 10, 11, 12] (tab [(7, .nsl), (17, .i .i64 0)]) (tab [(4, .ptr 0 0 0), (15, .sl 1 (tups l)), (16, .i .i64 l.length)]), [boxQ q]⟩) (tab_mix (fun x hx => ?_) (fun x hx => ?_)) rfl ?_
  · simp only [List.mem_cons, List.not_mem_nil, or_false] at hx
    rcases hx with rfl | rfl <;> rfl
  · simp only [List.mem_cons, List.not_mem_nil, or_false] at hx
    rcases hx with rfl | rfl | rfl <;> rfl
  refine W_forM 17 48 [7, 9, 10, 11, 12] (fun m t o => ∃ (k : Nat) (v7 : AV), okO o = true ∧ o[0]? = some (boxQ q) ∧ t 17 = .i .i64 k ∧ t 7 = v7 ∧ (v7 = .nsl ∧ k = 0 ∨ ∃ K, 0 < K ∧ v7 = .ref K 0 k ∧ o[K]? = some (.cells 1 (tups ((l.map (placesF q.cols)).take k)))) ∧ m = l.length - k ∧ k ≤ l.length) l.length ⟨0, .nsl, rfl, rfl, by simp only [go_sem] <;> rfl, by simp only [go_sem], .inl ⟨rfl, rfl⟩, by omega, by omega⟩ ?_
  rintro m t o ⟨k, v7, hok, o0, h17, h7, hv, rfl, hk⟩
  have hol : 0 < o.length := (List.getElem?_eq_some_iff.1 o0).1
  repeat (first | refine nav ?_ | refine bo ?_)
  (refine wr fun K R hK hR => ?_; simp (maxSteps := 10000000) only [go_sem, h17]; (try go_ints); (try simp only [go_sem, h17]); (repeat refine And.intro side ?_); (first | refine hK _ ?_ | refine hR _ _ ?_); clear hK hR K R)
  repeat (first | refine nav ?_ | refine bo ?_)
  refine W_cond (by simp only [go_sem] <;> exact rfl) (fun hb => ?_) (fun hb => ?_)
  · simp at hb
    have hb0 : k + 1 ≤ l.length := hb
    obtain ⟨x, hx⟩ : ∃ x, l[k]? = some x := ⟨_, List.getElem?_eq_getElem hb⟩
    have hxm := List.mem_of_getElem? hx
    have hxl := hll x hxm
    have o0' := fun l => app_get l o0
    repeat (first | refine nav ?_ | refine bo ?_)
    (refine wr fun K R hK hR => ?_; simp (maxSteps := 10000000) only [go_sem, h17, tups_get hx, tl]; (try go_ints); (try simp only [go_sem, h17, tups_get hx, tl]); (repeat refine And.intro side ?_); (first | refine hK _ ?_ | refine hR _ _ ?_); clear hK hR K R)
    repeat (first | refine nav ?_ | refine bo ?_)
    (refine wr fun K R hK hR => ?_; simp (maxSteps := 10000000) only [go_sem, o0, il]; (try go_ints); (try simp only [go_sem, o0, il]); (repeat refine And.intro side ?_); (first | refine hK _ ?_ | refine hR _ _ ?_); clear hK hR K R)
    repeat (first | refine nav ?_ | refine bo ?_)
    (refine wr fun K R hK hR => ?_; simp (maxSteps := 10000000) only [go_sem, o0', il]; (try go_ints); (try simp only [go_sem, o0', il]); (repeat refine And.intro side ?_); (first | refine hK _ ?_ | refine hR _ _ ?_); clear hK hR K R)
    repeat (first | refine nav ?_ | refine bo ?_)
    refine W_weak (s' := ⟨tab [(4, .ptr 0 0 0), (15, .sl 1 (tups l)), (16, .i .i64 l.length), (7, v7), (17, .i .i64 k), (9, .sl 1 (ints x)), (10, .ref o.length 0 q.cols.length), (26, .sl 1 (ints q.cols)), (27, .i .i64 q.cols.length), (28, .i .i64 0)], o ++ [.cells 1 (ints (placesP q.cols x 0))]⟩) (tab_le fun y hy => ?_) ?_ ?_
    · simp only [List.mem_cons, List.not_mem_nil, or_false] at hy
      rcases hy with rfl | rfl | rfl | rfl | rfl | rfl | rfl | rfl | rfl | rfl
      all_goals first | rfl | exact h7 | exact h17
    · simp only [placesP_zero, ints, List.map_replicate]
    refine W_for 28 41 [11, 12] (fun m t o2 => ∃ j : Nat, o2 = o ++ [.cells 1 (ints (placesP q.cols x j))] ∧ t 28 = .i .i64 j ∧ m = q.cols.length - j ∧ j ≤ q.cols.length) q.cols.length ⟨0, rfl, rfl, by omega, Nat.zero_le _⟩ ?_
    rintro m t2 o2 ⟨j, rfl, h28, rfl, hj⟩
    repeat (first | refine nav ?_ | refine bo ?_)
    (refine wr fun K R hK hR => ?_; simp (maxSteps := 10000000) only [go_sem, h28]; (try go_ints); (try simp only [go_sem, h28]); (repeat refine And.intro side ?_); (first | refine hK _ ?_ | refine hR _ _ ?_); clear hK hR K R)
    repeat (first | refine nav ?_ | refine bo ?_)
    refine W_cond (by simp only [go_sem] <;> exact rfl) (fun hb => ?_) (fun hb => ?_)
    · simp at hb
      obtain ⟨c, hcj⟩ : ∃ c, q.cols[j]? = some c := ⟨_, List.getElem?_eq_getElem hb⟩
      obtain ⟨c0, c1⟩ := hin x hxm c (List.mem_of_getElem? hcj)
      obtain ⟨v, hv1⟩ : ∃ v, x[c.toNat]? = some v := ⟨_, List.getElem?_eq_getElem (by omega)⟩
      have hpl := placesP_len q.cols x j hj
      have hgv : x.getD c.toNat 0 = v := by simp [hv1]
      repeat (first | refine nav ?_ | refine bo ?_)
      (refine wr fun K R hK hR => ?_; simp (maxSteps := 10000000) only [go_sem, h28, ints_get hcj, il]; (try go_ints); (try simp only [go_sem, h28, ints_get hcj, il]); (repeat refine And.intro side ?_); (first | refine hK _ ?_ | refine hR _ _ ?_); clear hK hR K R)
      repeat (first | refine nav ?_ | refine bo ?_)
      obtain ⟨z, hz⟩ : ∃ z, (placesP q.cols x j)[j]? = some z := ⟨_, List.getElem?_eq_getElem (by omega)⟩
      (refine wr fun K R hK hR => ?_; simp (maxSteps := 10000000) only [go_sem, h28, ints_get hv1, ints_get hz, il, hpl, ints_set]; (try go_ints); (try simp only [go_sem, h28, ints_get hv1, ints_get hz, il, hpl, ints_set]); (repeat refine And.intro side ?_); (first | refine hK _ ?_ | refine hR _ _ ?_); clear hK hR K R)
      rw [← hgv, placesP_set q.cols x j c hcj]
      repeat (first | refine nav ?_ | refine bo ?_)
      (refine wr fun K R hK hR => ?_; simp (maxSteps := 10000000) only [go_sem, h28]; (try go_ints); (try simp only [go_sem, h28]); (repeat refine And.intro side ?_); (first | refine hK _ ?_ | refine hR _ _ ?_); clear hK hR K R)
      refine forQ_normal (q.cols.length - (j + 1)) (by omega) ⟨j + 1, rfl, ?_⟩
      ((try simp only [go_sem]); (repeat' refine And.intro ?_ ?_) <;> (try first | with_reducible rfl | omega | with_reducible assumption | (simp; done)))
    · simp at hb
      obtain rfl : j = q.cols.length := by omega
      rw [placesP_full]
      obtain ⟨u, hu⟩ : ∃ u, u = placesF q.cols x := ⟨_, rfl⟩
      have hul : u.length = q.cols.length := by rw [hu]; simp [placesF]
      rw [← hu]
      have hrl : (ints u).length = q.cols.length := by rw [il, hul]
      have htk : List.take q.cols.length (ints u) = ints u := List.take_of_length_le (by omega)
      refine W_freeze o.length (sz := 1) (rows := ints u) (by simp) (by simp [ints, AV.dat, AV.ltk, AV.plain]) ?_
      rw [frS_last hok (by simp [ints, Function.comp_def, AV.dat])]
      have hv7 : v7.unref o.length 1 (ints u) = v7 := by
        rcases hv with ⟨rfl, _⟩ | ⟨K, hK0, rfl, hK⟩
        · rfl
        · have := (List.getElem?_eq_some_iff.1 hK).1
          unfold AV.unref
          rw [if_neg (by omega)]
      refine W_weak (s' := ⟨mix 17 48 [7, 9, 10, 11, 12] (tab [(7, v7), (17, .i .i64 k), (10, .sl 1 (ints u))]) (tab [(4, .ptr 0 0 0), (15, .sl 1 (tups l)), (16, .i .i64 l.length)]), o ++ [.frz 1 (ints u)]⟩) (tab_mix (fun y hy => ?_) (fun y hy => ?_)) rfl ?_
      · simp only [List.mem_cons, List.not_mem_nil, or_false] at hy
        rcases hy with rfl | rfl | rfl
        · simpa [mix, inL, tab] using hv7
        · rfl
        · simp [mix, inL, tab, upd, AV.unref, hrl, htk]
      · simp only [List.mem_cons, List.not_mem_nil, or_false] at hy
        rcases hy with rfl | rfl | rfl <;> rfl
      have hok2 : okO (o ++ [.frz 1 (ints u)]) = true := okO_app hok rfl
      have htk2 : ((l.map (placesF q.cols)).take (k + 1)) = (l.map (placesF q.cols)).take k ++ [u] := by rw [List.take_add_one]; simp [hx, hu]
      have hro : rowsOk false [[AV.sl 1 (ints u)]] = true := by rfl
      rcases hv with ⟨rfl, rfl⟩ | ⟨K1, hK0, rfl, hK1⟩
      · repeat (first | refine nav ?_ | refine bo ?_)
        (refine W_reg [1000000] fun K R hK hR => ?_; simp (maxSteps := 10000000) only [go_sem, hro]; (try go_ints); (try simp only [go_sem, hro]); (repeat refine And.intro side ?_); (first | refine hK _ ?_ | refine hR _ _ ?_); clear hK hR K R)
        repeat (first | refine nav ?_ | refine bo ?_)
        (refine wr fun K R hK hR => ?_; simp (maxSteps := 10000000) only [go_sem]; (try go_ints); (repeat refine And.intro side ?_); (first | refine hK _ ?_ | refine hR _ _ ?_); clear hK hR K R)
        refine forQ_normal (l.length - (0 + 1)) (by omega) ⟨0 + 1, .ref (o.length + 2) 0 1, okO_app hok rfl, app_get _ o0, by simp only [go_sem] <;> rfl, by simp only [go_sem], .inr ⟨o.length + 2, by omega, rfl, ?_⟩, rfl, hb0⟩
        rw [List.getElem?_append_right (by omega), show o.length + 2 - o.length = 2 by omega, htk2]
        rfl
      · have hKl := (List.getElem?_eq_some_iff.1 hK1).1
        obtain ⟨acc, hacc⟩ : ∃ acc, acc = (l.map (placesF q.cols)).take k := ⟨_, rfl⟩
        have hal : acc.length = k := by rw [hacc]; simp; omega
        have hat : List.take k (tups acc) = tups acc := List.take_of_length_le (by rw [tl]; omega)
        rw [← hacc] at hK1 htk2
        have haa : acc.length ≤ 1000000 := by omega
        repeat (first | refine nav ?_ | refine bo ?_)
        (refine W_reg [1000000] fun K R hK hR => ?_; simp (maxSteps := 10000000) only [go_sem, hro, app_get _ hK1, tl, hat]; (try go_ints); (repeat refine And.intro (by first | exact side | (simp [tups]; omega)) ?_); (first | refine hK _ ?_ | refine hR _ _ ?_); clear hK hR K R)
        repeat (first | refine nav ?_ | refine bo ?_)
        (refine wr fun K R hK hR => ?_; simp (maxSteps := 10000000) only [go_sem]; (try go_ints); (repeat refine And.intro side ?_); (first | refine hK _ ?_ | refine hR _ _ ?_); clear hK hR K R)
        refine forQ_normal (l.length - (k + 1)) (by omega) ⟨k + 1, .ref (o.length + 2) 0 (k + 1), okO_app (okO_set' (okO_app hok rfl) rfl) (by simp [Ob.ltk, tups, AV.ltk]), app_get _ (by rw [List.getElem?_set_ne (by omega)]; exact app_get _ o0), by simp only [go_sem] <;> rfl, by simp only [go_sem], .inr ⟨o.length + 2, by omega, rfl, ?_⟩, rfl, hb0⟩
        rw [List.getElem?_append_right (by simp), htk2]
        simp [tups]
  · simp at hb
    obtain rfl : k = l.length := by omega
    rcases hv with ⟨rfl, h0⟩ | ⟨K1, hK0, rfl, hK1⟩
    · have hl0 : l = [] := List.length_eq_zero_iff.1 h0
      rw [hr hl0]
      repeat (first | refine nav ?_ | refine bo ?_)
      (refine W_reg [1000000] fun K R hK hR => ?_; simp (maxSteps := 10000000) only [go_sem, h7]; (try go_ints); (try simp only [go_sem, h7]); (repeat refine And.intro side ?_); (first | refine hK _ ?_ | refine hR _ _ ?_); clear hK hR K R)
      refine RL_callF (hs0) rfl rfl rfl (by first | (simp only [go_sem] <;> first | exact LeA.refl _ | exact Le.refl _) | exact LeA.refl _) rfl rfl ?_
      (refine RL_reg [1000000] fun K R hK hR => ?_; simp (maxSteps := 10000000) only [go_sem]; (try go_ints); (repeat refine And.intro (by first | exact side | (omega)) ?_); (first | refine hK _ ?_ | refine hR _ _ ?_); clear hK hR K R)
      repeat (first | refine nav ?_ | refine bo ?_)
      refine endQ_data (by simp only [go_sem] <;> exact rfl) (Le.of_eq ?_) rfl
      rfl
    · rw [List.take_of_length_le (by simp)] at hK1
      have hs1 := hs o K1 hok hK1
      rw [List.length_map] at hs1
      have hKl := (List.getElem?_eq_some_iff.1 hK1).1
      repeat (first | refine nav ?_ | refine bo ?_)
      (refine W_reg [1000000] fun K R hK hR => ?_; simp (maxSteps := 10000000) only [go_sem, h7]; (try go_ints); (try simp only [go_sem, h7]); (repeat refine And.intro side ?_); (first | refine hK _ ?_ | refine hR _ _ ?_); clear hK hR K R)
      refine RL_callE (caps := []) hs1 ?_ rfl rfl rfl (by simp) (by exact LeA.refl _) hok (by simp [AV.ltk]; omega) ?_
      · rintro x o' ⟨k', rows, rfl, rfl, h0, h1, h2, h3⟩
        exact ⟨by simp, by simp [AV.ltk]; omega, h3⟩
      rintro x o' ⟨k', rows, rfl, rfl, h0, h1, h2, h3⟩
      (refine RL_reg [1000000] fun K R hK hR => ?_; simp (maxSteps := 10000000) only [go_sem]; (try go_ints); (repeat refine And.intro (by first | exact side | (omega)) ?_); (first | refine hK _ ?_ | refine hR _ _ ?_); clear hK hR K R)
      change W Try.prog 48 Code.ret _ _
      refine W_freeze K1 (sz := 1) (rows := rows) (by simp [hKl]) h2 ?_
      have hmk : (rows.map fun r => r.map AV.dat).take k' = tups r := by rw [← List.map_take, h1]; simp [tups, Function.comp_def, AV.dat]
      refine W_weak (s' := ⟨tab [(6, .sl 1 (tups r))], _⟩) (fun y => ?_) rfl ?_
      · simp only [tab_cons, tab_nil]
        split
        · rename_i e
          subst e
          simp only [frS, upd, if_true, AV.unref]
          rw [if_pos ⟨trivial, by simpa using h0⟩, List.drop_zero, hmk]
          exact Le.refl _
        · exact Le.any _
      repeat (first | refine nav ?_ | refine bo ?_)
      refine endQ_data (by simp only [go_sem] <;> exact rfl) (Le.of_eq ?_) rfl
      rfl
end Go.AW
namespace Go.AW
open Go Go.Proofs TyTry Go.IntWalk
set_option linter.unusedSimpArgs false
set_option linter.unusedVariables false
set_option maxRecDepth 100000
set_option maxHeartbeats 1000000
theorem run0 {k : Nat} {f : FuncId} {ac : List AV} {r : AV} (h : xCall Try.prog (fun _ _ _ => none) (fun _ => false) k f ac [] = some (r, [])) : ACallsD Try.prog f ac r :=
  ((x_sound (fun _ _ _ => none) (fun _ => false) (by decide +kernel) (fun _ _ _ _ _ h => by cases h) k).2.2.2.1 f ac [] r [] h).1
theorem ins1_spec (b : Int) (hb0 : b = 0 ∨ b = 1) {oc : List Ob} (ho : okO oc = true) : ACallsQ Try.prog 91 [.any, .i .i64 0, .i .i64 b, .any] oc (.tup []) := by
  refine ACalls_of' (n := 53) (rs := []) (show Try.prog.funcs[91]? = some Try.f91 by kernel_rfl) rfl rfl rfl (by simp) (by decide +kernel) ?_
  repeat (first | refine nav ?_ | refine bo ?_)
  (refine wr fun K R hK hR => ?_; simp (maxSteps := 10000000) only [go_sem]; (try go_ints); (repeat refine And.intro side ?_); (first | refine hK _ ?_ | refine hR _ _ ?_); clear hK hR K R)
  repeat (first | refine nav ?_ | refine bo ?_)
  refine W_for 8 53 [] (fun m t o => o = oc ∧ t 8 = .i .i64 1) 1 ⟨rfl, by simp only [go_sem] <;> rfl⟩ ?_
  rintro m t o ⟨rfl, h8⟩
  repeat (first | refine nav ?_ | refine bo ?_)
  (refine wr fun K R hK hR => ?_; simp (maxSteps := 10000000) only [go_sem, h8]; (try go_ints); (try simp only [go_sem, h8]); (repeat refine And.intro side ?_); (first | refine hK _ ?_ | refine hR _ _ ?_); clear hK hR K R)
  repeat (first | refine nav ?_ | refine bo ?_)
  refine W_cond (by simp only [go_sem] <;> exact rfl) (fun hb => ?_) (fun hb => ?_)
  · simp at hb; omega
  repeat (first | refine nav ?_ | refine bo ?_)
  refine endQ_quiet0 (by simp only [go_sem] <;> exact rfl) (Le.of_eq ?_) (by assumption) rfl
  rfl
theorem len1_spec (b : Int) (hb : b = 0 ∨ b = 1) : ACallsD Try.prog 90 [.i .u64 b] (.i .i64 b) := by
  rcases hb with rfl | rfl
  · exact run0 (k := 40) (by kernel_rfl)
  · exact run0 (k := 40) (by kernel_rfl)
theorem pdq1_spec (b c : Int) (hb0 : b = 0 ∨ b = 1) {oc : List Ob} (ho : okO oc = true) : ACallsQ Try.prog 89 [.any, .i .i64 0, .i .i64 b, .i .i64 c, .any] oc (.tup []) := by
  refine ACalls_of' (n := 148) (rs := []) (show Try.prog.funcs[89]? = some Try.f89 by kernel_rfl) rfl rfl rfl (by simp) (by decide +kernel) ?_
  repeat (first | refine nav ?_ | refine bo ?_)
  (refine wr fun K R hK hR => ?_; simp (maxSteps := 10000000) only [go_sem]; (try go_ints); (repeat refine And.intro side ?_); (first | refine hK _ ?_ | refine hR _ _ ?_); clear hK hR K R)
  repeat (first | refine nav ?_ | refine bo ?_)
  (refine wr fun K R hK hR => ?_; simp (maxSteps := 10000000) only [go_sem]; (try go_ints); (repeat refine And.intro side ?_); (first | refine hK _ ?_ | refine hR _ _ ?_); clear hK hR K R)
  repeat (first | refine nav ?_ | refine bo ?_)
  refine W_for 12 148 [] (fun m t o => o = oc) 1 rfl ?_
  rintro m t o rfl
  repeat (first | refine nav ?_ | refine bo ?_)
  (refine wr fun K R hK hR => ?_; simp (maxSteps := 10000000) only [go_sem]; (try go_ints); (repeat refine And.intro side ?_); (first | refine hK _ ?_ | refine hR _ _ ?_); clear hK hR K R)
  repeat (first | refine nav ?_ | refine bo ?_)
  (refine wr fun K R hK hR => ?_; simp (maxSteps := 10000000) only [go_sem]; (try go_ints); (repeat refine And.intro side ?_); (first | refine hK _ ?_ | refine hR _ _ ?_); clear hK hR K R)
  repeat (first | refine nav ?_ | refine bo ?_)
  refine W_cond (by simp only [go_sem] <;> exact rfl) (fun hb => ?_) (fun hb => ?_)
  · repeat (first | refine nav ?_ | refine bo ?_)
    (refine wr fun K R hK hR => ?_; simp (maxSteps := 10000000) only [go_sem]; (try go_ints); (repeat refine And.intro side ?_); (first | refine hK _ ?_ | refine hR _ _ ?_); clear hK hR K R)
    refine RL_callQ (ins1_spec b hb0 ho) rfl rfl rfl (by simp) (by simp only [go_sem] <;> exact LeA.refl _) ho rfl rfl ?_
    (refine rr fun K R hK hR => ?_; simp (maxSteps := 10000000) only [go_sem]; (try go_ints); (repeat refine And.intro side ?_); (first | refine hK _ ?_ | refine hR _ _ ?_); clear hK hR K R)
    repeat (first | refine nav ?_ | refine bo ?_)
    refine endQ_quiet0 (by simp only [go_sem] <;> exact rfl) (Le.of_eq ?_) (by assumption) rfl
    rfl
  · simp at hb; omega
theorem sortF1_spec (id : Nat) {oc : List Ob} (ho : okO oc = true) (hi : id < oc.length) : ACallsQ Try.prog 83 [.ref id 0 1, .any] oc (.tup []) := by
  refine ACalls_of' (n := 14) (rs := []) (show Try.prog.funcs[83]? = some Try.f83 by kernel_rfl) rfl rfl rfl (by simp) (by decide +kernel) ?_
  repeat (first | refine nav ?_ | refine bo ?_)
  (refine wr fun K R hK hR => ?_; simp (maxSteps := 10000000) only [go_sem]; (try go_ints); (repeat refine And.intro side ?_); (first | refine hK _ ?_ | refine hR _ _ ?_); clear hK hR K R)
  repeat (first | refine nav ?_ | refine bo ?_)
  (refine wr fun K R hK hR => ?_; simp (maxSteps := 10000000) only [go_sem]; (try go_ints); (repeat refine And.intro side ?_); (first | refine hK _ ?_ | refine hR _ _ ?_); clear hK hR K R)
  refine RL_callF (len1_spec 1 (.inr rfl)) rfl rfl rfl (by first | (simp only [go_sem] <;> first | exact LeA.refl _ | exact Le.refl _) | exact LeA.refl _) rfl rfl ?_
  (refine rr fun K R hK hR => ?_; simp (maxSteps := 10000000) only [go_sem]; (try go_ints); (repeat refine And.intro side ?_); (first | refine hK _ ?_ | refine hR _ _ ?_); clear hK hR K R)
  refine RL_callQ (pdq1_spec 1 1 (.inr rfl) ho) rfl rfl rfl (by simp) (by simp only [go_sem] <;> exact ⟨Le.any _, Le.refl _⟩) ho rfl rfl ?_
  (refine rr fun K R hK hR => ?_; simp (maxSteps := 10000000) only [go_sem]; (try go_ints); (repeat refine And.intro side ?_); (first | refine hK _ ?_ | refine hR _ _ ?_); clear hK hR K R)
  repeat (first | refine nav ?_ | refine bo ?_)
  refine endQ_quiet0 (by simp only [go_sem] <;> exact rfl) (Le.of_eq ?_) (by assumption) rfl
  rfl
theorem compact1_spec (id : Nat) {oc : List Ob} (ho : okO oc = true) (hi : id < oc.length) : ACalls Try.prog 84 [.ref id 0 1, .any] oc fun x o' => x = .ref id 0 1 ∧ o' = oc := by
  refine ACalls_of' (n := 66) (rs := [.tmp 4]) (show Try.prog.funcs[84]? = some Try.f84 by kernel_rfl) rfl rfl rfl (by simp) (by decide +kernel) ?_
  repeat (first | refine nav ?_ | refine bo ?_)
  (refine wr fun K R hK hR => ?_; simp (maxSteps := 10000000) only [go_sem]; (try go_ints); (repeat refine And.intro side ?_); (first | refine hK _ ?_ | refine hR _ _ ?_); clear hK hR K R)
  repeat (first | refine nav ?_ | refine bo ?_)
  (refine wr fun K R hK hR => ?_; simp (maxSteps := 10000000) only [go_sem]; (try go_ints); (repeat refine And.intro side ?_); (first | refine hK _ ?_ | refine hR _ _ ?_); clear hK hR K R)
  repeat (first | refine nav ?_ | refine bo ?_)
  refine W_cond (by simp only [go_sem] <;> exact rfl) (fun hb => ?_) (fun hb => ?_)
  · repeat (first | refine nav ?_ | refine bo ?_)
    (refine wr fun K R hK hR => ?_; simp (maxSteps := 10000000) only [go_sem]; (try go_ints); (repeat refine And.intro side ?_); (first | refine hK _ ?_ | refine hR _ _ ?_); clear hK hR K R)
    repeat (first | refine nav ?_ | refine bo ?_)
    refine endQ_all (by simp only [go_sem] <;> exact rfl) (Le.refl _) (by simp) ho (by simp [AV.ltk]; omega) ⟨rfl, rfl⟩
  · simp at hb
theorem set_of_get {l : List Ob} {i : Nat} {x : Ob} (h : l[i]? = some x) : l.set i x = l := by
  obtain ⟨h1, e⟩ := List.getElem?_eq_some_iff.1 h
  rw [← e]; exact List.set_getElem_self h1
theorem sorted0_spec : ACallsD Try.prog 75 [.nsl] (.sl 1 []) := run0 (k := 60) (by kernel_rfl)
theorem sorted1_spec (x : List Int) : SortedP [x] [x] := by
  intro oc id ho hi
  have hlt := (List.getElem?_eq_some_iff.1 hi).1
  refine ACalls_of' (n := 7) (rs := [.tmp 2]) (show Try.prog.funcs[75]? = some Try.f75 by kernel_rfl) rfl rfl rfl (by simp) (by decide +kernel) ?_
  repeat (first | refine nav ?_ | refine bo ?_)
  (refine W_reg [1000000] fun K R hK hR => ?_; simp (maxSteps := 10000000) only [go_sem]; (try go_ints); (repeat refine And.intro side ?_); (first | refine hK _ ?_ | refine hR _ _ ?_); clear hK hR K R)
  repeat (first | refine nav ?_ | refine bo ?_)
  (refine W_reg [1000000] fun K R hK hR => ?_; simp (maxSteps := 10000000) only [go_sem]; (try go_ints); (repeat refine And.intro side ?_); (first | refine hK _ ?_ | refine hR _ _ ?_); clear hK hR K R)
  refine RL_callQ (sortF1_spec id ho hlt) rfl rfl rfl (by simp) (by simp only [go_sem] <;> exact Le.any _) ho (by simp [AV.ltk]; omega) rfl ?_
  (refine RL_reg [1000000] fun K R hK hR => ?_; simp (maxSteps := 10000000) only [go_sem]; (try go_ints); (repeat refine And.intro (by first | exact side | (omega)) ?_); (first | refine hK _ ?_ | refine hR _ _ ?_); clear hK hR K R)
  repeat (first | refine nav ?_ | refine bo ?_)
  (refine W_reg [1000000] fun K R hK hR => ?_; simp (maxSteps := 10000000) only [go_sem]; (try go_ints); (repeat refine And.intro side ?_); (first | refine hK _ ?_ | refine hR _ _ ?_); clear hK hR K R)
  refine RL_callE (caps := []) (compact1_spec id ho hlt) (by rintro r o' ⟨rfl, rfl⟩; exact ⟨Nat.le_refl _, by simp [AV.ltk]; omega, ho⟩) rfl rfl rfl (by simp) (by simp only [go_sem] <;> exact Le.any _) ho (by simp [AV.ltk]; omega) ?_
  rintro r o' ⟨rfl, rfl⟩
  (refine RL_reg [1000000] fun K R hK hR => ?_; simp (maxSteps := 10000000) only [go_sem]; (try go_ints); (repeat refine And.intro (by first | exact side | (omega)) ?_); (first | refine hK _ ?_ | refine hR _ _ ?_); clear hK hR K R)
  repeat (first | refine nav ?_ | refine bo ?_)
  refine endQ_all (by simp only [go_sem] <;> exact rfl) (Le.refl _) (by simp) ho (by simp [AV.ltk]; omega) ⟨1, tups [x], rfl, ?_, by simp [tups], rfl, rfl, ho⟩
  exact (set_of_get hi).symm
end Go.AW
namespace Go.AW
open Go Go.Proofs TyTry Go.IntWalk
set_option linter.unusedSimpArgs false
set_option linter.unusedVariables false
set_option maxRecDepth 10000
set_option maxHeartbeats 1000000
@[go_sem] theorem arrD0 (x d : Operand) : (#[x] : Array Operand).getD 0 d = x := rfl
attribute [go_sem] Int.reduceBEq
def engMap (E : Nat) : List (AV × AV) := [(.i .i64 0, .bm 57 (.ptr E 0 0)), (.i .i64 1, .bm 58 (.ptr E 0 0)), (.i .i64 2, .bm 59 (.ptr E 0 0)), (.i .i64 3, .bm 59 (.ptr E 0 0)),
  (.i .i64 4, .bm 60 (.ptr E 0 0)), (.i .i64 5, .bm 61 (.ptr E 0 0)), (.i .i64 6, .bm 62 (.ptr E 0 0)), (.i .i64 7, .bm 63 (.ptr E 0 0))]
def engObs (s : StrD) (n : Nat) : List Ob := [.cells 2 [s.cells], .cells 3 [[.i .i64 s.size, .sl 3 (rels s.rels), .mp (n + 2)]], .mapo (engMap (n + 1))]
theorem newEngine_spec (s : StrD) {oc : List Ob} (ho : okO oc = true) : ACalls Try.prog 38 [.agg s.cells] oc fun r o' => r = .ptr (oc.length + 1) 0 0 ∧ o' = oc ++ engObs s oc.length := by
  unfold StrD.cells
  refine ACalls_of' (n := 29) (rs := [.tmp 2]) (show Try.prog.funcs[38]? = some Try.f38 by kernel_rfl) rfl rfl rfl (by simp) (by decide +kernel) ?_
  repeat (first | refine nav ?_ | refine bo ?_)
  (refine wr fun K R hK hR => ?_; simp (maxSteps := 10000000) only [go_sem]; (try go_ints); (repeat refine And.intro side ?_); (first | refine hK _ ?_ | refine hR _ _ ?_); clear hK hR K R)
  repeat (first | refine nav ?_ | refine bo ?_)
  (refine wr fun K R hK hR => ?_; simp (maxSteps := 10000000) only [go_sem]; (try go_ints); (repeat refine And.intro side ?_); (first | refine hK _ ?_ | refine hR _ _ ?_); clear hK hR K R)
  repeat (first | refine nav ?_ | refine bo ?_)
  (refine wr fun K R hK hR => ?_; simp (maxSteps := 10000000) only [go_sem]; (try go_ints); (repeat refine And.intro side ?_); (first | refine hK _ ?_ | refine hR _ _ ?_); clear hK hR K R)
  repeat (first | refine nav ?_ | refine bo ?_)
  (refine wr fun K R hK hR => ?_; simp (maxSteps := 10000000) only [go_sem]; (try go_ints); (repeat refine And.intro side ?_); (first | refine hK _ ?_ | refine hR _ _ ?_); clear hK hR K R)
  repeat (first | refine nav ?_ | refine bo ?_)
  refine endQ_all (by simp only [go_sem] <;> exact rfl) (Le.refl _) (by simp) (okO_app ho ?_) (by simp [AV.ltk]) ⟨rfl, rfl⟩
  simp [Ob.ltk, AV.ltk, rels]
end Go.AW
namespace Go.AW
open Go Go.Proofs TyTry Go.IntWalk
set_option linter.unusedSimpArgs false
set_option linter.unusedVariables false
set_option maxRecDepth 10000
set_option maxHeartbeats 1000000
theorem CallD.allB {P : Program} {n : Nat} {s : St} {o : Oper} {c : Call} {x : Operand} {f : FuncId} {v : AV} {ac : List AV} {v' r : AV} (ho : o.op = .call c) (hc : c.callee = .value x) (hx : ung true (opd s.t x) = .bm f v) (h : ACallsQ P f (v' :: ac) s.o r)
    (hin : c.args.toList.all (opIn n) = true) (hd : dstOk n o.dst = true) (hl : c.args.size = ac.length) (hle : LeA (argVals c.args.toList ac s.t ++ [v.dat]) (ac ++ [v']))
    (hoc : okO s.o = true) (hac : ac.all (AV.ltk s.o.length) = true) (hv : v'.ltk s.o.length = true) (hr : r.ltk 0 = true) : CallD P n o s (ac ++ [v']) r := by
  have hac' : (ac ++ [v']).all (AV.ltk s.o.length) = true := by rw [List.all_append, hac]; simp [hv]
  refine ⟨⟨c, x, true, f, [v], List.range s.o.length, s.o, ho, hc, by rw [hx]; rfl, hin, by simp; omega, Hand.all hoc, ?_, by rw [List.length_range]; exact hac', ?_⟩, hd, hr⟩
  · rw [map_ren_range hac', List.take_left' hl.symm]; exact hle
  · refine ACalls.rot (by simp) ?_
    have : rotL AV.any true (ac ++ [v']) = v' :: ac := by simp [rotL]
    rw [this]; exact h
theorem D_callQB {P : Program} {n : Nat} {gd : List (Option Nat)} {tk : List Nat} {s : St} {K : St → Prop} {d : Option Tmp} {x : Operand} {xs : List Operand} {ats : Array TypeId} {ty : TypeId} {pos : String} {aft : Array Edge} {rest : List Oper} {f : FuncId} {v : AV} (v' : AV) (ac : List AV) {r : AV} (h : ACallsQ P f (v' :: ac) s.o r)
    (hx : ung true (opd s.t x) = .bm f v) (hin : xs.all (opIn n) = true) (hd : dstOk n d = true) (hl : xs.length = ac.length) (hle : LeA (argVals xs ac s.t ++ [v.dat]) (ac ++ [v']))
    (hoc : okO s.o = true) (hac : ac.all (AV.ltk s.o.length) = true) (hv : v'.ltk s.o.length = true) (hr : r.ltk 0 = true) (hq : isQ tk ⟨d, .call ⟨.value x, xs.toArray, ats⟩, ty, pos, aft, none⟩ = true) (ho : (ac ++ [v']).all (fun c => !c.isOwn) = true)
    (hK : D P n gd tk rest K (s.put d r)) : D P n gd tk (⟨d, .call ⟨.value x, xs.toArray, ats⟩, ty, pos, aft, none⟩ :: rest) K s :=
  D_call (ac ++ [v']) r rfl hq (CallD.allB rfl rfl hx h hin hd (by simpa using hl) (by simpa using hle) hoc hac hv hr) ho hK
structure Eng (s : StrD) (E : Nat) (o : List Ob) : Prop where
  e : o[E]? = some (.cells 3 [[.i .i64 s.size, .sl 3 (rels s.rels), .mp (E + 1)]])
  m : o[E + 1]? = some (.mapo (engMap E))
theorem Eng.app {s : StrD} {E : Nat} {o : List Ob} (h : Eng s E o) (l : List Ob) : Eng s E (o ++ l) := ⟨app_get l h.e, app_get l h.m⟩
def Runs (s : StrD) (p : PlanD) (out : List (List Int)) : Prop := ∀ (oc : List Ob) (E : Nat), okO oc = true → Eng s E oc → ACallsQ Try.prog 39 [.ptr E 0 0, .agg p.cells] oc (.sl 1 (tups out))
def methF (k : Int) : FuncId := if k = 0 then 57 else if k = 1 then 58 else if k = 2 ∨ k = 3 then 59 else if k = 4 then 60 else if k = 5 then 61 else if k = 6 then 62 else 63
def Meth (s : StrD) (p : PlanD) (ks : List (List (List Int))) (out : List (List Int)) : Prop := ∀ (oc : List Ob) (E : Nat), okO oc = true → Eng s E oc → ACallsQ Try.prog (methF p.kind) [.ptr E 0 0, .agg p.cells, .sl 1 (kid3 ks)] oc (.sl 1 (tups out))
theorem run_step (s : StrD) (q : PlanD) (ks : List (List (List Int))) (out : List (List Int)) (hk8 : 0 ≤ q.kind ∧ q.kind < 8) (hn : q.kids.length ≤ 1000000) (hl : ks.length = q.kids.length) (hk : ∀ (i : Nat) (x : PlanD) (l : List (List Int)), q.kids[i]? = some x → ks[i]? = some l → Runs s x l) (hm : Meth s q ks out) : Runs s q out := by
  intro oc E ho he
  have hq := q.cells_eq
  have hm' := hm
  unfold Meth at hm
  rw [hq] at hm ⊢
  have hel := (List.getElem?_eq_some_iff.1 he.m).1
  refine ACalls_of' (n := 32) (rs := [.tmp 4]) (show Try.prog.funcs[39]? = some Try.f39 by kernel_rfl) rfl rfl rfl (by simp) (by decide +kernel) ?_
  repeat (first | refine nav ?_ | refine bo ?_)
  (refine wr fun K R hK hR => ?_; simp (maxSteps := 10000000) only [go_sem]; (try go_ints); (repeat refine And.intro side ?_); (first | refine hK _ ?_ | refine hR _ _ ?_); clear hK hR K R)
  repeat (first | refine nav ?_ | refine bo ?_)
  (refine wr fun K R hK hR => ?_; simp (maxSteps := 10000000) only [go_sem]; (try go_ints); (repeat refine And.intro side ?_); (first | refine hK _ ?_ | refine hR _ _ ?_); clear hK hR K R)
  repeat (first | refine nav ?_ | refine bo ?_)
  (refine wr fun K R hK hR => ?_; simp (maxSteps := 10000000) only [go_sem, plans_len]; (try go_ints); (try simp only [go_sem, plans_len]); (repeat refine And.intro side ?_); (first | refine hK _ ?_ | refine hR _ _ ?_); clear hK hR K R)
  repeat (first | refine nav ?_ | refine bo ?_)
  refine W_weak (s' := ⟨mix 11 22 [5, 7] (tab [(5, .own 1 []), (11, .i .i64 0)]) (tab [(0, .ptr E 0 0), (3, .ptr oc.length 0 0), (9, .sl 7 (plans q.kids)), (10, .i .i64 q.kids.length)]), oc ++ [boxQ q]⟩) (tab_mix (fun x hx => ?_) (fun x hx => ?_)) rfl ?_
  · simp only [List.mem_cons, List.not_mem_nil, or_false] at hx
    rcases hx with rfl | rfl <;> rfl
  · simp only [List.mem_cons, List.not_mem_nil, or_false] at hx
    rcases hx with rfl | rfl | rfl | rfl <;> rfl
  refine W_forM 11 22 [5, 7] (fun m t o => ∃ (k : Nat), (∃ ex : List Ob, o = oc ++ ex) ∧ o[oc.length]? = some (boxQ q) ∧ okO o = true ∧ t 11 = .i .i64 k ∧ t 5 = .own 1 (kid3 (ks.take k)) ∧ m = q.kids.length - k ∧ k ≤ q.kids.length) q.kids.length ⟨0, ⟨_, rfl⟩, by simp, okO_app ho rfl, by simp only [go_sem] <;> rfl, by simp only [go_sem] <;> rfl, by omega, by omega⟩ ?_
  rintro m t o ⟨k, hex, hob, hok, h11, h5, rfl, hkl⟩
  have heo : Eng s E o := by obtain ⟨ex, rfl⟩ := hex; exact he.app ex
  have hEl := (List.getElem?_eq_some_iff.1 heo.m).1
  repeat (first | refine nav ?_ | refine bo ?_)
  (refine wr fun K R hK hR => ?_; simp (maxSteps := 10000000) only [go_sem, h11]; (try go_ints); (try simp only [go_sem, h11]); (repeat refine And.intro side ?_); (first | refine hK _ ?_ | refine hR _ _ ?_); clear hK hR K R)
  repeat (first | refine nav ?_ | refine bo ?_)
  refine W_cond (by simp only [go_sem] <;> exact rfl) (fun hb => ?_) (fun hb => ?_)
  · simp at hb
    have hb0 : k + 1 ≤ q.kids.length := hb
    obtain ⟨x, hx⟩ : ∃ x, q.kids[k]? = some x := ⟨_, List.getElem?_eq_getElem hb⟩
    obtain ⟨l, hll⟩ : ∃ l, ks[k]? = some l := ⟨_, List.getElem?_eq_getElem (by omega)⟩
    have hxq := x.cells_eq
    have ih := hk k x l hx hll
    unfold Runs at ih
    rw [hxq] at ih
    have hkt : (kid3 (ks.take k)).length = k := by rw [kid3_len]; simp; omega
    have hka : kid3 (ks.take (k + 1)) = kid3 (ks.take k) ++ [[.sl 1 (tups l)]] := by rw [List.take_add_one, hll]; simp [kid3]
    repeat (first | refine nav ?_ | refine bo ?_)
    (refine wr fun K R hK hR => ?_; simp (maxSteps := 10000000) only [go_sem, h11, plans_get hx]; (try go_ints); (try simp only [go_sem, h11, plans_get hx]); (repeat refine And.intro side ?_); (first | refine hK _ ?_ | refine hR _ _ ?_); clear hK hR K R)
    repeat (first | refine nav ?_ | refine bo ?_)
    (refine W_reg [15] fun K R hK hR => ?_; simp (maxSteps := 10000000) only [go_sem, h5]; (try go_ints); (try simp only [go_sem, h5]); (repeat refine And.intro side ?_); (first | refine hK _ ?_ | refine hR _ _ ?_); clear hK hR K R)
    have hok2 : okO (o ++ [.cells 7 [[AV.i IntKind.i64 x.kind, AV.i IntKind.i64 x.width, AV.i IntKind.i64 x.i, AV.i IntKind.i64 x.j, AV.s x.name, AV.sl 1 (ints x.cols), AV.sl 7 (plans x.kids)]]]) = true := okO_app hok rfl
    refine RL_callQ (ih _ E hok2 (heo.app _)) rfl rfl rfl (by simp) (by simp only [go_sem] <;> exact LeA.refl _) hok2 (by simp [AV.ltk, AV.ltks]; omega) rfl ?_
    (refine RL_reg [15] fun K R hK hR => ?_; simp (maxSteps := 10000000) only [go_sem, hkt]; (try go_ints); (repeat refine And.intro (by first | exact side | (trace_state; omega)) ?_); (first | refine hK _ ?_ | refine hR _ _ ?_); clear hK hR K R)
    repeat (first | refine nav ?_ | refine bo ?_)
    (refine wr fun K R hK hR => ?_; simp (maxSteps := 10000000) only [go_sem, h11]; (try go_ints); (try simp only [go_sem, h11]); (repeat refine And.intro side ?_); (first | refine hK _ ?_ | refine hR _ _ ?_); clear hK hR K R)
    refine forQ_normal (q.kids.length - (k + 1)) (by omega) ⟨k + 1, ?_, app_get _ hob, hok2, by simp only [go_sem] <;> rfl, by simp only [go_sem, hka], rfl, hb0⟩
    obtain ⟨ex, rfl⟩ := hex
    exact ⟨_, List.append_assoc _ _ _⟩
  · simp at hb
    obtain rfl : k = q.kids.length := by omega
    rw [← hl, List.take_length] at h5
    have hm2 := hm o E hok heo
    repeat (first | refine nav ?_ | refine bo ?_)
    obtain ⟨c, hkc⟩ : ∃ c, q.kind = c := ⟨_, rfl⟩
    rw [hkc] at hm2 hk8
    have hc8 : c = 0 ∨ c = 1 ∨ c = 2 ∨ c = 3 ∨ c = 4 ∨ c = 5 ∨ c = 6 ∨ c = 7 := by omega
    have fin : ∀ (t' : Nat → AV), t' 4 = .sl 1 (tups out) → seqQ Try.prog 32 Code.ret (endQ Try.prog [ResultVar.tmp 4] oc.length fun r' o' => r' = AV.sl 1 (tups out) ∧ o' = oc) Exit.normal ⟨t', o⟩ := by
      intro t' ht
      obtain ⟨ex, rfl⟩ := hex
      repeat (first | refine nav ?_ | refine bo ?_)
      refine endQ_quiet (by simp only [go_sem, ht] <;> exact rfl) (Le.of_eq ?_) ho rfl
      rfl
    have hlt0 : (AV.ptr E 0 0).ltk o.length = true := by simp [AV.ltk]; omega
    rcases hc8 with rfl | rfl | rfl | rfl | rfl | rfl | rfl | rfl
    all_goals
      (refine W_dreg (by decide +kernel) [] [0, 1, 2, 3, 4, 5, 6, 7, 8, 9, 10] [[], [0], [0, 1], [1, 0, 2], [], [4], [4, 5, 2, 0, 1, 3], [], [], [8, 7, 3, 1, 0, 2, 5, 4, 6], [6, 4, 5, 2, 0, 1, 3, 7, 8, 9]] (by decide +kernel) rfl fun K R hK hR => ?_; simp only [List.filterMap_cons, List.filterMap_nil, List.getElem?_cons_zero, List.getElem?_cons_succ, List.cons_append, List.nil_append]; simp (maxSteps := 10000000) only [go_sem, h5, heo.e, heo.m, hob, hkc, engMap]; (try go_ints); (try simp only [go_sem, h5, heo.e, heo.m, hob, hkc, engMap]); (repeat refine And.intro side ?_); (first | refine hK _ ?_ | refine hR _ _ ?_); clear hK hR K R)
      refine D_callQB (.ptr E 0 0) [_, _] hm2 (by simp only [go_sem] <;> exact rfl) rfl rfl rfl (by simp only [go_sem] <;> exact LeA.refl _) hok rfl hlt0 rfl rfl rfl ?_
      (refine D_reg fun K R hK hR => ?_; simp (maxSteps := 10000000) only [go_sem]; (try go_ints); (repeat refine And.intro side ?_); (first | refine hK _ ?_ | refine hR _ _ ?_); clear hK hR K R)
      refine fin _ ?_
      simp only [go_sem]
end Go.AW
namespace Go.AW
open Go Go.Proofs TyTry Go.IntWalk
set_option linter.unusedSimpArgs false
set_option linter.unusedVariables false
set_option maxRecDepth 10000
set_option maxHeartbeats 1000000
theorem LeA.len : ∀ {a b : List AV}, LeA a b → a.length = b.length
  | [], [], _ => rfl
  | x :: a, y :: b, h => by
    rw [LeA_cons] at h
    simp [h.2.len]
theorem LeA.getD : ∀ {a b : List AV}, LeA a b → ∀ k, Le (a.getD k .any) (b.getD k .any)
  | [], [], _, k => by simp; exact Le.refl _
  | x :: a, y :: b, h, 0 => by rw [LeA_cons] at h; simpa using h.1
  | x :: a, y :: b, h, k + 1 => by rw [LeA_cons] at h; simpa using h.2.getD k
theorem ACalls.arg {P : Program} {f : FuncId} {ac ac' : List AV} {oc : List Ob} {R : AV → List Ob → Prop} (h : ACalls P f ac oc R) (hle : LeA ac' ac) : ACalls P f ac' oc R :=
  ⟨h.1, fun w Z m reg vs hl hr => h.2 w Z m reg vs (hl.trans hle.len) (hr.weak fun k => hle.getD k)⟩
theorem meth_any {s : StrD} {q : PlanD} {ks : List (List (List Int))} {out : List (List Int)} (h : ACallsD Try.prog (methF q.kind) [.any, .agg q.cells, .sl 1 (kid3 ks)] (.sl 1 (tups out))) : Meth s q ks out := by
  intro oc E ho he
  have h1 := h.frame (by rw [q.cells_eq]; rfl) rfl oc
  exact ACalls.arg h1 (by simp only [LeA_cons, LeA_nil]; exact ⟨Le.any _, Le.refl _, Le.refl _, trivial⟩)
theorem rel_spec {s : StrD} {q : PlanD} {k : Nat} {r : RelD} (hs : s.rels.length ≤ 1000000) (hk : q.kind = 0) (hf : ACallsD Try.prog 36 [.agg s.cells, .s q.name, .i .i64 q.width] (.i .i64 k)) (hr : s.rels[k]? = some r) : Meth s q [] r.tuples := by
  intro oc E ho he
  have hm : methF q.kind = 57 := by rw [hk]; rfl
  have hel := (List.getElem?_eq_some_iff.1 he.m).1
  have hkl := (List.getElem?_eq_some_iff.1 hr).1
  rw [hm, q.cells_eq]
  unfold StrD.cells at hf
  have he' := fun l => app_get l he.e
  have hrl : (rels s.rels).length = s.rels.length := by simp [rels]
  have hrg : (rels s.rels).getD k [] = [.s r.name, .i .i64 r.arity, .sl 1 (tups r.tuples)] := by simp [rels, hr, RelD.cells]
  refine ACalls_of' (n := 24) (rs := [.tmp 6]) (show Try.prog.funcs[57]? = some Try.f57 by kernel_rfl) rfl rfl rfl (by simp) (by decide +kernel) ?_
  repeat (first | refine nav ?_ | refine bo ?_)
  (refine wr fun K R hK hR => ?_; simp (maxSteps := 10000000) only [go_sem]; (try go_ints); (repeat refine And.intro side ?_); (first | refine hK _ ?_ | refine hR _ _ ?_); clear hK hR K R)
  repeat (first | refine nav ?_ | refine bo ?_)
  (refine W_dreg (by decide +kernel) [] [0, 1, 2, 3, 4, 5, 6, 7, 8, 9, 10, 11, 12, 13, 14, 15, 16, 17] [[], [0], [0, 1], [1, 0, 2], [2, 0, 1, 3], [], [5], [5, 6], [6, 5, 7], [], [9], [], [11], [11, 12, 9, 10, 7, 5, 6, 8], [8, 6, 5, 7, 10, 9, 12, 11, 13, 3, 1, 0, 2, 4], [4, 2, 0, 1, 3, 13, 11, 12, 9, 10, 7, 5, 6, 8, 14], [14, 8, 6, 5, 7, 10, 9, 12, 11, 13, 3, 1, 0, 2, 4, 15], [15, 4, 2, 0, 1, 3, 13, 11, 12, 9, 10, 7, 5, 6, 8, 14, 16]] (by decide +kernel) rfl fun K R hK hR => ?_; simp only [List.filterMap_cons, List.filterMap_nil, List.getElem?_cons_zero, List.getElem?_cons_succ, List.cons_append, List.nil_append]; simp (maxSteps := 10000000) only [go_sem, he']; (try go_ints); (try simp only [go_sem, he']); (repeat refine And.intro side ?_); (first | refine hK _ ?_ | refine hR _ _ ?_); clear hK hR K R)
  refine D_callD (hf) rfl rfl rfl (by first | (simp only [go_sem] <;> first | exact LeA.refl _ | exact Le.refl _) | exact LeA.refl _) rfl rfl rfl rfl ?_
  (refine D_reg fun K R hK hR => ?_; simp (maxSteps := 10000000) only [go_sem, hrl, hrg]; (try go_ints); (try simp only [go_sem, hrl, hrg]); (repeat refine And.intro side ?_); (first | refine hK _ ?_ | refine hR _ _ ?_); clear hK hR K R)
  repeat (first | refine nav ?_ | refine bo ?_)
  refine endQ_quiet (by simp only [go_sem] <;> exact rfl) (Le.of_eq rfl) ho rfl
theorem meth_join {s : StrD} {q : PlanD} (a b : List (List Int)) (hk : q.kind = 4) (ha : a.length ≤ 1000000) (hbb : b.length ≤ 1000000) (hab : a.length * b.length ≤ 1000000)
    (hal : ∀ t ∈ a, t.length ≤ 1000000) (hbl : ∀ t ∈ b, t.length ≤ 1000000) : Meth s q [a, b] (joinF a b) :=
  meth_any (by rw [hk]; exact join_spec a b ha hbb hab hal hbl q)
theorem meth_project {s : StrD} {q : PlanD} (l r : List (List Int)) (hk : q.kind = 5) (hs : SortedP (l.map (placesF q.cols)) r) (hr : l = [] → r = [])
    (hl : l.length ≤ 1000000) (hc : q.cols.length ≤ 1000000) (hll : ∀ x ∈ l, x.length ≤ 1000000) (hin : ∀ x ∈ l, ∀ c ∈ q.cols, 0 ≤ c ∧ c < x.length) : Meth s q [l] r :=
  meth_any (by rw [hk]; exact project_spec q l r sorted0_spec hs hr hl hc hll hin)
end Go.AW
