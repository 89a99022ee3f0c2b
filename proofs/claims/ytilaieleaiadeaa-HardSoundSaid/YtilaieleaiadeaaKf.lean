/-
AW, part Zi: typed readings of memory, as abstract values.
-/
import Derived.Test.YtilaieleaiadeaaKe
import GoSem.ClaimChange
import Derived.Below
namespace Go.AW
open Go
set_option linter.unusedSimpArgs false
set_option linter.unusedVariables false

/-- A reading's cells, in short. -/
def cellsAV {H : Type} (P : Program) : Nat → TypeId → DataW H → List AV
  | 0, _, _ => []
  | k + 1, t, d =>
    match P.underlying t, d with
    | some .bool, .lit (.bool b) => [.b b]
    | some (.int kd), .lit (.int _ n) => [.i kd n]
    | some .string, .lit (.string l) => [.s ⟨l.toArray⟩]
    | some (.slice e), .nil => [.sl (szOf P e) []]
    | some (.slice e), .slice elems _ => [.sl (szOf P e) (elems.map fun x => cellsAV P k e x)]
    | some (.struct fs), .agg parts => (fs.toList.zip parts).flatMap fun x => cellsAV P k x.1.type x.2
    | _, _ => []
/-- Are the fields laid one behind the other? -/
def laidF (P : Program) : Nat → List Field → Option Nat
  | off, [] => some off
  | off, f :: r => if f.offset = off then laidF P (off + P.cellsOf f.type) r else none
/-- Types of numbers, strings, truth values, slices and structs. -/
def plainT (P : Program) : Nat → TypeId → Bool
  | 0, _ => true
  | k + 1, t =>
    match P.underlying t with
    | some .bool | some (.int _) | some .string => decide (P.cellsOf t = 1)
    | some (.slice e) => decide (P.cellsOf t = 1) && decide (0 < P.cellsOf e) && plainT P k e
    | some (.struct fs) => fs.toList.all (fun f => plainT P k f.type) && decide (laidF P 0 fs.toList = some (P.cellsOf t))
    | _ => false

section
variable {H : Type} {P : Program} {w : World}
theorem mapM_some {α β : Type} {f : α → Option β} : ∀ {l : List α} {r : List β}, l.mapM f = some r → l.length = r.length ∧ ∀ (i : Nat) a, l[i]? = some a → ∃ b, r[i]? = some b ∧ f a = some b
  | [], r, h => by simp at h; subst h; exact ⟨rfl, fun i a h => by simp at h⟩
  | x :: l, r, h => by
    rw [List.mapM_cons] at h
    cases hx : f x with
    | none => rw [hx] at h; simp at h
    | some y =>
      cases hl : l.mapM f with
      | none => rw [hx, hl] at h; simp at h
      | some r' =>
        rw [hx, hl] at h
        simp at h
        subst h
        obtain ⟨h1, h2⟩ := mapM_some hl
        refine ⟨by simp [h1], fun i a ha => ?_⟩
        cases i with
        | zero => simp only [List.getElem?_cons_zero, Option.some.injEq] at ha; subst ha; exact ⟨y, rfl, hx⟩
        | succ i => simp only [List.getElem?_cons_succ] at ha ⊢; exact h2 i a ha
theorem Vs.append {Y : CS} {m : List MB} : ∀ {a b : List AV} {x y : List Value}, Vs w Y m a x → Vs w Y m b y → Vs w Y m (a ++ b) (x ++ y)
  | [], _, _, _, h, k => by simp only [Vs] at h; subst h; simpa using k
  | _ :: a, b, x, y, h, k => by
    simp only [Vs, List.cons_append] at h ⊢
    obtain ⟨v, t, rfl, h1, h2⟩ := h
    exact ⟨v, t ++ y, rfl, h1, Vs.append h2 k⟩

/-- Nothing is written: whatever is read stays. -/
def YN : CS := fun _ _ => False
theorem Cs_of {blk : Nat} : ∀ {row : List AV} {vs : List Value} {off : Nat}, Vs w YN [] row vs → (∀ v ∈ vs, Value.flat v = true) → (∀ (i : Nat) v, vs[i]? = some v → w.cell? ⟨blk, off + i, none⟩ = some v) → Cs w YN blk off row
  | [], vs, off, _, _, _ => by simp only [Cs]
  | c :: row, vs, off, h, hf, hc => by
    simp only [Vs] at h
    obtain ⟨v, t, rfl, h1, h2⟩ := h
    simp only [Cs]
    refine ⟨⟨v, by simpa using hc 0 v rfl, fun h => h, hf v (by simp), h1⟩, Cs_of h2 (fun x hx => hf x (by simp [hx])) fun i x hx => ?_⟩
    have := hc (i + 1) x (by simpa using hx)
    rwa [show off + (i + 1) = off + 1 + i by omega] at this
theorem Rs_of {sz blk : Nat} : ∀ {rows : List (List AV)} {off : Nat}, (∀ (i : Nat) row, rows[i]? = some row → row.length = sz ∧ Cs w YN blk (off + i * sz) row) → Rs w YN sz blk off rows
  | [], _, _ => by simp only [Rs]
  | r :: rows, off, h => by
    simp only [Rs]
    obtain ⟨h1, h2⟩ := h 0 r rfl
    refine ⟨h1, by simpa using h2, Rs_of fun i row hr => ?_⟩
    have := h (i + 1) row (by simpa using hr)
    rwa [show off + (i + 1) * sz = off + sz + i * sz by rw [Nat.add_mul]; omega] at this
theorem cells_get {base n : Nat} {a : Addr} {cs : List Value} (h : w.cells? base a n = some cs) : cs.length = n ∧ ∀ (i : Nat) v, cs[i]? = some v → w.cell? (a.add i) = some v := by
  unfold World.cells? at h
  split at h
  · obtain ⟨h1, h2⟩ := mapM_some h
    simp only [List.length_range] at h1
    refine ⟨h1.symm, fun i v hv => ?_⟩
    have hi : i < n := by rw [h1]; exact (List.getElem?_eq_some_iff.1 hv).1
    obtain ⟨b, e1, e2⟩ := h2 i i (List.getElem?_range hi)
    rw [hv] at e1
    obtain rfl := Option.some.inj e1
    exact e2
  · cases h
theorem cell_spot {a : Addr} {v : Value} (h : w.cell? a = some v) : a.spot = none := by
  unfold World.cell? at h
  split at h
  · cases hs : a.spot with
    | none => rfl
    | some x => rw [hs] at h; simp at h
  · cases h

theorem addr_add' (a : Addr) (n : Nat) (h : a.spot = none) : a.add n = ⟨a.block, a.off + n, none⟩ := by
  obtain ⟨b, o, s⟩ := a
  simp only at h
  subst h
  exact addr_add b o n
theorem add_zero' (a : Addr) : a.add 0 = a := by
  unfold Addr.add
  split <;> first | rfl | simp_all

theorem trod_Vs (enc : TypeId × Value → H) {base : Nat} {spare : Nat → Bool} {held : Bool} : ∀ (k : Nat) (t : TypeId) (cs : List Value) (d : DataW H) (ps : List MemPlace), plainT P k t = true →
    DataW.trod enc P w base spare held k t cs = some (d, ps) → Vs w YN [] (cellsAV P k t d) cs ∧ ∀ v ∈ cs, Value.flat v = true
  | 0, t, cs, d, ps, _, h => by simp [DataW.trod] at h
  | k + 1, t, cs, d, ps, hp, h => by
    unfold plainT at hp
    unfold DataW.trod at h
    unfold cellsAV
    cases hu : P.underlying t with
    | none => rw [hu] at hp; simp at hp
    | some u =>
      rw [hu] at hp h
      cases u with
      | bool =>
        rcases cs with _ | ⟨v, _ | ⟨v2, r⟩⟩
        · simp at h
        · cases v <;> simp at h
          obtain ⟨rfl, _⟩ := h
          exact ⟨by simp [Vs, V], by simp [Value.flat]⟩
        · simp at h
      | int kd =>
        rcases cs with _ | ⟨v, _ | ⟨v2, r⟩⟩
        · simp at h
        · cases v <;> simp at h
          obtain ⟨⟨rfl, _⟩, rfl, _⟩ := h
          exact ⟨by simp [Vs, V], by simp [Value.flat]⟩
        · simp at h
      | string =>
        rcases cs with _ | ⟨v, _ | ⟨v2, r⟩⟩
        · simp at h
        · cases v <;> simp at h
          obtain ⟨_, rfl, _⟩ := h
          exact ⟨by simp [Vs, V], by simp [Value.flat]⟩
        · simp at h
      | slice e =>
        simp only [Bool.and_eq_true, decide_eq_true_eq] at hp
        obtain ⟨⟨hp1, hp2⟩, hp3⟩ := hp
        rcases cs with _ | ⟨v, _ | ⟨v2, r⟩⟩
        · simp at h
        · cases v with
          | slice a len cap =>
            cases a with
            | none =>
              cases len <;> cases cap <;> simp at h
              obtain ⟨rfl, _⟩ := h
              refine ⟨?_, by simp [Value.flat]⟩
              simp only [Vs, V]
              exact ⟨_, [], rfl, ⟨none, 0, rfl, Nat.le_refl _, Nat.zero_le _, .inl trivial⟩, rfl⟩
            | some a =>
              simp only at h
              split at h
              · rename_i hc
                obtain ⟨hc1, hc2, hc3⟩ := hc
                cases he : (List.range len).mapM (fun i => (w.cells? base (a.add (i * P.cellsOf e)) (P.cellsOf e)).bind (DataW.trod enc P w base spare held k e)) with
                | none => rw [he] at h; simp at h
                | some elems =>
                  rw [he] at h
                  simp only [Option.bind_some] at h
                  obtain ⟨hl, hel⟩ := mapM_some he
                  simp only [List.length_range] at hl
                  have hd : ∃ sp, d = .slice (elems.map (·.1)) sp := by
                    revert h
                    split
                    · cases (List.range (cap - len)).mapM (fun j => (w.cells? base (a.add ((len + j) * P.cellsOf e)) (P.cellsOf e)).bind (DataW.trod enc P w base spare held k e)) with
                      | none => intro h; simp at h
                      | some rest => intro h; simp at h; exact ⟨_, h.1.symm⟩
                    · intro h; simp at h; exact ⟨_, h.1.symm⟩
                  obtain ⟨sp, rfl⟩ := hd
                  refine ⟨?_, by simp [Value.flat]⟩
                  simp only [Vs, V]
                  refine ⟨_, [], rfl, ⟨some a, cap, ?_, ?_, hc3, ?_⟩, rfl⟩
                  · simp [← hl]
                  · simpa [← hl] using hc2
                  · by_cases hz : len = 0
                    · left
                      have : elems = [] := List.eq_nil_of_length_eq_zero (by omega)
                      simp [this]
                    · right
                      have hrow : ∀ (i : Nat) x, elems[i]? = some x → ∃ cells, w.cells? base (a.add (i * P.cellsOf e)) (P.cellsOf e) = some cells ∧ DataW.trod enc P w base spare held k e cells = some x := by
                        intro i x hx
                        have hi : i < len := by rw [hl]; exact (List.getElem?_eq_some_iff.1 hx).1
                        obtain ⟨b, e1, e2⟩ := hel i i (List.getElem?_range hi)
                        rw [hx] at e1
                        obtain rfl := Option.some.inj e1
                        cases hcl : w.cells? base (a.add (i * P.cellsOf e)) (P.cellsOf e) with
                        | none => rw [hcl] at e2; simp at e2
                        | some cells => rw [hcl] at e2; exact ⟨cells, rfl, by simpa using e2⟩
                      have hsp : a.spot = none := by
                        have h0 : 0 < elems.length := by omega
                        obtain ⟨cells, c1, c2⟩ := hrow 0 elems[0] (List.getElem?_eq_getElem h0)
                        obtain ⟨d1, d2⟩ := cells_get c1
                        have h1 : 0 < cells.length := by omega
                        have := cell_spot (d2 0 _ (List.getElem?_eq_getElem h1))
                        rwa [Nat.zero_mul, add_zero', add_zero'] at this
                      refine ⟨a.block, a.off, by obtain ⟨b, o, sp'⟩ := a; simp only at hsp; subst hsp; rfl, Rs_of fun i row hr => ?_⟩
                      simp only [List.getElem?_map] at hr
                      cases hx : elems[i]? with
                      | none => rw [hx] at hr; simp at hr
                      | some x =>
                        rw [hx] at hr
                        simp only [Option.map_some, Option.some.injEq] at hr
                        subst hr
                        obtain ⟨cells, c1, c2⟩ := hrow i x hx
                        obtain ⟨d1, d2⟩ := cells_get c1
                        obtain ⟨v1, v2⟩ := trod_Vs enc k e cells x.1 x.2 hp3 c2
                        refine ⟨by rw [Vs.length v1, d1], Cs_of v1 v2 fun j y hy => ?_⟩
                        have := d2 j y hy
                        have hb : (a.add (i * P.cellsOf e)) = ⟨a.block, a.off + i * P.cellsOf e, none⟩ := addr_add' a _ hsp
                        rw [hb, addr_add] at this
                        exact this
              · cases h
          | _ => simp at h
        · simp at h
      | struct fs =>
        simp only [Bool.and_eq_true, decide_eq_true_eq, List.all_eq_true] at hp
        obtain ⟨hp1, hp2⟩ := hp
        simp only at h
        split at h
        · rename_i hlen
          cases hm : fs.toList.mapM (fun f => DataW.trod enc P w base spare held k f.type ((cs.drop f.offset).take (P.cellsOf f.type))) with
          | none => rw [hm] at h; simp at h
          | some xs =>
            rw [hm] at h
            simp only [Option.map_some, Option.some.injEq, Prod.mk.injEq] at h
            obtain ⟨rfl, _⟩ := h
            simp only
            have key : ∀ (l : List Field) (off : Nat) (xs : List (DataW H × List MemPlace)), (∀ f ∈ l, plainT P k f.type = true) → laidF P off l = some cs.length →
                l.mapM (fun f => DataW.trod enc P w base spare held k f.type ((cs.drop f.offset).take (P.cellsOf f.type))) = some xs →
                Vs w YN [] ((l.zip (xs.map (·.1))).flatMap fun x => cellsAV P k x.1.type x.2) (cs.drop off) ∧ ∀ v ∈ cs.drop off, Value.flat v = true := by
              intro l
              induction l with
              | nil =>
                intro off xs _ h2 h3
                simp only [laidF, Option.some.injEq] at h2
                rw [List.drop_of_length_le (by omega)]
                exact ⟨by simp [Vs], by simp⟩
              | cons f l ih =>
                intro off xs h1 h2 h3
                simp only [laidF] at h2
                split at h2
                · rename_i ho
                  rw [List.mapM_cons] at h3
                  cases hx : DataW.trod enc P w base spare held k f.type ((cs.drop f.offset).take (P.cellsOf f.type)) with
                  | none => rw [hx] at h3; simp at h3
                  | some x =>
                    cases hr : l.mapM (fun f => DataW.trod enc P w base spare held k f.type ((cs.drop f.offset).take (P.cellsOf f.type))) with
                    | none => rw [hx, hr] at h3; simp at h3
                    | some xs' =>
                      rw [hx, hr] at h3
                      simp at h3
                      subst h3
                      obtain ⟨v1, v2⟩ := ih _ xs' (fun g hg => h1 g (by simp [hg])) h2 hr
                      obtain ⟨u1, u2⟩ := trod_Vs enc k f.type _ x.1 x.2 (h1 f (by simp)) hx
                      have hsplit : cs.drop off = (cs.drop f.offset).take (P.cellsOf f.type) ++ cs.drop (off + P.cellsOf f.type) := by
                        rw [ho, ← List.drop_drop]; exact (List.take_append_drop _ _).symm
                      rw [hsplit]
                      refine ⟨?_, fun v hv => ?_⟩
                      · simp only [List.map_cons, List.zip_cons_cons, List.flatMap_cons]
                        exact Vs.append u1 v1
                      · rcases List.mem_append.1 hv with hv | hv
                        · exact u2 v hv
                        · exact v2 v hv
                · cases h2
            have := key fs.toList 0 xs hp1 (by rw [hlen]; exact hp2) hm
            simpa using this
        · cases h
      | _ => simp at hp
end
end Go.AW
/-
AW, part Zj: a law's call, out of its contract.
-/
namespace Go.AW
open Go Go.RowKit
set_option linter.unusedSimpArgs false
set_option linter.unusedVariables false

theorem Rel.begin {w : World} {t : Nat → AV} {u : Nat → Value} (h : ∀ k, V w YN [] (t k) (u k)) (ho : ∀ k, (t k).isOwn = false) : Rel w YN [] (fun _ => none) t u [] := by
  have hX : ∀ b x, ¬ XS ([] : List MB) (fun _ => none) [] b x := by
    rintro b x (⟨id, ob, mb, h1, _⟩ | ⟨p, r, h1, _⟩)
    · simp at h1
    · cases h1
  have hY : ∀ b x, YS YN [] (fun _ => none) [] b x → YN b x := fun b x k => k.elim (fun k => (hX b x k).elim) (fun k => k)
  refine ⟨rfl, fun k => V.keep (Keeps.sub [] hY) _ _ (h k), fun id x mb h1 => by simp at h1, fun i j x y a b h1 => by simp at h1, fun p r h => (by cases h), fun p r id x mb h => (by cases h), fun p q r s _ h => (by cases h), ?_, fun b x h => h.elim, fun b x h => h.elim⟩
  intro p sz rows v hl hv
  cases p with
  | t k =>
    simp only [leaf, Option.some.injEq] at hl
    have := ho k
    rw [hl] at this; cases this
  | o id r c => simp [leaf] at hl

/-- A function of plain data, called where its arguments read so: it changes nothing that was there. -/
theorem calls_of_data {P : Program} {f : FuncId} {ac : List AV} {r : AV} (h : ACallsD P f ac r) (ho : ac.all (fun c => !c.isOwn) = true) {w : World} {vs : List Value} (hv : Vs w YN [] ac vs) :
    Calls P f vs.toArray w fun e w' => ∃ v, e = .returned v ∧ V w' YN [] r v ∧ Below w.heap.size w w' := by
  have hX : ∀ b x, ¬ XS ([] : List MB) (fun _ => none) [] b x := by
    rintro b x (⟨id, ob, mb, h1, _⟩ | ⟨p, r, h1, _⟩)
    · simp at h1
    · cases h1
  have hlen := Vs.length hv
  have hget : ∀ {l : List AV} {us : List Value}, Vs w YN [] l us → ∀ k, V w YN [] (l.getD k .any) (us.getD k undef) := by
    intro l
    induction l with
    | nil => intro us _ k; simp [V]
    | cons a l ih =>
      intro us hu k
      simp only [Vs] at hu
      obtain ⟨v, t, rfl, h1, h2⟩ := hu
      cases k with
      | zero => simpa using h1
      | succ k => simpa using ih h2 k
  have hrel := Rel.begin (w := w) (t := fun k => ac.getD k .any) (u := fun k => vs.getD k undef) (hget hv) (fun k => by
    rw [List.all_eq_true] at ho
    cases hk : ac[k]? with
    | none => simp [List.getD_eq_getElem?_getD, hk, AV.isOwn]
    | some a => simpa [List.getD_eq_getElem?_getD, hk] using ho a (List.mem_of_getElem? hk))
  refine Calls.mono (h.2 w YN [] (fun _ => none) vs hlen.symm hrel) ?_
  rintro e w' ⟨v, r', o', m', reg', rfl, ⟨rfl, rfl⟩, h1, h2, h3, h4⟩
  refine ⟨v, rfl, ?_, ⟨h2.os, h2.tape, h2.output, h2.size, fun k hk => h2.block k hk fun x hx => hX k x hx⟩⟩
  have := h1.tv 0
  simp only [if_true] at this
  have hm : m' = [] := List.eq_nil_of_length_eq_zero (by rw [h1.len]; rfl)
  subst hm
  exact V.keep (Keeps.sub [] fun b x k => (k : False).elim) _ _ this
end Go.AW
/-
AW, part Zk: what a typed reading looks like.
-/
namespace Go.AW
open Go
set_option linter.unusedSimpArgs false
set_option linter.unusedVariables false
section
variable {H : Type} {P : Program} {w : World}
/-- A slice's reading: its elements are read by the element's type. -/
theorem read_slice {enc : TypeId × Value → H} {base : Nat} {spare : Nat → Bool} {held : Bool} {k : Nat} {t e : TypeId} {cs : List Value} {d : DataW H} {ps : List MemPlace} (hu : P.underlying t = some (.slice e))
    (h : DataW.trod enc P w base spare held (k + 1) t cs = some (d, ps)) :
    ∃ elems : List (DataW H), cellsAV P (k + 1) t d = [.sl (szOf P e) (elems.map fun x => cellsAV P k e x)] ∧ (d = .nil ∧ elems = [] ∨ ∃ sp, d = .slice elems sp) ∧
      ∀ x ∈ elems, ∃ cells q, DataW.trod enc P w base spare held k e cells = some (x, q) := by
  unfold DataW.trod at h
  rw [hu] at h
  rcases cs with _ | ⟨v, _ | ⟨v2, r⟩⟩
  · simp at h
  · cases v with
    | slice a len cap =>
      cases a with
      | none =>
        cases len <;> cases cap <;> simp at h
        obtain ⟨rfl, _⟩ := h
        exact ⟨[], by simp only [cellsAV, hu, List.map_nil], .inl ⟨rfl, rfl⟩, by simp⟩
      | some a =>
        simp only at h
        split at h
        · cases he : (List.range len).mapM (fun i => (w.cells? base (a.add (i * P.cellsOf e)) (P.cellsOf e)).bind (DataW.trod enc P w base spare held k e)) with
          | none => rw [he] at h; simp at h
          | some elems =>
            rw [he] at h
            simp only [Option.bind_some] at h
            obtain ⟨hl, hel⟩ := mapM_some he
            simp only [List.length_range] at hl
            have hd : ∃ sp, d = .slice (elems.map (·.1)) sp := by
              revert h
              split
              · cases (List.range (cap - len)).mapM (fun j => (w.cells? base (a.add ((len + j) * P.cellsOf e)) (P.cellsOf e)).bind (DataW.trod enc P w base spare held k e)) with
                | none => intro h; simp at h
                | some rest => intro h; simp at h; exact ⟨_, h.1.symm⟩
              · intro h; simp at h; exact ⟨_, h.1.symm⟩
            obtain ⟨sp, rfl⟩ := hd
            refine ⟨elems.map (·.1), by simp only [cellsAV, hu], .inr ⟨sp, rfl⟩, fun x hx => ?_⟩
            obtain ⟨y, hy, rfl⟩ := List.mem_map.1 hx
            obtain ⟨i, hi⟩ := List.mem_iff_getElem?.1 hy
            have hi' : i < len := by rw [hl]; exact (List.getElem?_eq_some_iff.1 hi).1
            obtain ⟨b, e1, e2⟩ := hel i i (List.getElem?_range hi')
            rw [hi] at e1
            obtain rfl := Option.some.inj e1
            cases hcl : w.cells? base (a.add (i * P.cellsOf e)) (P.cellsOf e) with
            | none => rw [hcl] at e2; simp at e2
            | some cells => rw [hcl] at e2; exact ⟨cells, y.2, by simpa using e2⟩
        · cases h
    | _ => simp at h
  · simp at h
/-- A struct's reading: its fields are read by their types. -/
theorem read_struct {enc : TypeId × Value → H} {base : Nat} {spare : Nat → Bool} {held : Bool} {k : Nat} {t : TypeId} {fs : Array Field} {cs : List Value} {d : DataW H} {ps : List MemPlace} (hu : P.underlying t = some (.struct fs))
    (h : DataW.trod enc P w base spare held (k + 1) t cs = some (d, ps)) :
    ∃ parts : List (DataW H), d = .agg parts ∧ cellsAV P (k + 1) t d = (fs.toList.zip parts).flatMap (fun x => cellsAV P k x.1.type x.2) ∧ parts.length = fs.toList.length ∧
      ∀ (i : Nat) f x, fs.toList[i]? = some f → parts[i]? = some x → ∃ cells q, DataW.trod enc P w base spare held k f.type cells = some (x, q) := by
  unfold DataW.trod at h
  rw [hu] at h
  simp only at h
  split at h
  · cases hm : fs.toList.mapM (fun f => DataW.trod enc P w base spare held k f.type ((cs.drop f.offset).take (P.cellsOf f.type))) with
    | none => rw [hm] at h; simp at h
    | some xs =>
      rw [hm] at h
      simp only [Option.map_some, Option.some.injEq, Prod.mk.injEq] at h
      obtain ⟨rfl, _⟩ := h
      obtain ⟨h1, h2⟩ := mapM_some hm
      refine ⟨_, rfl, by simp only [cellsAV, hu], by simp [h1], fun i f x hf hx => ?_⟩
      obtain ⟨b, e1, e2⟩ := h2 i f hf
      simp only [List.getElem?_map, e1, Option.map_some, Option.some.injEq] at hx
      subst hx
      exact ⟨_, b.2, e2⟩
  · cases h
end
end Go.AW
