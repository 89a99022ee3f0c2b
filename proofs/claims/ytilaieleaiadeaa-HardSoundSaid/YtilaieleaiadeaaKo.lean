/-
The law Awake: it returns true; and HardSound with it.
-/
import Derived.Test.YtilaieleaiadeaaKna
import Derived.Test.YtilaieleaiadeaaKnb
import Derived.Test.YtilaieleaiadeaaKnc
import Derived.Test.YtilaieleaiadeaaKnd
import Derived.SizedLaws
namespace Go.AW
open Go Go.Proofs TyTry
set_option linter.unusedSimpArgs false
set_option maxRecDepth 100000
def tabAw : List (FuncId × List AV × AV) := [(11, [fourA], .tup [.sl 1 (ints [0, 3]), .i .i64 0]), (12, [fourA, .i .i64 2], .tup [.i .i64 3, .i .i64 0]),
  (22, [.agg [.i .i64 1, .sl 1 [[.sl 1 [[.i .i64 1]]], [.sl 1 [[.i .i64 (-1)]]]]]], .tup [.sl 1 [], .i .i64 6]), (20, [.agg [.i .i64 2, .sl 1 [[.sl 1 [[.i .i64 1], [.i .i64 2]]]]]], .tup [.i .i64 3, .i .i64 0])]
def envTab (f : FuncId) (ac : List AV) (oc : List Ob) : List (FuncId × List AV × AV) → Option (AV × List Ob)
  | [] => none
  | (g, bc, r) :: l => if f == g && eqAL ac bc then some (r, oc) else envTab f ac oc l
theorem envTab_mem {f : FuncId} {ac : List AV} {oc : List Ob} {x : AV × List Ob} : ∀ {l : List (FuncId × List AV × AV)}, envTab f ac oc l = some x → x.2 = oc ∧ (f, ac, x.1) ∈ l
  | [], h => by cases h
  | (g, bc, r) :: l, h => by
    rw [envTab] at h
    by_cases hc : (f == g && eqAL ac bc) = true
    · rw [if_pos hc] at h
      simp only [Bool.and_eq_true, beq_iff_eq] at hc
      obtain ⟨rfl, h2⟩ := hc
      obtain rfl := eqAL_eq _ _ h2
      obtain rfl := Option.some.inj h
      exact ⟨rfl, by simp⟩
    · rw [if_neg hc] at h
      obtain ⟨a, b⟩ := envTab_mem h
      exact ⟨a, List.mem_cons_of_mem _ b⟩
theorem tabAw_ok : ∀ x ∈ tabAw, ACallsD Try.prog x.1 x.2.1 x.2.2 ∧ x.2.1.all (AV.ltk 0) = true ∧ x.2.2.ltk 0 = true := by
  intro x hx
  simp only [tabAw, List.mem_cons, List.not_mem_nil, or_false] at hx
  rcases hx with rfl | rfl | rfl | rfl
  · exact ⟨walk_run, by decide +kernel, by decide +kernel⟩
  · exact ⟨walks_run, by decide +kernel, by decide +kernel⟩
  · exact ⟨solve_run, by decide +kernel, by decide +kernel⟩
  · exact ⟨models_run, by decide +kernel, by decide +kernel⟩
theorem awake_spec : ACallsD Try.prog 9 [] (.b true) :=
  ((x_sound (fun f ac oc => envTab f ac oc tabAw) flAw (by decide +kernel) (fun f ac oc r o' h => by
    obtain ⟨h1, h2⟩ := envTab_mem h
    simp only at h1 h2
    subst h1
    obtain ⟨a, b, c⟩ := tabAw_ok _ h2
    exact ⟨a.frame b c _, Nat.le_refl _⟩) 500).2.2.2.1 9 [] [] (.b true) [] (by kernel_rfl)).1
theorem hardSound_spec (s : StrD) (hs : s.Wide) (ord : List Int) :
    ACallsD Try.prog 6 [.agg [.i .i64 s.size, .sl 3 (rels s.rels)], .sl 1 (ints ord)] (.b true) := sound_spec awake_spec s hs ord
#print axioms hardSound_spec
end Go.AW
/-
What the laws' arguments read as, with their sizes.
-/
namespace Go.AW
open Go Go.Proofs TyTry
set_option linter.unusedSimpArgs false
set_option linter.unusedVariables false
set_option maxRecDepth 100000
/-- The fields of a struct. -/
def fldsOf (P : Program) (t : TypeId) : Array Field := match P.underlying t with | some (.struct fs) => fs | _ => #[]
theorem undInt : Try.prog.underlying 3 = some (.int .i64) := by kernel_rfl
theorem undStr : Try.prog.underlying 9 = some .string := by kernel_rfl
theorem undInts : Try.prog.underlying 29 = some (.slice 3) := by kernel_rfl
theorem undTups : Try.prog.underlying 40 = some (.slice 29) := by kernel_rfl
theorem undRels : Try.prog.underlying 22 = some (.slice 64) := by kernel_rfl
theorem undRel : Try.prog.underlying 64 = some (.struct (fldsOf Try.prog 64)) := by kernel_rfl
theorem undStru : Try.prog.underlying 24 = some (.struct (fldsOf Try.prog 24)) := by kernel_rfl
theorem fldsRel : (fldsOf Try.prog 64).toList.map (·.type) = [9, 3, 40] := by kernel_rfl
theorem fldsStru : (fldsOf Try.prog 24).toList.map (·.type) = [3, 22] := by kernel_rfl
section
variable {H : Type} {w : World} {enc : TypeId × Value → H} {base : Nat} {spare : Nat → Bool} {held : Bool}
/-- Nothing in it takes more than there can be. -/
def Lite (t : TypeId) (d : DataW H) : Prop := ∀ n ∈ d.weights Try.prog t, n ≤ reachBytes
theorem weightsAll_in {P : Program} {e : TypeId} : ∀ {l : List (DataW H)} {d : DataW H}, d ∈ l → ∀ n ∈ d.weights P e, n ∈ DataW.weightsAll P e l
  | x :: l, d, h, n, hn => by
    simp only [DataW.weightsAll, List.mem_append]
    rcases List.mem_cons.1 h with rfl | h
    · exact .inl hn
    · exact .inr (weightsAll_in h n hn)
theorem read_int {k : Nat} {cs : List Value} {d : DataW H} {ps : List MemPlace} (h : DataW.trod enc Try.prog w base spare held k 3 cs = some (d, ps)) : ∃ n, cellsAV Try.prog k 3 d = [.i .i64 n] := by
  cases k with
  | zero => simp [DataW.trod] at h
  | succ k =>
    unfold DataW.trod at h
    rw [undInt] at h
    rcases cs with _ | ⟨v, _ | ⟨v2, r⟩⟩
    · simp at h
    · cases v <;> simp at h
      obtain ⟨⟨rfl, _⟩, rfl, _⟩ := h
      exact ⟨_, by simp only [cellsAV, undInt]; exact rfl⟩
    · simp at h
theorem read_str {k : Nat} {cs : List Value} {d : DataW H} {ps : List MemPlace} (h : DataW.trod enc Try.prog w base spare held k 9 cs = some (d, ps)) (hw : Lite 9 d) : ∃ x : ByteArray, cellsAV Try.prog k 9 d = [.s x] ∧ x.size ≤ reachBytes := by
  cases k with
  | zero => simp [DataW.trod] at h
  | succ k =>
    unfold DataW.trod at h
    rw [undStr] at h
    rcases cs with _ | ⟨v, _ | ⟨v2, r⟩⟩
    · simp at h
    · cases v with
      | string x =>
        simp only at h
        split at h
        · simp only [Option.some.injEq, Prod.mk.injEq] at h
          obtain ⟨rfl, _⟩ := h
          refine ⟨x, by simp only [cellsAV, undStr], ?_⟩
          have := hw x.data.toList.length (by simp [DataW.weights])
          have e : x.size = x.data.toList.length := by rw [Array.length_toList]; rfl
          omega
        · cases h
      | _ => simp at h
    · simp at h
theorem read_sl {k : Nat} {t e : TypeId} {cs : List Value} {d : DataW H} {ps : List MemPlace} (hu : Try.prog.underlying t = some (.slice e)) (hb : 0 < Try.prog.bytesOf e)
    (h : DataW.trod enc Try.prog w base spare held (k + 1) t cs = some (d, ps)) (hw : Lite t d) :
    ∃ elems : List (DataW H), cellsAV Try.prog (k + 1) t d = [.sl (szOf Try.prog e) (elems.map fun x => cellsAV Try.prog k e x)] ∧ elems.length ≤ reachBytes ∧
      ∀ x ∈ elems, (∃ cells q, DataW.trod enc Try.prog w base spare held k e cells = some (x, q)) ∧ Lite e x := by
  obtain ⟨elems, h1, h2, h3⟩ := read_slice hu h
  rcases h2 with ⟨rfl, rfl⟩ | ⟨sp, rfl⟩
  · exact ⟨[], h1, Nat.zero_le _, fun x hx => by simp at hx⟩
  · refine ⟨elems, h1, ?_, fun x hx => ⟨h3 x hx, fun n hn => hw n ?_⟩⟩
    · have := hw ((elems.length + sp.length) * Try.prog.bytesOf e) (by simp [DataW.weights, hu])
      have h4 : elems.length ≤ (elems.length + sp.length) * Try.prog.bytesOf e :=
        Nat.le_trans (Nat.le_add_right _ _) (Nat.le_mul_of_pos_right _ hb)
      omega
    · simp only [DataW.weights, hu, List.mem_cons, List.mem_append]
      exact .inr (.inl (weightsAll_in hx n hn))
theorem read_map {α β γ : Type} {F : α → γ} {G : β → γ} {Pr : β → Prop} : ∀ {l : List α}, (∀ x ∈ l, ∃ y, F x = G y ∧ Pr y) → ∃ r : List β, l.map F = r.map G ∧ r.length = l.length ∧ ∀ y ∈ r, Pr y
  | [], _ => ⟨[], rfl, rfl, fun y hy => by simp at hy⟩
  | x :: l, h => by
    obtain ⟨r, h1, h2, h3⟩ := read_map (l := l) fun x hx => h x (by simp [hx])
    obtain ⟨y, e1, e2⟩ := h x (by simp)
    refine ⟨y :: r, by simp [h1, e1], by simp [h2], fun z hz => ?_⟩
    rcases List.mem_cons.1 hz with rfl | hz
    · exact e2
    · exact h3 z hz
theorem read_ints {k : Nat} {cs : List Value} {d : DataW H} {ps : List MemPlace} (h : DataW.trod enc Try.prog w base spare held k 29 cs = some (d, ps)) (hw : Lite 29 d) : ∃ l : List Int, cellsAV Try.prog k 29 d = [.sl 1 (ints l)] ∧ l.length ≤ reachBytes := by
  cases k with
  | zero => simp [DataW.trod] at h
  | succ k =>
    obtain ⟨elems, h1, h2, h3⟩ := read_sl undInts (by decide +kernel) h hw
    obtain ⟨r, e1, e2, _⟩ := read_map (F := fun x => cellsAV Try.prog k 3 x) (G := fun n : Int => [AV.i .i64 n]) (Pr := fun _ => True) (l := elems) fun x hx => by
      obtain ⟨⟨cells, q, hq⟩, _⟩ := h3 x hx
      obtain ⟨n, hn⟩ := read_int hq
      exact ⟨n, hn, trivial⟩
    exact ⟨r, by rw [h1, e1, sz3]; rfl, by omega⟩
theorem read_tups {k : Nat} {cs : List Value} {d : DataW H} {ps : List MemPlace} (h : DataW.trod enc Try.prog w base spare held k 40 cs = some (d, ps)) (hw : Lite 40 d) :
    ∃ l : List (List Int), cellsAV Try.prog k 40 d = [.sl 1 (tups l)] ∧ l.length ≤ reachBytes ∧ ∀ t ∈ l, t.length ≤ reachBytes := by
  cases k with
  | zero => simp [DataW.trod] at h
  | succ k =>
    obtain ⟨elems, h1, h2, h3⟩ := read_sl undTups (by decide +kernel) h hw
    obtain ⟨r, e1, e2, e3⟩ := read_map (F := fun x => cellsAV Try.prog k 29 x) (G := fun l : List Int => [AV.sl 1 (ints l)]) (Pr := fun l => l.length ≤ reachBytes) (l := elems) fun x hx => by
      obtain ⟨⟨cells, q, hq⟩, hl⟩ := h3 x hx
      exact read_ints hq hl
    exact ⟨r, by rw [h1, e1, sz29]; rfl, by omega, e3⟩
theorem read_fields {k : Nat} {t : TypeId} {fs : Array Field} {cs : List Value} {d : DataW H} {ps : List MemPlace} (hu : Try.prog.underlying t = some (.struct fs)) (h : DataW.trod enc Try.prog w base spare held (k + 1) t cs = some (d, ps)) (hw : Lite t d) :
    ∃ parts : List (DataW H), cellsAV Try.prog (k + 1) t d = ((fs.toList.map (·.type)).zip parts).flatMap (fun x => cellsAV Try.prog k x.1 x.2) ∧ parts.length = (fs.toList.map (·.type)).length ∧
      ∀ (i : Nat) (e : TypeId) x, (fs.toList.map (·.type))[i]? = some e → parts[i]? = some x → (∃ cells q, DataW.trod enc Try.prog w base spare held k e cells = some (x, q)) ∧ Lite e x := by
  obtain ⟨parts, rfl, h1, h2, h3⟩ := read_struct hu h
  refine ⟨parts, ?_, by simpa using h2, fun i e x hi hx => ?_⟩
  · rw [h1, List.zip_map_left, List.flatMap_map]; rfl
  · have hi' := hi
    rw [List.getElem?_map] at hi
    cases hf : fs.toList[i]? with
    | none => rw [hf] at hi; cases hi
    | some f =>
      rw [hf] at hi
      obtain rfl := Option.some.inj hi
      refine ⟨h3 i f x hf hx, fun n hn => hw n ?_⟩
      simp only [DataW.weights, hu]
      exact DataW.weights_mem_each hi' hx n hn
structure RelD.Wide (r : RelD) : Prop where
  name : r.name.size ≤ reachBytes
  len : r.tuples.length ≤ reachBytes
  tup : ∀ t ∈ r.tuples, t.length ≤ reachBytes
theorem read_rel {k : Nat} {cs : List Value} {d : DataW H} {ps : List MemPlace} (h : DataW.trod enc Try.prog w base spare held k 64 cs = some (d, ps)) (hw : Lite 64 d) : ∃ r : RelD, cellsAV Try.prog k 64 d = r.cells ∧ r.Wide := by
  cases k with
  | zero => simp [DataW.trod] at h
  | succ k =>
    obtain ⟨parts, h1, h2, h3⟩ := read_fields undRel h hw
    rw [fldsRel] at h1 h2 h3
    match parts, h2 with
    | [a, b, c], _ =>
      obtain ⟨⟨_, _, q0⟩, w0⟩ := h3 0 9 a rfl rfl
      obtain ⟨⟨_, _, q1⟩, w1⟩ := h3 1 3 b rfl rfl
      obtain ⟨⟨_, _, q2⟩, w2⟩ := h3 2 40 c rfl rfl
      obtain ⟨x, ex, bx⟩ := read_str q0 w0
      obtain ⟨n, en⟩ := read_int q1
      obtain ⟨l, el, bl, bt⟩ := read_tups q2 w2
      refine ⟨⟨x, n, l⟩, ?_, ⟨bx, bl, bt⟩⟩
      rw [h1]
      simp only [List.zip_cons_cons, List.zip_nil_right, List.flatMap_cons, List.flatMap_nil, ex, en, el]
      rfl
theorem read_stru {k : Nat} {cs : List Value} {d : DataW H} {ps : List MemPlace} (h : DataW.trod enc Try.prog w base spare held k 24 cs = some (d, ps)) (hw : Lite 24 d) :
    ∃ s : StrD, cellsAV Try.prog k 24 d = [.i .i64 s.size, .sl 3 (rels s.rels)] ∧ s.Wide := by
  cases k with
  | zero => simp [DataW.trod] at h
  | succ k =>
    obtain ⟨parts, h1, h2, h3⟩ := read_fields undStru h hw
    rw [fldsStru] at h1 h2 h3
    match parts, h2 with
    | [a, b], _ =>
      obtain ⟨⟨_, _, q0⟩, w0⟩ := h3 0 3 a rfl rfl
      obtain ⟨⟨_, _, q1⟩, w1⟩ := h3 1 22 b rfl rfl
      obtain ⟨n, en⟩ := read_int q0
      cases k with
      | zero => simp [DataW.trod] at q1
      | succ k =>
        obtain ⟨elems, g1, g2, g3⟩ := read_sl undRels (by decide +kernel) q1 w1
        obtain ⟨r, e1, e2, e3⟩ := read_map (F := fun x => cellsAV Try.prog k 64 x) (G := RelD.cells) (Pr := RelD.Wide) (l := elems) fun x hx => by
          obtain ⟨⟨cells, q, hq⟩, hl⟩ := g3 x hx
          exact read_rel hq hl
        have hrb : reachBytes ≤ 1125899906842624 := by decide
        refine ⟨⟨n, r⟩, ?_, ⟨by simp only; omega, fun q hq => ?_⟩⟩
        · rw [h1]
          simp only [List.zip_cons_cons, List.zip_nil_right, List.flatMap_cons, List.flatMap_nil, en, g1, e1, sz64]
          rfl
        · have := e3 q hq
          exact ⟨Nat.le_trans this.name hrb, Nat.le_trans this.len (by omega), fun t ht => Nat.le_trans (this.tup t ht) hrb⟩
end
theorem plainInt (k : Nat) : plainT Try.prog k 3 = true := by
  cases k with
  | zero => rfl
  | succ k => unfold plainT; rw [undInt]; exact (by decide +kernel : decide (Try.prog.cellsOf 3 = 1) = true)
theorem plainStr (k : Nat) : plainT Try.prog k 9 = true := by
  cases k with
  | zero => rfl
  | succ k => unfold plainT; rw [undStr]; exact (by decide +kernel : decide (Try.prog.cellsOf 9 = 1) = true)
theorem plainSl {t e : TypeId} (hu : Try.prog.underlying t = some (.slice e)) (h1 : Try.prog.cellsOf t = 1) (h2 : 0 < Try.prog.cellsOf e) (h : ∀ k, plainT Try.prog k e = true) (k : Nat) : plainT Try.prog k t = true := by
  cases k with
  | zero => rfl
  | succ k => unfold plainT; rw [hu]; simp [h1, h2, h k]
theorem plainStruct {t : TypeId} {fs : Array Field} (hu : Try.prog.underlying t = some (.struct fs)) (h1 : laidF Try.prog 0 fs.toList = some (Try.prog.cellsOf t)) (h : ∀ k, ∀ e ∈ fs.toList.map (·.type), plainT Try.prog k e = true) (k : Nat) : plainT Try.prog k t = true := by
  cases k with
  | zero => rfl
  | succ k =>
    unfold plainT
    rw [hu]
    simp only [Bool.and_eq_true, List.all_eq_true, decide_eq_true_eq]
    exact ⟨fun f hf => h k _ (List.mem_map_of_mem hf), h1⟩
theorem plainInts (k : Nat) : plainT Try.prog k 29 = true := plainSl undInts (by decide +kernel) (by decide +kernel) plainInt k
theorem plainTups (k : Nat) : plainT Try.prog k 40 = true := plainSl undTups (by decide +kernel) (by decide +kernel) plainInts k
theorem plainRel (k : Nat) : plainT Try.prog k 64 = true := plainStruct undRel (by decide +kernel) (fun k e he => by
  rw [fldsRel] at he
  simp only [List.mem_cons, List.not_mem_nil, or_false] at he
  rcases he with rfl | rfl | rfl
  · exact plainStr k
  · exact plainInt k
  · exact plainTups k) k
theorem plainRels (k : Nat) : plainT Try.prog k 22 = true := plainSl undRels (by decide +kernel) (by decide +kernel) plainRel k
theorem plainStru (k : Nat) : plainT Try.prog k 24 = true := plainStruct undStru (by decide +kernel) (fun k e he => by
  rw [fldsStru] at he
  simp only [List.mem_cons, List.not_mem_nil, or_false] at he
  rcases he with rfl | rfl
  · exact plainInt k
  · exact plainRels k) k
end Go.AW
