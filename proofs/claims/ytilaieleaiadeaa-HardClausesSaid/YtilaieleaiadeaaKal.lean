/-
The law Awake: it returns true.
-/
import Derived.Test.YtilaieleaiadeaaKah
import Derived.Test.YtilaieleaiadeaaKai
import Derived.Test.YtilaieleaiadeaaKaj
import Derived.Test.YtilaieleaiadeaaKak
import Derived.SizedLaws
import Derived.Shelf.Sort.Plain
import Derived.Shelf.Slices.Clone
import Derived.Shelf.Slices.CompactI
import Derived.Test.YtilaieleaiadeaaProg
import Derived.Test.YtilaieleaiadeaaKaf
import Derived.Sort.Row
import Derived.Sort.Grow
import Derived.Test.YtilaieleaiadeaaKag
namespace Go.AW
open Go Go.Proofs TyTry
set_option linter.unusedSimpArgs false
set_option maxRecDepth 100000
def tabAw : List (FuncId × List AV × AV) := [(11, [fourA], .tup [.sl 1 (ints [0, 3]), .i .i64 0]), (12, [fourA, .i .i64 2], .tup [.i .i64 3, .i .i64 0]),
  (22, [.agg [.i .i64 1, .sl 1 [[.sl 1 [[.i .i64 1]]], [.sl 1 [[.i .i64 (-1)]]]]]], .tup [.sl 1 [], .i .i64 6]), (20, [.agg [.i .i64 2, .sl 1 [[.sl 1 [[.i .i64 1], [.i .i64 2]]]]]], .tup [.i .i64 3, .i .i64 0])]
def envTab (f : FuncId) (ac : List AV) (oc : List Ob) : List (FuncId × List AV × AV) → Option (AV × List Ob)
  | [] => none
  | (g, bc, r) :: l => if f == g && eqAL ac bc then some (r, oc) else envTab f ac oc l
theorem envTab_mem {f : FuncId} {ac : List AV} {oc : List Ob} {x : AV × List Ob} : ∀ {l : List (FuncId × List AV × AV)}, envTab f ac oc l = some x → x.2 = oc ∧ (f, ac, x.1) ∈ l
  | [], h => by cases h
  | (g, bc, r) :: l, h => by
    rw [envTab] at h
    by_cases hc : (f == g && eqAL ac bc) = true
    · rw [if_pos hc] at h
      simp only [Bool.and_eq_true, beq_iff_eq] at hc
      obtain ⟨rfl, h2⟩ := hc
      obtain rfl := eqAL_eq _ _ h2
      obtain rfl := Option.some.inj h
      exact ⟨rfl, by simp⟩
    · rw [if_neg hc] at h
      obtain ⟨a, b⟩ := envTab_mem h
      exact ⟨a, List.mem_cons_of_mem _ b⟩
theorem tabAw_ok : ∀ x ∈ tabAw, ACallsD Try.prog x.1 x.2.1 x.2.2 ∧ x.2.1.all (AV.ltk 0) = true ∧ x.2.2.ltk 0 = true := by
  intro x hx
  simp only [tabAw, List.mem_cons, List.not_mem_nil, or_false] at hx
  rcases hx with rfl | rfl | rfl | rfl
  · exact ⟨walk_run, by decide +kernel, by decide +kernel⟩
  · exact ⟨walks_run, by decide +kernel, by decide +kernel⟩
  · exact ⟨solve_run, by decide +kernel, by decide +kernel⟩
  · exact ⟨models_run, by decide +kernel, by decide +kernel⟩
theorem awake_spec : ACallsD Try.prog 9 [] (.b true) :=
  ((x_sound (fun f ac oc => envTab f ac oc tabAw) flAw (by decide +kernel) (fun f ac oc r o' h => by
    obtain ⟨h1, h2⟩ := envTab_mem h
    simp only at h1 h2
    subst h1
    obtain ⟨a, b, c⟩ := tabAw_ok _ h2
    exact ⟨a.frame b c _, Nat.le_refl _⟩) 500).2.2.2.1 9 [] [] (.b true) [] (by kernel_rfl)).1
end Go.AW
/-
What the laws' arguments read as, with their sizes.
-/
namespace Go.AW
open Go Go.Proofs TyTry
set_option linter.unusedSimpArgs false
set_option linter.unusedVariables false
set_option maxRecDepth 100000
/-- The fields of a struct. -/
def fldsOf (P : Program) (t : TypeId) : Array Field := match P.underlying t with | some (.struct fs) => fs | _ => #[]
theorem undInt : Try.prog.underlying 3 = some (.int .i64) := by kernel_rfl
theorem undStr : Try.prog.underlying 9 = some .string := by kernel_rfl
theorem undInts : Try.prog.underlying 29 = some (.slice 3) := by kernel_rfl
theorem undTups : Try.prog.underlying 40 = some (.slice 29) := by kernel_rfl
theorem undRels : Try.prog.underlying 22 = some (.slice 64) := by kernel_rfl
theorem undRel : Try.prog.underlying 64 = some (.struct (fldsOf Try.prog 64)) := by kernel_rfl
theorem undStru : Try.prog.underlying 24 = some (.struct (fldsOf Try.prog 24)) := by kernel_rfl
theorem fldsRel : (fldsOf Try.prog 64).toList.map (·.type) = [9, 3, 40] := by kernel_rfl
theorem fldsStru : (fldsOf Try.prog 24).toList.map (·.type) = [3, 22] := by kernel_rfl
section
variable {H : Type} {w : World} {enc : TypeId × Value → H} {base : Nat} {spare : Nat → Bool} {held : Bool}
/-- Nothing in it takes more than there can be. -/
def Lite (t : TypeId) (d : DataW H) : Prop := ∀ n ∈ d.weights Try.prog t, n ≤ reachBytes
theorem weightsAll_in {P : Program} {e : TypeId} : ∀ {l : List (DataW H)} {d : DataW H}, d ∈ l → ∀ n ∈ d.weights P e, n ∈ DataW.weightsAll P e l
  | x :: l, d, h, n, hn => by
    simp only [DataW.weightsAll, List.mem_append]
    rcases List.mem_cons.1 h with rfl | h
    · exact .inl hn
    · exact .inr (weightsAll_in h n hn)
theorem read_int {k : Nat} {cs : List Value} {d : DataW H} {ps : List MemPlace} (h : DataW.trod enc Try.prog w base spare held k 3 cs = some (d, ps)) : ∃ n, cellsAV Try.prog k 3 d = [.i .i64 n] := by
  cases k with
  | zero => simp [DataW.trod] at h
  | succ k =>
    unfold DataW.trod at h
    rw [undInt] at h
    rcases cs with _ | ⟨v, _ | ⟨v2, r⟩⟩
    · simp at h
    · cases v <;> simp at h
      obtain ⟨⟨rfl, _⟩, rfl, _⟩ := h
      exact ⟨_, by simp only [cellsAV, undInt]; exact rfl⟩
    · simp at h
theorem read_str {k : Nat} {cs : List Value} {d : DataW H} {ps : List MemPlace} (h : DataW.trod enc Try.prog w base spare held k 9 cs = some (d, ps)) (hw : Lite 9 d) : ∃ x : ByteArray, cellsAV Try.prog k 9 d = [.s x] ∧ x.size ≤ reachBytes := by
  cases k with
  | zero => simp [DataW.trod] at h
  | succ k =>
    unfold DataW.trod at h
    rw [undStr] at h
    rcases cs with _ | ⟨v, _ | ⟨v2, r⟩⟩
    · simp at h
    · cases v with
      | string x =>
        simp only at h
        split at h
        · simp only [Option.some.injEq, Prod.mk.injEq] at h
          obtain ⟨rfl, _⟩ := h
          refine ⟨x, by simp only [cellsAV, undStr], ?_⟩
          have := hw x.data.toList.length (by simp [DataW.weights])
          have e : x.size = x.data.toList.length := by rw [Array.length_toList]; rfl
          omega
        · cases h
      | _ => simp at h
    · simp at h
theorem read_sl {k : Nat} {t e : TypeId} {cs : List Value} {d : DataW H} {ps : List MemPlace} (hu : Try.prog.underlying t = some (.slice e)) (hb : 0 < Try.prog.bytesOf e)
    (h : DataW.trod enc Try.prog w base spare held (k + 1) t cs = some (d, ps)) (hw : Lite t d) :
    ∃ elems : List (DataW H), cellsAV Try.prog (k + 1) t d = [.sl (szOf Try.prog e) (elems.map fun x => cellsAV Try.prog k e x)] ∧ elems.length ≤ reachBytes ∧
      ∀ x ∈ elems, (∃ cells q, DataW.trod enc Try.prog w base spare held k e cells = some (x, q)) ∧ Lite e x := by
  obtain ⟨elems, h1, h2, h3⟩ := read_slice hu h
  rcases h2 with ⟨rfl, rfl⟩ | ⟨sp, rfl⟩
  · exact ⟨[], h1, Nat.zero_le _, fun x hx => by simp at hx⟩
  · refine ⟨elems, h1, ?_, fun x hx => ⟨h3 x hx, fun n hn => hw n ?_⟩⟩
    · have := hw ((elems.length + sp.length) * Try.prog.bytesOf e) (by simp [DataW.weights, hu])
      have h4 : elems.length ≤ (elems.length + sp.length) * Try.prog.bytesOf e :=
        Nat.le_trans (Nat.le_add_right _ _) (Nat.le_mul_of_pos_right _ hb)
      omega
    · simp only [DataW.weights, hu, List.mem_cons, List.mem_append]
      exact .inr (.inl (weightsAll_in hx n hn))
theorem read_map {α β γ : Type} {F : α → γ} {G : β → γ} {Pr : β → Prop} : ∀ {l : List α}, (∀ x ∈ l, ∃ y, F x = G y ∧ Pr y) → ∃ r : List β, l.map F = r.map G ∧ r.length = l.length ∧ ∀ y ∈ r, Pr y
  | [], _ => ⟨[], rfl, rfl, fun y hy => by simp at hy⟩
  | x :: l, h => by
    obtain ⟨r, h1, h2, h3⟩ := read_map (l := l) fun x hx => h x (by simp [hx])
    obtain ⟨y, e1, e2⟩ := h x (by simp)
    refine ⟨y :: r, by simp [h1, e1], by simp [h2], fun z hz => ?_⟩
    rcases List.mem_cons.1 hz with rfl | hz
    · exact e2
    · exact h3 z hz
theorem read_ints {k : Nat} {cs : List Value} {d : DataW H} {ps : List MemPlace} (h : DataW.trod enc Try.prog w base spare held k 29 cs = some (d, ps)) (hw : Lite 29 d) : ∃ l : List Int, cellsAV Try.prog k 29 d = [.sl 1 (ints l)] ∧ l.length ≤ reachBytes := by
  cases k with
  | zero => simp [DataW.trod] at h
  | succ k =>
    obtain ⟨elems, h1, h2, h3⟩ := read_sl undInts (by decide +kernel) h hw
    obtain ⟨r, e1, e2, _⟩ := read_map (F := fun x => cellsAV Try.prog k 3 x) (G := fun n : Int => [AV.i .i64 n]) (Pr := fun _ => True) (l := elems) fun x hx => by
      obtain ⟨⟨cells, q, hq⟩, _⟩ := h3 x hx
      obtain ⟨n, hn⟩ := read_int hq
      exact ⟨n, hn, trivial⟩
    exact ⟨r, by rw [h1, e1, sz3]; rfl, by omega⟩
theorem read_tups {k : Nat} {cs : List Value} {d : DataW H} {ps : List MemPlace} (h : DataW.trod enc Try.prog w base spare held k 40 cs = some (d, ps)) (hw : Lite 40 d) :
    ∃ l : List (List Int), cellsAV Try.prog k 40 d = [.sl 1 (tups l)] ∧ l.length ≤ reachBytes ∧ ∀ t ∈ l, t.length ≤ reachBytes := by
  cases k with
  | zero => simp [DataW.trod] at h
  | succ k =>
    obtain ⟨elems, h1, h2, h3⟩ := read_sl undTups (by decide +kernel) h hw
    obtain ⟨r, e1, e2, e3⟩ := read_map (F := fun x => cellsAV Try.prog k 29 x) (G := fun l : List Int => [AV.sl 1 (ints l)]) (Pr := fun l => l.length ≤ reachBytes) (l := elems) fun x hx => by
      obtain ⟨⟨cells, q, hq⟩, hl⟩ := h3 x hx
      exact read_ints hq hl
    exact ⟨r, by rw [h1, e1, sz29]; rfl, by omega, e3⟩
theorem read_fields {k : Nat} {t : TypeId} {fs : Array Field} {cs : List Value} {d : DataW H} {ps : List MemPlace} (hu : Try.prog.underlying t = some (.struct fs)) (h : DataW.trod enc Try.prog w base spare held (k + 1) t cs = some (d, ps)) (hw : Lite t d) :
    ∃ parts : List (DataW H), cellsAV Try.prog (k + 1) t d = ((fs.toList.map (·.type)).zip parts).flatMap (fun x => cellsAV Try.prog k x.1 x.2) ∧ parts.length = (fs.toList.map (·.type)).length ∧
      ∀ (i : Nat) (e : TypeId) x, (fs.toList.map (·.type))[i]? = some e → parts[i]? = some x → (∃ cells q, DataW.trod enc Try.prog w base spare held k e cells = some (x, q)) ∧ Lite e x := by
  obtain ⟨parts, rfl, h1, h2, h3⟩ := read_struct hu h
  refine ⟨parts, ?_, by simpa using h2, fun i e x hi hx => ?_⟩
  · rw [h1, List.zip_map_left, List.flatMap_map]; rfl
  · have hi' := hi
    rw [List.getElem?_map] at hi
    cases hf : fs.toList[i]? with
    | none => rw [hf] at hi; cases hi
    | some f =>
      rw [hf] at hi
      obtain rfl := Option.some.inj hi
      refine ⟨h3 i f x hf hx, fun n hn => hw n ?_⟩
      simp only [DataW.weights, hu]
      exact DataW.weights_mem_each hi' hx n hn
structure RelD.Wide (r : RelD) : Prop where
  name : r.name.size ≤ reachBytes
  len : r.tuples.length ≤ reachBytes
  tup : ∀ t ∈ r.tuples, t.length ≤ reachBytes
theorem read_rel {k : Nat} {cs : List Value} {d : DataW H} {ps : List MemPlace} (h : DataW.trod enc Try.prog w base spare held k 64 cs = some (d, ps)) (hw : Lite 64 d) : ∃ r : RelD, cellsAV Try.prog k 64 d = r.cells ∧ r.Wide := by
  cases k with
  | zero => simp [DataW.trod] at h
  | succ k =>
    obtain ⟨parts, h1, h2, h3⟩ := read_fields undRel h hw
    rw [fldsRel] at h1 h2 h3
    match parts, h2 with
    | [a, b, c], _ =>
      obtain ⟨⟨_, _, q0⟩, w0⟩ := h3 0 9 a rfl rfl
      obtain ⟨⟨_, _, q1⟩, w1⟩ := h3 1 3 b rfl rfl
      obtain ⟨⟨_, _, q2⟩, w2⟩ := h3 2 40 c rfl rfl
      obtain ⟨x, ex, bx⟩ := read_str q0 w0
      obtain ⟨n, en⟩ := read_int q1
      obtain ⟨l, el, bl, bt⟩ := read_tups q2 w2
      refine ⟨⟨x, n, l⟩, ?_, ⟨bx, bl, bt⟩⟩
      rw [h1]
      simp only [List.zip_cons_cons, List.zip_nil_right, List.flatMap_cons, List.flatMap_nil, ex, en, el]
      rfl
theorem read_stru {k : Nat} {cs : List Value} {d : DataW H} {ps : List MemPlace} (h : DataW.trod enc Try.prog w base spare held k 24 cs = some (d, ps)) (hw : Lite 24 d) :
    ∃ s : StrD, cellsAV Try.prog k 24 d = [.i .i64 s.size, .sl 3 (rels s.rels)] ∧ s.Wide := by
  cases k with
  | zero => simp [DataW.trod] at h
  | succ k =>
    obtain ⟨parts, h1, h2, h3⟩ := read_fields undStru h hw
    rw [fldsStru] at h1 h2 h3
    match parts, h2 with
    | [a, b], _ =>
      obtain ⟨⟨_, _, q0⟩, w0⟩ := h3 0 3 a rfl rfl
      obtain ⟨⟨_, _, q1⟩, w1⟩ := h3 1 22 b rfl rfl
      obtain ⟨n, en⟩ := read_int q0
      cases k with
      | zero => simp [DataW.trod] at q1
      | succ k =>
        obtain ⟨elems, g1, g2, g3⟩ := read_sl undRels (by decide +kernel) q1 w1
        obtain ⟨r, e1, e2, e3⟩ := read_map (F := fun x => cellsAV Try.prog k 64 x) (G := RelD.cells) (Pr := RelD.Wide) (l := elems) fun x hx => by
          obtain ⟨⟨cells, q, hq⟩, hl⟩ := g3 x hx
          exact read_rel hq hl
        have hrb : reachBytes ≤ 1125899906842624 := by decide
        refine ⟨⟨n, r⟩, ?_, ⟨by simp only; omega, fun q hq => ?_⟩⟩
        · rw [h1]
          simp only [List.zip_cons_cons, List.zip_nil_right, List.flatMap_cons, List.flatMap_nil, en, g1, e1, sz64]
          rfl
        · have := e3 q hq
          exact ⟨Nat.le_trans this.name hrb, Nat.le_trans this.len (by omega), fun t ht => Nat.le_trans (this.tup t ht) hrb⟩
end
theorem plainInt (k : Nat) : plainT Try.prog k 3 = true := by
  cases k with
  | zero => rfl
  | succ k => unfold plainT; rw [undInt]; exact (by decide +kernel : decide (Try.prog.cellsOf 3 = 1) = true)
theorem plainStr (k : Nat) : plainT Try.prog k 9 = true := by
  cases k with
  | zero => rfl
  | succ k => unfold plainT; rw [undStr]; exact (by decide +kernel : decide (Try.prog.cellsOf 9 = 1) = true)
theorem plainSl {t e : TypeId} (hu : Try.prog.underlying t = some (.slice e)) (h1 : Try.prog.cellsOf t = 1) (h2 : 0 < Try.prog.cellsOf e) (h : ∀ k, plainT Try.prog k e = true) (k : Nat) : plainT Try.prog k t = true := by
  cases k with
  | zero => rfl
  | succ k => unfold plainT; rw [hu]; simp [h1, h2, h k]
theorem plainStruct {t : TypeId} {fs : Array Field} (hu : Try.prog.underlying t = some (.struct fs)) (h1 : laidF Try.prog 0 fs.toList = some (Try.prog.cellsOf t)) (h : ∀ k, ∀ e ∈ fs.toList.map (·.type), plainT Try.prog k e = true) (k : Nat) : plainT Try.prog k t = true := by
  cases k with
  | zero => rfl
  | succ k =>
    unfold plainT
    rw [hu]
    simp only [Bool.and_eq_true, List.all_eq_true, decide_eq_true_eq]
    exact ⟨fun f hf => h k _ (List.mem_map_of_mem hf), h1⟩
theorem plainInts (k : Nat) : plainT Try.prog k 29 = true := plainSl undInts (by decide +kernel) (by decide +kernel) plainInt k
theorem plainTups (k : Nat) : plainT Try.prog k 40 = true := plainSl undTups (by decide +kernel) (by decide +kernel) plainInts k
theorem plainRel (k : Nat) : plainT Try.prog k 64 = true := plainStruct undRel (by decide +kernel) (fun k e he => by
  rw [fldsRel] at he
  simp only [List.mem_cons, List.not_mem_nil, or_false] at he
  rcases he with rfl | rfl | rfl
  · exact plainStr k
  · exact plainInt k
  · exact plainTups k) k
theorem plainRels (k : Nat) : plainT Try.prog k 22 = true := plainSl undRels (by decide +kernel) (by decide +kernel) plainRel k
theorem plainStru (k : Nat) : plainT Try.prog k 24 = true := plainStruct undStru (by decide +kernel) (fun k e he => by
  rw [fldsStru] at he
  simp only [List.mem_cons, List.not_mem_nil, or_false] at he
  rcases he with rfl | rfl
  · exact plainInt k
  · exact plainRels k) k
end Go.AW
/-
The library's contracts of slices.Sort, slices.Clone and slices.Compact over this program: laid by the kit's tool, in plain words.
-/
namespace Go.Proofs
open Go.Shelf
def Try.lays189_ren : Go.Shelf.Ren := ⟨fun | 189 => 80 | 125 => 97 | 257 => 96 | 128 => 112 | 129 => 113 | 294 => 103 | 295 => 104 | 296 => 105 | 297 => 106 | 298 => 107 | 299 => 108 | 216 => 109 | 300 => 110 | 301 => 111 | 328 => 115 | 329 => 116 | 330 => 117 | 331 => 118 | 332 => 119 | 215 => 114 | 343 => 120 | n => n, fun | 28 => 29 | 3 => 3 | 46 => 121 | 0 => 0 | 51 => 130 | 53 => 132 | 4 => 4 | 183 => 124 | 182 => 123 | 131 => 37 | 5 => 5 | 9 => 9 | 218 => 133 | 222 => 137 | 228 => 139 | 229 => 140 | n => n, fun | n => n⟩
theorem Try.lays189 : Go.Proofs.Lays.n189 Try.prog Try.lays189_ren := {
  mixed := by kernel_rfl
  f125 := Try.func97.trans (congrArg some (by kernel_rfl))
  f128 := Try.func112.trans (congrArg some (by kernel_rfl))
  f129 := Try.func113.trans (congrArg some (by kernel_rfl))
  f189 := Try.func80.trans (congrArg some (by kernel_rfl))
  f215 := Try.func114.trans (congrArg some (by kernel_rfl))
  f216 := Try.func109.trans (congrArg some (by kernel_rfl))
  f257 := Try.func96.trans (congrArg some (by kernel_rfl))
  f294 := Try.func103.trans (congrArg some (by kernel_rfl))
  f295 := Try.func104.trans (congrArg some (by kernel_rfl))
  f296 := Try.func105.trans (congrArg some (by kernel_rfl))
  f297 := Try.func106.trans (congrArg some (by kernel_rfl))
  f298 := Try.func107.trans (congrArg some (by kernel_rfl))
  f299 := Try.func108.trans (congrArg some (by kernel_rfl))
  f300 := Try.func110.trans (congrArg some (by kernel_rfl))
  f301 := Try.func111.trans (congrArg some (by kernel_rfl))
  f328 := Try.func115.trans (congrArg some (by kernel_rfl))
  f329 := Try.func116.trans (congrArg some (by kernel_rfl))
  f330 := Try.func117.trans (congrArg some (by kernel_rfl))
  f331 := Try.func118.trans (congrArg some (by kernel_rfl))
  f332 := Try.func119.trans (congrArg some (by kernel_rfl))
  f343 := Try.func120.trans (congrArg some (by kernel_rfl))
  t0 := Try.underlying0
  a0 := Try.isAgg0
  z0 := Try.sizeOf0
  v0 := Try.zeroValue0
  t3 := Try.underlying3
  a3 := Try.isAgg3
  z3 := Try.sizeOf3
  v3 := Try.zeroValue3
  t4 := Try.underlying4
  a4 := Try.isAgg4
  z4 := Try.sizeOf4
  v4 := Try.zeroValue4
  t5 := Try.underlying5
  a5 := Try.isAgg5
  z5 := Try.sizeOf5
  v5 := Try.zeroValue5
  t9 := Try.underlying9
  a9 := Try.isAgg9
  z9 := Try.sizeOf9
  v9 := Try.zeroValue9
  t28 := Try.underlying29
  a28 := Try.isAgg29
  z28 := Try.sizeOf29
  v28 := Try.zeroValue29
  t46 := Try.underlying121
  a46 := Try.isAgg121
  z46 := Try.sizeOf121
  v46 := Try.zeroValue121
  t51 := Try.underlying130
  a51 := Try.isAgg130
  z51 := Try.sizeOf130
  v51 := Try.zeroValue130
  t53 := Try.underlying132
  a53 := Try.isAgg132
  z53 := Try.sizeOf132
  v53 := Try.zeroValue132
  t131 := Try.underlying37
  a131 := Try.isAgg37
  z131 := Try.sizeOf37
  v131 := Try.zeroValue37
  t182 := Try.underlying123
  a182 := Try.isAgg123
  z182 := Try.sizeOf123
  v182 := Try.zeroValue123
  t183 := Try.underlying124
  a183 := Try.isAgg124
  z183 := Try.sizeOf124
  v183 := Try.zeroValue124
  t218 := Try.underlying133
  a218 := Try.isAgg133
  z218 := Try.sizeOf133
  v218 := Try.zeroValue133
  t222 := Try.underlying137
  a222 := Try.isAgg137
  z222 := Try.sizeOf137
  v222 := Try.zeroValue137
  t228 := Try.underlying139
  a228 := Try.isAgg139
  z228 := Try.sizeOf139
  v228 := Try.zeroValue139
  t229 := Try.underlying140
  a229 := Try.isAgg140
  z229 := Try.sizeOf140
  v229 := Try.zeroValue140 }
open Go.Sort Go.RowKit in
theorem Try.slices_Sort_int (blk off cap : Nat) (zs : List Int) (w : World) (hH : Holds (Value.int .i64) w blk off zs.toArray) (hblk : blk < w.heap.size) (hsz : zs.length < 4611686018427387904) :
    Calls Try.prog 80 #[.slice (some ⟨blk, off, none⟩) zs.length cap] w fun e w' =>
      e = .returned (.tuple #[]) ∧ ∃ n os, w' = grow (putRow (Value.int .i64) (Sort.ahead w n) blk off (zs.mergeSort fun x y => decide (x ≤ y)).toArray) os := Any.slices_Sort_int Try.lays189 blk off cap zs w hH hblk hsz
def Try.laysNm215_ren : Go.Shelf.Ren := ⟨fun | 15 => 79 | n => n, fun | 22 => 29 | 3 => 3 | 4 => 4 | n => n, fun | n => n⟩
theorem Try.laysNm215 : Go.Proofs.Lays2.n15 Try.prog Try.laysNm215_ren := {
  mixed := by kernel_rfl
  f15 := Try.func79.trans (congrArg some (by kernel_rfl))
  t3 := Try.underlying3
  a3 := Try.isAgg3
  z3 := Try.sizeOf3
  v3 := Try.zeroValue3
  t4 := Try.underlying4
  a4 := Try.isAgg4
  z4 := Try.sizeOf4
  v4 := Try.zeroValue4
  t22 := Try.underlying29
  a22 := Try.isAgg29
  z22 := Try.sizeOf29
  v22 := Try.zeroValue29
  i3 := by kernel_rfl }
open Go.RowKit Go.Lib in
theorem Try.slices_Clone_int_nil (n c : Nat) (w : World) :
    Calls Try.prog 79 #[.slice none n c] w fun e w' => e = .returned (.slice none 0 0) ∧ w' = w := Any.slices_Clone_int_nil Try.laysNm215 n c w
open Go.RowKit Go.Lib in
theorem Try.slices_Clone_int_zero (a : Addr) (c : Nat) (w : World) :
    Calls Try.prog 79 #[.slice (some a) 0 c] w fun e w' => ∃ v', e = .returned v' ∧ w'.ownsRow w.heap.size 3 1 v' 0 [] ∧ v' ≠ .slice none 0 0 ∧ Below w.heap.size w w' := Any.slices_Clone_int_zero Try.laysNm215 a c w
def Try.laysNm220_ren : Go.Shelf.Ren := ⟨fun | 20 => 81 | n => n, fun | 22 => 29 | 3 => 3 | 4 => 4 | 0 => 0 | n => n, fun | n => n⟩
theorem Try.laysNm220 : Go.Proofs.Lays2.n20 Try.prog Try.laysNm220_ren := {
  mixed := by kernel_rfl
  f20 := Try.func81.trans (congrArg some (by kernel_rfl))
  t0 := Try.underlying0
  a0 := Try.isAgg0
  z0 := Try.sizeOf0
  v0 := Try.zeroValue0
  t3 := Try.underlying3
  a3 := Try.isAgg3
  z3 := Try.sizeOf3
  v3 := Try.zeroValue3
  t4 := Try.underlying4
  a4 := Try.isAgg4
  z4 := Try.sizeOf4
  v4 := Try.zeroValue4
  t22 := Try.underlying29
  a22 := Try.isAgg29
  z22 := Try.sizeOf29
  v22 := Try.zeroValue29
  i3 := by kernel_rfl }
open Go.RowKit Go.Lib Go.Sort in
theorem Try.slices_Compact_int (blk off cap : Nat) (zs : List Int) (w : World) (hH : Holds (Value.int .i64) w blk off zs.toArray) (hsz : zs.length ≤ 9223372036854775807) (hcap : zs.length ≤ cap) :
    Calls Try.prog 81 #[.slice (some ⟨blk, off, none⟩) zs.length cap] w fun e w' => e = .returned (.slice (some ⟨blk, off, none⟩) (Lib.compact zs).length cap) ∧ ∃ q, w' = putRow (Value.int .i64) (Sort.ahead w q) blk off (Lib.compact zs ++ List.replicate (zs.length - (Lib.compact zs).length) 0).toArray := Any.slices_Compact_int Try.laysNm220 blk off cap zs w hH hsz hcap
end Go.Proofs
/-
AW, part Zt: objects turned in place by a call whose contract speaks of the world.
-/
namespace Go.AW
open Go
set_option linter.unusedSimpArgs false
set_option linter.unusedVariables false

section
variable {w : World} {Z : CS} {m : List MB} {reg : Pl → Option Reg} {t : Nat → AV} {u : Nat → Value} {o : List Ob}
/-- An object's contents are replaced; all else is as it was. -/
theorem Rel.objSet (h : Rel w Z m reg t u o) {id : Nat} {x0 : Ob} {mb : MB} (ho : o[id]? = some x0) (hl0 : x0.live) (hm : m[id]? = some mb) {w' : World} (hos : w'.os = w.os) (htp : w'.tape = w.tape) (hout : w'.output = w.output)
    (hsz : w'.heap.size = w.heap.size) (hot : ∀ b, b ≠ mb.blk → w'.heap[b]? = w.heap[b]?) (x1 : Ob) (hl1 : x1.live)
    (hob : ∀ (Y' : CS), Keeps w (YS Z m reg o) m w' Y' m → ObR w' Y' m mb x1) (hno : ∀ r c sz rows, leaf t [x1] (.o 0 r c) ≠ some (.own sz rows)) :
    Rel w' Z m (regDrop reg id o.length) t u (o.set id x1) ∧ Evol w (XS m reg o) w' ∧ (∀ b x, XS m (regDrop reg id o.length) (o.set id x1) b x → XS m reg o b x) := by
  have hlt : id < o.length := (List.getElem?_eq_some_iff.1 ho).1
  have hsub : ∀ p rg, regDrop reg id o.length p = some rg → reg p = some rg := by
    intro p rg hp
    cases p with
    | t k => exact hp
    | o j r c =>
      simp only [regDrop] at hp
      split at hp
      · cases hp
      · exact hp
  have og : ∀ {j : Nat} {x : Ob}, (o.set id x1)[j]? = some x → (j = id ∧ x = x1) ∨ (j ≠ id ∧ o[j]? = some x) := by
    intro j x hj
    rw [set_get ho] at hj
    split at hj
    · rename_i e; exact .inl ⟨e, (Option.some.inj hj).symm⟩
    · rename_i e; exact .inr ⟨e, hj⟩
  have hXb : ∀ y, XS m reg o mb.blk y := fun y => .inl ⟨id, _, mb, ho, hl0, hm, rfl⟩
  have hX : ∀ b y, XS m (regDrop reg id o.length) (o.set id x1) b y → XS m reg o b y := by
    rintro b y (⟨j, ob, mb', h1, h2, h3, h4⟩ | ⟨p, rg, h1, h2⟩)
    · rcases og h1 with ⟨rfl, rfl⟩ | ⟨_, h1⟩
      · rw [hm] at h3
        obtain rfl := Option.some.inj h3
        rw [← h4]; exact hXb y
      · exact .inl ⟨j, ob, mb', h1, h2, h3, h4⟩
    · exact .inr ⟨p, rg, hsub p rg h1, h2⟩
  have hE : Evol w (XS m reg o) w' := by
    refine ⟨hos, htp, hout, by rw [hsz]; exact Nat.le_refl _, fun b _ hb => hot b (fun e => hb 0 (e ▸ hXb 0)), fun b x v hb hc => ?_⟩
    have : b ≠ mb.blk := fun e => hb (e ▸ hXb x)
    unfold World.cell? at hc ⊢
    rw [hot b this]; exact hc
  have K : Keeps w (YS Z m reg o) m w' (YS Z m (regDrop reg id o.length) (o.set id x1)) m :=
    ⟨fun b x v hc hy => ⟨hE.cell b x v (fun k => hy (.inl k)) hc, fun k => hy (k.imp (hX b x) (fun h => h))⟩, fun _ _ h => h⟩
  have hblk : ∀ {j : Nat} {x : Ob} {mb' : MB}, j ≠ id → o[j]? = some x → x.live → m[j]? = some mb' → mb'.blk ≠ mb.blk := fun hj hx hl hmj e => hj (h.inj _ _ _ _ _ _ hx ho hl hl0 hmj hm e)
  refine ⟨?_, hE, hX⟩
  refine ⟨by simp [h.len], fun k => V.keep K _ _ (h.tv k), ?_, ?_, fun p rg hp => by rw [hsz]; exact h.rok p rg (hsub p rg hp), ?_, fun p q r s hpq hp hq => h.rdj p q r s hpq (hsub p r hp) (hsub q s hq), ?_, fun b y hz hy => h.zx b y hz (hX b y hy), fun b y hz => by rw [hsz]; exact h.zs b y hz⟩
  · intro j ob mb' hoj hmj
    rcases og hoj with ⟨rfl, rfl⟩ | ⟨hne, h1⟩
    · rw [hm] at hmj
      obtain rfl := Option.some.inj hmj
      exact hob _ K
    · exact Ob.keep K ob (fun hl => hot _ (hblk hne h1 hl hmj)) (h.ob j ob mb' h1 hmj)
  · intro i j x y a b hi hj lx ly ha hb e
    rcases og hi with ⟨rfl, rfl⟩ | ⟨n1, g1⟩
    · rw [hm] at ha
      obtain rfl := Option.some.inj ha
      rcases og hj with ⟨rfl, rfl⟩ | ⟨n2, g2⟩
      · rfl
      · exact (hblk n2 g2 ly hb e.symm).elim
    · rcases og hj with ⟨rfl, rfl⟩ | ⟨n2, g2⟩
      · rw [hm] at hb
        obtain rfl := Option.some.inj hb
        exact (hblk n1 g1 lx ha e).elim
      · exact h.inj i j x y a b g1 g2 lx ly ha hb e
  · intro p rg j x mb' hp hj hl hmj
    rcases og hj with ⟨rfl, rfl⟩ | ⟨n1, g1⟩
    · rw [hm] at hmj
      obtain rfl := Option.some.inj hmj
      exact h.rob p rg _ _ mb (hsub p rg hp) ho hl0 hm
    · exact h.rob p rg j x mb' (hsub p rg hp) g1 hl hmj
  · intro p sz' rows' v hlf hv
    have oa : ∀ {p : Pl} {n : Nat} {v : Value}, OwnAt w (reg p) sz' n v → (∀ r, reg p = some r → r.blk ≠ mb.blk) → OwnAt w' (reg p) sz' n v := by
      rintro p n v ⟨a, cap', h1, h2⟩ hr
      refine ⟨a, cap', h1, fun hn => ?_⟩
      obtain ⟨blk', off', lo', c1, e1, q1, q2, q3, q4, q5⟩ := h2 hn
      refine ⟨blk', off', lo', c1, e1, q1, q2, q3, ?_, q5⟩
      rw [hot _ (hr _ q2)]; exact q4
    have hrb : ∀ {p : Pl} r, reg p = some r → r.blk ≠ mb.blk := fun r hr e => h.rob _ r id _ mb hr ho hl0 hm e.symm
    cases p with
    | t k => exact oa (h.own (.t k) sz' rows' v hlf hv) (fun r hr => hrb r hr)
    | o j r c =>
      simp only [leaf] at hlf
      cases hoj : (o.set id x1)[j]? with
      | none => rw [hoj] at hlf; simp at hlf
      | some x =>
        rw [hoj] at hlf
        rcases og hoj with ⟨rfl, rfl⟩ | ⟨n1, g1⟩
        · exact (hno r c sz' rows' (by simp only [leaf, List.getElem?_cons_zero]; exact hlf)).elim
        · have l1 := (List.getElem?_eq_some_iff.1 g1).1
          have hreg : regDrop reg id o.length (.o j r c) = reg (.o j r c) := by simp only [regDrop]; rw [if_neg (by rintro (e | e) <;> omega)]
          rw [hreg]
          have hleaf : leaf t o (.o j r c) = some (.own sz' rows') := by simp only [leaf, g1]; exact hlf
          refine oa (h.own _ sz' rows' v hleaf ?_) (fun r hr => hrb r hr)
          have hlive : x.live := by
            cases x with
            | cells => trivial
            | mapo => trivial
            | _ => simp at hlf
          obtain ⟨mb', hmb'⟩ := h.mget g1
          simp only [valAt] at hv ⊢
          rw [hmb'] at hv ⊢
          simp only [Option.bind_some] at hv ⊢
          unfold World.cell? at hv ⊢
          rw [hot _ (hblk n1 g1 hlive hmb')] at hv
          exact hv
end
/-- The end of a function that turns or makes objects: all of them are handed back. -/
theorem endQ_all {P : Program} {rs : List ResultVar} {no : Nat} {R : AV → List Ob → Prop} {s : St} {r r' : AV} (h1 : resAV P rs s = some r) (h2 : Le r r') (hno : no ≤ s.o.length) (hok : okO s.o = true) (hr : r'.ltk s.o.length = true) (hR : R r' s.o) : endQ P rs no R .ret s :=
  ⟨r, r', s.o.length, h1, h2, hno, Nat.le_refl _, by rw [List.take_length]; exact hok, hr, by rw [List.take_length]; exact hR⟩
theorem endQ_alln {P : Program} {rs : List ResultVar} {no : Nat} {R : AV → List Ob → Prop} {s : St} {r r' : AV} (h1 : resAV P rs s = some r) (h2 : Le r r') (hno : no ≤ s.o.length) (hok : okO s.o = true) (hr : r'.ltk s.o.length = true) (hR : R r' s.o) : endQ P rs no R .normal s :=
  ⟨r, r', s.o.length, h1, h2, hno, Nat.le_refl _, by rw [List.take_length]; exact hok, hr, by rw [List.take_length]; exact hR⟩
/-- Where ways meet, seen from the first part. -/
theorem W_joinS {P : Program} {n : Nat} {Q : Exit → St → Prop} {x y : Code} (lo hi : Nat) (L : List Nat) (I : (Nat → AV) → List Ob → Prop) {t0 : Nat → AV} {o0 : List Ob} (h : W P n x (joinQ lo hi L t0 I Q) ⟨mix lo hi L t0 t0, o0⟩)
    (h2 : ∀ t o, I t o → W P n y Q ⟨mix lo hi L t t0, o⟩) : W P n x (seqQ P n y Q) ⟨t0, o0⟩ := by
  rw [mix_self] at h
  refine h.mono ?_
  intro e s k
  cases e with
  | normal =>
    obtain ⟨t', h1, h3⟩ := k
    have := h2 t' s.o h3
    rw [← h1] at this
    exact this
  | _ => exact k
theorem putRow_heap (enc : Int → Value) (w : World) (blk off : Nat) (d : Array Int) (b : Nat) : (Go.Sort.putRow enc w blk off d).heap[b]? = if blk = b then (w.heap[b]?).map (Go.Sort.onCells (Go.Sort.putCells enc off d)) else w.heap[b]? := by
  unfold Go.Sort.putRow Go.Sort.mapBlock
  simp only [Array.getElem?_modify]
theorem putCells_get (enc : Int → Value) (off : Nat) (d : Array Int) (c : Array Value) (k : Nat) : (Go.Sort.putCells enc off d c)[k]? = (c[k]?).map fun x => if off ≤ k ∧ k < off + d.size then enc d[k - off]! else x := by
  unfold Go.Sort.putCells
  rw [Array.getElem?_mapIdx]
theorem putCells_at (enc : Int → Value) (off : Nat) (d : Array Int) (c : Array Value) (r : Nat) (h1 : r < d.size) (h2 : off + r < c.size) : (Go.Sort.putCells enc off d c)[off + r]? = some (enc d[r]!) := by
  rw [putCells_get, Array.getElem?_eq_getElem h2]
  simp only [Option.map_some]
  rw [if_pos (by omega), Nat.add_sub_cancel_left]
/-- A call that turns the cells of a slice in place, and returns a value that speaks of nothing but that slice. -/
theorem ACalls_inplace {P : Program} {f : FuncId} {oc : List Ob} {id : Nat} {l l' : List Int} {r : AV} (hok : callOk P f = true) (ho : oc[id]? = some (.cells 1 (l.map fun x => [.i .i64 x]))) (hn : 0 < l.length) (hll : l'.length = l.length) (hr0 : r.isOwn = false) (rv : Nat → Nat → Nat → Value)
    (hV : ∀ (w : World) (Y : CS) (m : List MB) (mb : MB) (cap : Nat), m[id]? = some mb → l.length ≤ cap → cap ≤ mb.lim → cap ≤ maxLen → V w Y m r (rv mb.blk mb.base cap))
    (h : ∀ (w : World) (blk off cap : Nat), Go.Sort.Holds (Value.int .i64) w blk off l.toArray → blk < w.heap.size → l.length ≤ cap → cap ≤ maxLen → Calls P f #[.slice (some ⟨blk, off, none⟩) l.length cap] w fun e w' =>
      e = .returned (rv blk off cap) ∧ ∃ n os, w' = Go.Sort.grow (Go.Sort.putRow (Value.int .i64) (Go.Sort.ahead w n) blk off l'.toArray) os) :
    ACalls P f [.ref id 0 l.length] oc fun r' o' => r' = r ∧ o' = oc.set id (.cells 1 (l'.map fun x => [.i .i64 x])) := by
  refine ⟨hok, fun w Z m reg vs hlen hrel => ?_⟩
  obtain ⟨v0, rfl⟩ : ∃ v, vs = [v] := by
    match vs, hlen with
    | [v], _ => exact ⟨v, rfl⟩
  have tv0 : V w (YS Z m reg oc) m (.ref id 0 l.length) v0 := hrel.tv 0
  simp only [V] at tv0
  obtain ⟨mb, a, cap, hm, rfl, hc1, hc2, hc3⟩ := tv0
  have hob := hrel.ob id _ mb ho hm
  obtain ⟨hsz, ⟨c, e, hheap, hfit, hrl⟩, hrow, hcell⟩ := hob
  rcases hc3 with ⟨h0, _⟩ | ⟨rfl, hlim⟩
  · omega
  simp only [Nat.zero_mul, Nat.add_zero]
  rw [Nat.zero_add] at hlim
  have hcj : ∀ j (hj : j < l.length), w.cell? ⟨mb.blk, mb.base + j, none⟩ = some (.int .i64 l[j]) := by
    intro j hj
    obtain ⟨v, h1, h2⟩ := hcell j [.i .i64 l[j]] 0 (.i .i64 l[j]) (by simp [hj]) rfl
    simp only [V] at h2
    subst h2
    rw [← h1]; congr 2; omega
  have hH : Go.Sort.Holds (Value.int .i64) w mb.blk mb.base l.toArray := by
    intro j hj
    have hj' : j < l.length := by simpa using hj
    refine ⟨by rw [hcj j hj']; simp [hj'], ?_⟩
    unfold World.frozen?
    rw [hheap]
    simp
  have hlt : mb.blk < w.heap.size := hrel.blk ho trivial hm
  refine Calls.mono (h w mb.blk mb.base cap hH hlt hc1 hc2) ?_
  rintro e' w' ⟨rfl, n, os, rfl⟩
  have hhp : ∀ b, (Go.Sort.putRow (Value.int .i64) (Go.Sort.ahead w n) mb.blk mb.base l'.toArray).heap[b]? = if mb.blk = b then (w.heap[b]?).map (Go.Sort.onCells (Go.Sort.putCells (Value.int .i64) mb.base l'.toArray)) else w.heap[b]? := fun b => putRow_heap _ _ _ _ _ b
  have hsize : (Go.Sort.putRow (Value.int .i64) (Go.Sort.ahead w n) mb.blk mb.base l'.toArray).heap.size = w.heap.size := by
    unfold Go.Sort.putRow Go.Sort.mapBlock
    simp [Go.Sort.ahead]
  have hcs : mb.base + l'.length ≤ c.size := by simp at hrl; omega
  obtain ⟨R1, E1, X1⟩ := hrel.objSet (w' := Go.Sort.putRow (Value.int .i64) (Go.Sort.ahead w n) mb.blk mb.base l'.toArray) ho trivial hm rfl rfl rfl hsize (fun b hb => by rw [hhp, if_neg (fun e => hb e.symm)])
    (.cells 1 (l'.map fun x => [.i .i64 x])) trivial (fun Y' K => by
      refine ⟨hsz, ⟨_, e, by rw [hhp, if_pos rfl, hheap]; rfl, by simpa [Go.Sort.putCells] using hfit, by simpa [hll] using hrl⟩, fun r row hr => ?_, fun r row k av hr hk => ?_⟩
      · rw [List.getElem?_map] at hr
        cases hq : l'[r]? with
        | none => rw [hq] at hr; cases hr
        | some x => rw [hq] at hr; simp at hr; subst hr; rfl
      · rw [List.getElem?_map] at hr
        cases hq : l'[r]? with
        | none => rw [hq] at hr; cases hr
        | some x =>
          rw [hq] at hr
          simp at hr
          subst hr
          have hrl' := (List.getElem?_eq_some_iff.1 hq).1
          cases k with
          | succ k => simp at hk
          | zero =>
            simp at hk
            subst hk
            refine ⟨.int .i64 x, ?_, by simp only [V]⟩
            unfold World.cell?
            rw [hhp, if_pos rfl, hheap]
            simp only [Option.map_some, Go.Sort.onCells]
            have e2 : l'[r] = x := (List.getElem?_eq_some_iff.1 hq).2
            have e3 := putCells_at (Value.int .i64) mb.base l'.toArray c r (by simpa using hrl') (by omega)
            rw [show mb.base + r * 1 + 0 = mb.base + r by omega]
            rw [e3]
            simp [hrl', e2])
    (fun r k sz rows hlf => by
      simp only [leaf, List.getElem?_cons_zero, List.getElem?_map] at hlf
      cases hq : l'[r]? with
      | none => rw [hq] at hlf; simp at hlf
      | some x =>
        rw [hq] at hlf
        cases k with
        | zero => simp at hlf
        | succ k => simp at hlf)
  have G : Grow (Go.Sort.putRow (Value.int .i64) (Go.Sort.ahead w n) mb.blk mb.base l'.toArray) (Go.Sort.grow (Go.Sort.putRow (Value.int .i64) (Go.Sort.ahead w n) mb.blk mb.base l'.toArray) os) := by
    refine ⟨rfl, rfl, rfl, by simp [Go.Sort.grow], fun b hb => ?_⟩
    unfold Go.Sort.grow
    simp only
    rw [Array.getElem?_append_left hb]
  have R2 := R1.grow G
  have R3 := R2.put 1 (hV _ _ m mb cap hm hc1 hlim hc2) (.inl hr0)
  obtain ⟨R4, X4⟩ := R3.one 1
  simp only [upd, if_true] at R4
  refine ⟨rv mb.blk mb.base cap, r, _, m, _, rfl, ⟨rfl, rfl⟩, R4, ?_, ?_, fun _ _ h => h⟩
  · exact E1.trans (G.evol (fun _ _ => False)) (fun _ _ h => h.elim)
  · intro b x hb
    have h4 := X4 b x hb
    left
    refine X1 b x ?_
    rcases h4 with h4 | ⟨p, rg, h1, h2⟩
    · exact .inl h4
    · refine .inr ⟨p, rg, ?_, h2⟩
      simp only at h1
      by_cases hp : p = .t 1
      · rw [if_pos hp] at h1; cases h1
      · rw [if_neg hp] at h1; exact h1
end Go.AW
/-
Objects that become data; slots of which only some are known.
-/
namespace Go.AW
open Go Go.Proofs TyTry Go.IntWalk
set_option linter.unusedSimpArgs false
set_option linter.unusedVariables false
set_option maxRecDepth 10000

mutual
theorem unref_ltk {id sz : Nat} {rows : List (List AV)} {k : Nat} (hk : k ≤ id) : ∀ (a : AV), a.ltk k = true → a.unref id sz rows = a
  | .ref j _ _, h => by
    simp only [AV.ltk, decide_eq_true_eq] at h
    simp only [AV.unref]
    rw [if_neg]
    omega
  | .fn _ l, h => by simp only [AV.ltk] at h; simp only [AV.unref, unrefs_ltk hk l h]
  | .agg l, h => by simp only [AV.ltk] at h; simp only [AV.unref, unrefs_ltk hk l h]
  | .tup l, h => by simp only [AV.ltk] at h; simp only [AV.unref, unrefs_ltk hk l h]
  | .ifc _ v, h => by simp only [AV.ltk] at h; simp only [AV.unref, unref_ltk hk v h]
  | .gd _ v, h => by simp only [AV.ltk] at h; simp only [AV.unref, unref_ltk hk v h]
  | .any, _ | .b _, _ | .i _ _, _ | .s _, _ | .sl _ _, _ | .own _ _, _ | .ep _ _, _ | .nilp, _ | .nilm, _ | .nsl, _ | .esl, _ | .nilf, _ | .nili, _ | .ptr _ _ _, _ | .mp _, _ => rfl
theorem unrefs_ltk {id sz : Nat} {rows : List (List AV)} {k : Nat} (hk : k ≤ id) : ∀ (l : List AV), AV.ltks k l = true → AV.unrefs id sz rows l = l
  | [], _ => rfl
  | a :: l, h => by
    simp only [AV.ltks, Bool.and_eq_true] at h
    simp only [AV.unrefs, unref_ltk hk a h.1, unrefs_ltk hk l h.2]
end
theorem Ob.unref_ltk {id sz : Nat} {rows : List (List AV)} {k : Nat} (hk : k ≤ id) (x : Ob) (h : x.ltk k = true) : x.unref id sz rows = x := by
  cases x with
  | cells s rs =>
    simp only [Ob.ltk, List.all_eq_true] at h
    simp only [Ob.unref, Ob.cells.injEq, true_and]
    conv => rhs; rw [← List.map_id rs]
    refine List.map_congr_left fun r hr => ?_
    conv => rhs; rw [show (_root_.id r) = r from rfl, ← List.map_id r]
    exact List.map_congr_left fun a ha => AW.unref_ltk hk a (h r hr a ha)
  | mapo es =>
    simp only [Ob.ltk, List.all_eq_true, Bool.and_eq_true] at h
    simp only [Ob.unref, Ob.mapo.injEq]
    conv => rhs; rw [← List.map_id es]
    refine List.map_congr_left fun x hx => ?_
    rw [AW.unref_ltk hk _ (h x hx).1, AW.unref_ltk hk _ (h x hx).2]; rfl
  | _ => rfl
/-- The first objects stay as they are where one that came later becomes data. -/
theorem fr_take {oc o : List Ob} (hoc : okO oc = true) (hp : ∀ (k : Nat) (x : Ob), oc[k]? = some x → o[k]? = some x) {id sz : Nat} {rows : List (List AV)} (hid : oc.length ≤ id) {x : Ob} {k : Nat} (h : oc[k]? = some x) :
    ((o.set id (.frz sz rows)).map (Ob.unref id sz rows))[k]? = some x := by
  have hlt := (List.getElem?_eq_some_iff.1 h).1
  have hx := hp k x h
  rw [List.getElem?_map, List.getElem?_set_ne (by omega), hx]
  simp only [Option.map_some, Option.some.injEq]
  refine Ob.unref_ltk hid x ?_
  unfold okO at hoc
  rw [List.all_eq_true] at hoc
  exact hoc x (List.mem_of_getElem? h)
theorem take_of_pre {oc o : List Ob} (hp : ∀ (k : Nat) (x : Ob), oc[k]? = some x → o[k]? = some x) : ∃ ex, o = oc ++ ex := by
  refine ⟨o.drop oc.length, ?_⟩
  apply List.ext_getElem?
  intro k
  by_cases hk : k < oc.length
  · rw [List.getElem?_append_left hk]
    rw [hp k oc[k] (List.getElem?_eq_getElem hk), List.getElem?_eq_getElem hk]
  · rw [List.getElem?_append_right (by omega), List.getElem?_drop]
    congr 1
    omega
theorem ints_set (l : List Int) (p : Nat) (b : Int) : (ints l).modify p (fun row => row.set 0 (.i .i64 b)) = ints (l.set p b) := by
  apply List.ext_getElem?
  intro i
  simp only [ints, List.getElem?_modify, List.getElem?_map, List.getElem?_set]
  by_cases hi : p = i
  · subst hi
    cases h : l[p]? with
    | none => have := List.getElem?_eq_none_iff.1 h; simp; omega
    | some x => have := (List.getElem?_eq_some_iff.1 h).1; simp [this]
  · simp [hi]
theorem ints_ltk (l : List Int) (k : Nat) : (Ob.cells 1 (ints l)).ltk k = true := by
  simp [Ob.ltk, ints, AV.ltk]
/-- An object that came last becomes data: nothing else changes but the slots. -/
theorem frS_last {o : List Ob} {t : Nat → AV} {rows : List (List AV)} (ho : okO o = true) (hd : rows.map (fun r => r.map AV.dat) = rows) :
    frS o.length 1 rows ⟨t, o ++ [.cells 1 rows]⟩ = ⟨fun k => (t k).unref o.length 1 rows, o ++ [.frz 1 rows]⟩ := by
  simp only [frS, hd, app_set, List.map_append, List.map_cons, List.map_nil, Ob.unref, St.mk.injEq, true_and]
  congr 1
  conv => rhs; rw [← List.map_id o]
  refine List.map_congr_left fun x hx => ?_
  unfold okO at ho
  rw [List.all_eq_true] at ho
  exact Ob.unref_ltk (Nat.le_refl _) x (ho x hx)
theorem unref_mix (lo hi : Nat) (L : List Nat) (t t0 : Nat → AV) (id sz : Nat) (rows : List (List AV)) :
    (fun k => (mix lo hi L t t0 k).unref id sz rows) = mix lo hi L (fun k => (t k).unref id sz rows) (fun k => (t0 k).unref id sz rows) := by
  funext k
  simp only [mix]
  split <;> rfl
theorem unref_upd (t : Nat → AV) (j : Nat) (v : AV) (id sz : Nat) (rows : List (List AV)) :
    (fun k => (upd t j v k).unref id sz rows) = upd (fun k => (t k).unref id sz rows) j (v.unref id sz rows) := by
  funext k
  simp only [upd]
  split <;> rfl
/-- Slots, of which only some are known. -/
def tab (l : List (Nat × AV)) : Nat → AV := fun k => match l.find? (fun x => x.1 == k) with | some x => x.2 | none => .any
theorem tab_le {t : Nat → AV} {l : List (Nat × AV)} (h : ∀ x ∈ l, t x.1 = x.2) (k : Nat) : Le (t k) (tab l k) := by
  unfold tab
  cases hf : l.find? (fun x => x.1 == k) with
  | none => exact Le.any _
  | some x =>
    have h1 := List.find?_some hf
    have h2 := List.mem_of_find?_eq_some hf
    simp only [beq_iff_eq] at h1
    rw [← h1, h x h2]
    exact Le.refl _
theorem tab_unref {l : List (Nat × AV)} {id sz : Nat} {rows : List (List AV)} (h : ∀ x ∈ l, x.2.unref id sz rows = x.2) : (fun k => (tab l k).unref id sz rows) = tab l := by
  funext k
  unfold tab
  cases hf : l.find? (fun x => x.1 == k) with
  | none => rfl
  | some x => exact h x (List.mem_of_find?_eq_some hf)
@[go_sem] theorem tab_cons (j : Nat) (v : AV) (l : List (Nat × AV)) (k : Nat) : tab ((j, v) :: l) k = if j = k then v else tab l k := by
  unfold tab
  rw [List.find?_cons]
  by_cases h : j = k
  · simp [h]
  · have : (j == k) = false := by simpa using h
    simp [h, this]
@[go_sem] theorem tab_nil (k : Nat) : tab [] k = .any := rfl
theorem tab_mix {t : Nat → AV} {lo hi : Nat} {L : List Nat} {l l0 : List (Nat × AV)} (h : ∀ x ∈ l, t x.1 = x.2) (h0 : ∀ x ∈ l0, t x.1 = x.2) (k : Nat) : Le (t k) (mix lo hi L (tab l) (tab l0) k) := by
  simp only [mix]
  split
  · exact tab_le h k
  · exact tab_le h0 k
theorem W_forM {P : Program} {n : Nat} {Q : Exit → St → Prop} {c : Code} (lo hi : Nat) (L : List Nat) (I : Nat → (Nat → AV) → List Ob → Prop) (m : Nat) {t1 t0 : Nat → AV} {o0 : List Ob} (h0 : I m t1 o0)
    (round : ∀ m t o, I m t o → W P n c (forQ lo hi L t0 I m Q) ⟨mix lo hi L t t0, o⟩) : W P n (.loop c) Q ⟨mix lo hi L t1 t0, o0⟩ := by
  refine W_while (fun m s => ∃ t, s.t = mix lo hi L t t0 ∧ I m t s.o) m ⟨t1, rfl, h0⟩ ?_
  rintro m ⟨ts, o⟩ ⟨t, ht, hI⟩
  simp only at ht
  subst ht
  refine (round m t o hI).mono ?_
  intro e s h
  cases e with
  | normal =>
    obtain ⟨m', t', h1, h2, h3⟩ := h
    exact ⟨m', h1, t', h2, h3⟩
  | _ => exact h
end Go.AW
/-
Contracts: slices.Sort, slices.Compact and slices.Clone as abstract calls.
-/
namespace Go.AW
open Go Go.Proofs TyTry Go.IntWalk
set_option linter.unusedSimpArgs false
set_option linter.unusedVariables false
set_option maxRecDepth 10000

def sortI (l : List Int) : List Int := l.mergeSort fun x y => decide (x ≤ y)
theorem sortI_len (l : List Int) : (sortI l).length = l.length := List.length_mergeSort _
theorem sortI_mem (l : List Int) (x : Int) : x ∈ sortI l ↔ x ∈ l := List.mem_mergeSort
theorem compact_mem (zs : List Int) (x : Int) : x ∈ Lib.compact zs ↔ x ∈ zs := by
  have key : ∀ m ≤ zs.length, (x ∈ Lib.compactUpTo zs.toArray m ↔ x ∈ zs.take m) := by
    intro m
    induction m with
    | zero => intro _; simp [Lib.compactUpTo]
    | succ m ih =>
      intro hm
      have ih := ih (by omega)
      have hlt : m < zs.length := by omega
      have hget : zs.toArray[m]! = zs[m] := by simp [hlt]
      rw [Lib.compactUpTo_succ, List.mem_append, ih, List.take_succ_eq_append_getElem hlt, List.mem_append]
      by_cases hk : Lib.keeps zs.toArray m = true
      · rw [if_pos hk, hget]
      · rw [if_neg hk]
        simp only [List.not_mem_nil, or_false, List.mem_singleton]
        refine ⟨.inl, fun h => h.elim id fun h => ?_⟩
        have h0 : 0 < m := by
          rcases Nat.eq_zero_or_pos m with h0 | h0
          · exact absurd (Lib.keeps_lt_one zs.toArray m (by omega)) hk
          · exact h0
        have he : zs.toArray[m]! = zs.toArray[m - 1]! := Classical.byContradiction fun hne => hk (Lib.keeps_pos hne)
        rw [hget] at he
        have hget1 : zs.toArray[m - 1]! = zs[m - 1]'(by omega) := by
          have : m - 1 < zs.length := by omega
          simp [this]
        rw [hget1] at he
        subst h
        rw [he]
        exact List.mem_take_iff_getElem.2 ⟨m - 1, by omega, rfl⟩
  have := key zs.length (Nat.le_refl _)
  rw [List.take_length] at this
  exact this
theorem compact_len (zs : List Int) : (Lib.compact zs).length ≤ zs.length := by
  unfold Lib.compact Lib.compactUpTo
  rw [List.length_map]
  exact Nat.le_trans (List.length_filter_le _ _) (by simp)
/-- A call of one argument that brings plain data and makes nothing else but new blocks. -/
theorem ACallsD_of {P : Program} {f : FuncId} {a r : AV} (hok : callOk P f = true) (hr : r.isOwn = false) (h : ∀ (w : World) (Y : CS) (v : Value), V w Y [] a v → Calls P f #[v] w fun e w' => ∃ v', e = .returned v' ∧ Grow w w' ∧ ∀ Y', V w' Y' [] r v') : ACallsD P f [a] r := by
  refine ⟨hok, fun w Z m reg vs hlen hrel => ?_⟩
  obtain ⟨v0, rfl⟩ : ∃ v, vs = [v] := by
    match vs, hlen with
    | [v], _ => exact ⟨v, rfl⟩
  have hm0 : m = [] := by have := hrel.len; simpa using this
  subst hm0
  have tv0 : V w (YS Z [] reg []) [] a v0 := hrel.tv 0
  refine Calls.mono (h w _ v0 tv0) ?_
  rintro e' w' ⟨v', rfl, G, hV⟩
  have R3 := (hrel.grow G).put 1 (hV _) (.inl hr)
  obtain ⟨R4, X4⟩ := R3.one 1
  simp only [upd, if_true] at R4
  refine ⟨v', r, [], [], _, rfl, ⟨rfl, rfl⟩, R4, G.evol _, ?_, fun _ _ h => h⟩
  intro b x hb
  have h4 := X4 b x hb
  left
  rcases h4 with h4 | ⟨p, rg, h1, h2⟩
  · exact .inl h4
  · refine .inr ⟨p, rg, ?_, h2⟩
    simp only at h1
    by_cases hp : p = .t 1
    · rw [if_pos hp] at h1; cases h1
    · rw [if_neg hp] at h1; exact h1
theorem sort_spec {oc : List Ob} {id : Nat} {l : List Int} (ho : oc[id]? = some (.cells 1 (ints l))) (hn : 0 < l.length) (hl : l.length ≤ 1099511627776) :
    ACalls Try.prog 80 [.ref id 0 l.length] oc fun r o' => r = .tup [] ∧ o' = oc.set id (.cells 1 (ints (sortI l))) := by
  refine ACalls_inplace (by decide +kernel) ho hn (sortI_len l) rfl (fun _ _ _ => .tuple #[]) (fun w Y m mb cap _ _ _ _ => by simp [V, Vs]) ?_
  intro w blk off cap hH hb _ _
  exact Try.slices_Sort_int blk off cap l w hH hb (by omega)
theorem compact_spec {oc : List Ob} {id : Nat} {l : List Int} (ho : oc[id]? = some (.cells 1 (ints l))) (hn : 0 < l.length) (hl : l.length ≤ 1099511627776) :
    ACalls Try.prog 81 [.ref id 0 l.length] oc fun r o' => r = .ref id 0 (Lib.compact l).length ∧ o' = oc.set id (.cells 1 (ints (Lib.compact l ++ List.replicate (l.length - (Lib.compact l).length) 0))) := by
  have hcl := compact_len l
  refine ACalls_inplace (by decide +kernel) ho hn (by simp; omega) rfl (fun blk off cap => .slice (some ⟨blk, off, none⟩) (Lib.compact l).length cap) (fun w Y m mb cap hm h1 h2 h3 => ?_) ?_
  · simp only [V]
    refine ⟨mb, _, cap, hm, rfl, by omega, h3, .inr ⟨by simp, by omega⟩⟩
  intro w blk off cap hH hb hc _
  refine Calls.mono (Try.slices_Compact_int blk off cap l w hH (by omega) hc) ?_
  rintro e w' ⟨rfl, q, rfl⟩
  exact ⟨rfl, q, #[], by simp⟩
theorem clone0_spec : ACallsD Try.prog 79 [.sl 1 []] (.sl 1 []) := by
  refine ACallsD_of (by decide +kernel) rfl fun w Y v hv => ?_
  simp only [V] at hv
  obtain ⟨a, cap, rfl, _, _, _⟩ := hv
  cases a with
  | none =>
    refine Calls.mono (Try.slices_Clone_int_nil 0 cap w) ?_
    rintro e w' ⟨rfl, rfl⟩
    exact ⟨_, rfl, Grow.refl _, fun Y' => by simp only [V]; exact ⟨none, 0, rfl, Nat.le_refl _, Nat.zero_le _, .inl trivial⟩⟩
  | some a =>
    refine Calls.mono (Try.slices_Clone_int_zero a cap w) ?_
    rintro e w' ⟨v', rfl, hown, _, hb⟩
    refine ⟨_, rfl, ⟨hb.os, hb.tape, hb.output, hb.size, hb.block⟩, fun Y' => ?_⟩
    obtain ⟨_, ⟨rfl, _⟩ | ⟨g, cap', cur, rfl, _, _, h3, h4, _⟩⟩ := hown
    · simp only [V]; exact ⟨none, 0, rfl, Nat.le_refl _, Nat.zero_le _, .inl trivial⟩
    · simp only [V]; exact ⟨_, cap', rfl, h3, h4, .inl trivial⟩
/-- A copy of a list that is not empty: an object of its own. -/
theorem clone_spec {oc : List Ob} (hoc : okO oc = true) {l : List Int} (hn : 0 < l.length) (hl : l.length ≤ 1048576) :
    ACalls Try.prog 79 [.sl 1 (ints l)] oc fun r o' => r = .ref oc.length 0 l.length ∧ o' = oc ++ [.cells 1 (ints l)] := by
  refine ACalls_of' (n := 8) (rs := [.tmp 2]) (show Try.prog.funcs[79]? = some Try.f79 by kernel_rfl) rfl rfl rfl (by simp) (by decide +kernel) ?_
  repeat (first | refine nav ?_ | refine bo ?_)
  (refine wr fun K R hK hR => ?_; simp (maxSteps := 10000000) only [go_sem]; (try go_ints); (repeat refine And.intro side ?_); (first | refine hK _ ?_ | refine hR _ _ ?_); clear hK hR K R)
  repeat (first | refine nav ?_ | refine bo ?_)
  (refine wr fun K R hK hR => ?_; simp (maxSteps := 10000000) only [go_sem, hn]; (try go_ints); (try simp only [go_sem, hn]); (repeat refine And.intro side ?_); (first | refine hK _ ?_ | refine hR _ _ ?_); clear hK hR K R)
  repeat (first | refine nav ?_ | refine bo ?_)
  refine W_cond (b := false) (by simp only [go_sem]) (fun hb => by cases hb) (fun _ => ?_)
  repeat (first | refine nav ?_ | refine bo ?_)
  (refine W_reg [1000000] fun K R hK hR => ?_; simp (maxSteps := 10000000) only [go_sem, hn]; (try go_ints); (repeat refine And.intro (by first | exact side | (simp [ints] <;> omega)) ?_); (first | refine hK _ ?_ | refine hR _ _ ?_); clear hK hR K R)
  repeat (first | refine nav ?_ | refine bo ?_)
  refine endQ_all (by simp only [go_sem] <;> exact rfl) (Le.refl _) (by simp) (okO_app hoc (by simp [Ob.ltk, ints, AV.ltk])) (by simp [AV.ltk]) ⟨rfl, rfl⟩
end Go.AW
/-
The search for models: what it holds, in plain words.
-/
namespace Go.AW
open Go Go.Proofs TyTry Go.IntWalk
set_option linter.unusedSimpArgs false
set_option linter.unusedVariables false

theorem getD_of2 {α : Type} {l : List α} {j : Nat} {z d : α} (h : l[j]? = some z) : l.getD j d = z := by simp [h]
/-- A literal over so many variables. -/
def LitOk (n : Nat) (x : Int) : Prop := x ≠ 0 ∧ x ≤ n ∧ -(n : Int) ≤ x
/-- The literals that are true: each once, none with its opposite. -/
structure TrOk (n : Nat) (tr : List Int) : Prop where
  nd : tr.Nodup
  lit : ∀ x ∈ tr, LitOk n x
  opp : ∀ x ∈ tr, -x ∉ tr
def innOf (list : List (List Int)) (x : Int) : List Int := (List.range list.length).flatMap fun i => List.replicate ((list.getD i []).count x) (i : Int)
def leftOf (list : List (List Int)) (tr : List Int) (i : Nat) : Nat := ((list.getD i []).filter fun y => !(tr.contains (-y))).length
def goodOf (list : List (List Int)) (tr : List Int) (i : Nat) : Nat := ((list.getD i []).filter fun y => tr.contains y).length
def leftL (list : List (List Int)) (tr : List Int) : List Int := (List.range list.length).map fun i => (leftOf list tr i : Int)
def goodL (list : List (List Int)) (tr : List Int) : List Int := (List.range list.length).map fun i => (goodOf list tr i : Int)
def zeros (l : List Int) : Int := ((l.filter fun x => x == 0).length : Nat)
def valOf (tr : List Int) (v : Nat) : Int := if tr.contains ((v : Int) + 1) then 1 else if tr.contains (-((v : Int) + 1)) then -1 else 0
def valL (n : Nat) (tr : List Int) : List Int := (List.range n).map (valOf tr)
/-- 1: true; -1: false; 0: neither. -/
def isL (tr : List Int) (x : Int) : Int := if tr.contains x then 1 else if tr.contains (-x) then -1 else 0
theorem leftL_len (list : List (List Int)) (tr : List Int) : (leftL list tr).length = list.length := by simp [leftL]
theorem goodL_len (list : List (List Int)) (tr : List Int) : (goodL list tr).length = list.length := by simp [goodL]
theorem valL_len (n : Nat) (tr : List Int) : (valL n tr).length = n := by simp [valL]
theorem leftL_get {list : List (List Int)} {tr : List Int} {i : Nat} (h : i < list.length) : (leftL list tr)[i]? = some (leftOf list tr i : Int) := by simp [leftL, h]
theorem goodL_get {list : List (List Int)} {tr : List Int} {i : Nat} (h : i < list.length) : (goodL list tr)[i]? = some (goodOf list tr i : Int) := by simp [goodL, h]
theorem valL_get {n : Nat} {tr : List Int} {v : Nat} (h : v < n) : (valL n tr)[v]? = some (valOf tr v) := by simp [valL, h]
/-- Some places changed, each as often as it is named. -/
def bump (d : Int) (l : List Int) (is : List Int) : List Int := is.foldl (fun l i => l.modify i.toNat (· + d)) l
theorem bump_len (d : Int) (is : List Int) : ∀ l, (bump d l is).length = l.length := by
  induction is with
  | nil => intro l; rfl
  | cons i is ih => intro l; rw [bump, List.foldl_cons]; exact (ih _).trans (List.length_modify ..)
theorem bump_get (d : Int) : ∀ (is : List Int) (l : List Int) (j : Nat), (∀ i ∈ is, 0 ≤ i) → j < l.length → (bump d l is).getD j 0 = l.getD j 0 + d * (is.count (j : Int) : Nat)
  | [], l, j, _, _ => by simp [bump]
  | i :: is, l, j, h, hj => by
    rw [bump, List.foldl_cons]
    have ih := bump_get d is (l.modify i.toNat (· + d)) j (fun x hx => h x (by simp [hx])) (by rw [List.length_modify]; exact hj)
    rw [bump] at ih
    rw [ih, List.count_cons]
    have h0 := h i (by simp)
    have hm : (l.modify i.toNat (· + d)).getD j 0 = if i.toNat = j then l.getD j 0 + d else l.getD j 0 := by
      rw [List.getD_eq_getElem?_getD, List.getElem?_modify, List.getD_eq_getElem?_getD, List.getElem?_eq_getElem hj]
      by_cases e : i.toNat = j <;> simp [e]
    rw [hm]
    by_cases e : i = (j : Int)
    · have e2 : i.toNat = j := by omega
      have e3 : (i == (j : Int)) = true := by simpa using e
      rw [if_pos e2, e3]
      simp only [if_true, Int.natCast_add, Int.mul_add]
      omega
    · have e2 : i.toNat ≠ j := by omega
      have e3 : (i == (j : Int)) = false := by simpa using e
      rw [if_neg e2, e3]
      simp
theorem innOf_count (list : List (List Int)) (x : Int) (j : Nat) (hj : j < list.length) : (innOf list x).count (j : Int) = (list.getD j []).count x := by
  unfold innOf
  have key : ∀ m, j < m → ((List.range m).flatMap fun i => List.replicate ((list.getD i []).count x) (i : Int)).count (j : Int) = (list.getD j []).count x := by
    intro m
    induction m with
    | zero => intro h; omega
    | succ m ih =>
      intro h
      rw [List.range_succ, List.flatMap_append, List.count_append, List.flatMap_cons, List.flatMap_nil, List.append_nil, List.count_replicate]
      by_cases e : j = m
      · subst e
        have hz : ((List.range j).flatMap fun i => List.replicate ((list.getD i []).count x) (i : Int)).count (j : Int) = 0 := by
          rw [List.count_eq_zero]
          intro hm
          rw [List.mem_flatMap] at hm
          obtain ⟨i, hi, hr⟩ := hm
          have h1 := List.mem_range.1 hi
          have h2 := List.eq_of_mem_replicate hr
          omega
        rw [hz]; simp
      · rw [ih (by omega), if_neg (by simp; omega)]; rfl
  exact key _ hj
theorem innOf_mem {list : List (List Int)} {x i : Int} (h : i ∈ innOf list x) : ∃ j : Nat, i = j ∧ j < list.length ∧ x ∈ list.getD j [] := by
  unfold innOf at h
  rw [List.mem_flatMap] at h
  obtain ⟨j, hj, hr⟩ := h
  rw [List.mem_replicate] at hr
  exact ⟨j, hr.2, List.mem_range.1 hj, List.count_pos_iff.1 (Nat.pos_of_ne_zero hr.1)⟩
theorem mem_innOf {list : List (List Int)} {x : Int} {j : Nat} (hj : j < list.length) (h : x ∈ list.getD j []) : (j : Int) ∈ innOf list x := by
  unfold innOf
  rw [List.mem_flatMap]
  exact ⟨j, List.mem_range.2 hj, List.mem_replicate.2 ⟨by have := List.count_pos_iff.2 h; omega, rfl⟩⟩
theorem filter_app_count (p : Int → Bool) (x : Int) : ∀ l : List Int, p x = false → (l.filter fun y => p y || y == x).length = (l.filter p).length + l.count x
  | [], _ => rfl
  | y :: l, h => by
    rw [List.filter_cons, List.filter_cons, List.count_cons]
    have ih := filter_app_count p x l h
    by_cases e : y = x
    · subst e
      rw [h]
      simp only [Bool.false_or, beq_self_eq_true, if_true, List.length_cons, Bool.false_eq_true, if_false, ih]
      omega
    · have e' : (y == x) = false := by simpa using e
      rw [e', Bool.or_false]
      cases p y <;> simp [ih] <;> omega
theorem good_put {n : Nat} {list : List (List Int)} {tr : List Int} {x : Int} (hx : x ∉ tr) (j : Nat) : goodOf list (tr ++ [x]) j = goodOf list tr j + (list.getD j []).count x := by
  unfold goodOf
  rw [← filter_app_count _ _ _ (by simpa using hx)]
  congr 1
  refine List.filter_congr fun y _ => ?_
  by_cases e : y = x <;> simp [List.contains_eq_mem, e]
theorem left_put {list : List (List Int)} {tr : List Int} {x : Int} (hx : x ∉ tr) (j : Nat) : leftOf list (tr ++ [x]) j + (list.getD j []).count (-x) = leftOf list tr j := by
  unfold leftOf
  have h := filter_app_count (fun y => !((tr ++ [x]).contains (-y))) (-x) (list.getD j []) (by simp)
  rw [← h]
  congr 1
  refine List.filter_congr fun y _ => ?_
  have e : (y == -x) = (-y == x) := by
    rw [Bool.eq_iff_iff]; simp only [beq_iff_eq]; omega
  rw [e]
  simp only [List.contains_eq_mem, List.mem_append, List.mem_singleton]
  by_cases h1 : -y = x
  · subst h1
    simp [hx]
  · simp [h1]
theorem goodL_put {list : List (List Int)} {tr : List Int} {x : Int} (hx : x ∉ tr) : bump 1 (goodL list tr) (innOf list x) = goodL list (tr ++ [x]) := by
  apply List.ext_getElem?
  intro j
  by_cases hj : j < list.length
  · have h := bump_get 1 (innOf list x) (goodL list tr) j (fun i hi => by obtain ⟨k, rfl, _⟩ := innOf_mem hi; omega) (by rw [goodL_len]; exact hj)
    rw [innOf_count list x j hj, List.getD_eq_getElem?_getD, List.getD_eq_getElem?_getD, goodL_get hj] at h
    have hl : j < (bump 1 (goodL list tr) (innOf list x)).length := by rw [bump_len, goodL_len]; exact hj
    rw [goodL_get hj, good_put (n := 0) hx]
    rw [List.getElem?_eq_getElem hl] at h ⊢
    simp only [Option.getD_some] at h
    rw [h]; simp
  · rw [List.getElem?_eq_none (by rw [bump_len, goodL_len]; omega), List.getElem?_eq_none (by rw [goodL_len]; omega)]
theorem leftL_put {list : List (List Int)} {tr : List Int} {x : Int} (hx : x ∉ tr) : bump (-1) (leftL list tr) (innOf list (-x)) = leftL list (tr ++ [x]) := by
  apply List.ext_getElem?
  intro j
  by_cases hj : j < list.length
  · have h := bump_get (-1) (innOf list (-x)) (leftL list tr) j (fun i hi => by obtain ⟨k, rfl, _⟩ := innOf_mem hi; omega) (by rw [leftL_len]; exact hj)
    rw [innOf_count list (-x) j hj, List.getD_eq_getElem?_getD, List.getD_eq_getElem?_getD, leftL_get hj] at h
    have hl : j < (bump (-1) (leftL list tr) (innOf list (-x))).length := by rw [bump_len, leftL_len]; exact hj
    rw [leftL_get hj]
    rw [List.getElem?_eq_getElem hl] at h ⊢
    simp only [Option.getD_some] at h
    have := left_put (list := list) hx j
    rw [h]; congr 1; omega
  · rw [List.getElem?_eq_none (by rw [bump_len, leftL_len]; omega), List.getElem?_eq_none (by rw [leftL_len]; omega)]
theorem bump_app (d : Int) (l a b : List Int) : bump d l (a ++ b) = bump d (bump d l a) b := by simp [bump]
theorem bump_bump (d e : Int) (is : List Int) (l : List Int) (h : ∀ i ∈ is, 0 ≤ i) (hde : d + e = 0) : bump e (bump d l is) is = l := by
  apply List.ext_getElem?
  intro j
  by_cases hj : j < l.length
  · have h1 := bump_get d is l j h hj
    have h2 := bump_get e is (bump d l is) j h (by rw [bump_len]; exact hj)
    have hl : j < (bump e (bump d l is) is).length := by rw [bump_len, bump_len]; exact hj
    rw [h1] at h2
    rw [List.getElem?_eq_getElem hl, List.getElem?_eq_getElem hj]
    rw [List.getD_eq_getElem?_getD, List.getElem?_eq_getElem hl, List.getD_eq_getElem?_getD, List.getElem?_eq_getElem hj] at h2
    simp only [Option.getD_some] at h2
    rw [h2, Int.add_assoc, ← Int.add_mul, hde]; simp
  · rw [List.getElem?_eq_none (by rw [bump_len, bump_len]; omega), List.getElem?_eq_none (by omega)]
theorem zeros_cons (x : Int) (l : List Int) : zeros (x :: l) = zeros l + (if x = 0 then 1 else 0) := by
  unfold zeros
  rw [List.filter_cons]
  by_cases h : x = 0 <;> simp [h]
/-- Zeros, when a place grows or falls. -/
theorem zeros_modify : ∀ (l : List Int) (i : Nat) (v d : Int), l[i]? = some v → zeros (l.modify i (· + d)) = zeros l - (if v = 0 then 1 else 0) + (if v + d = 0 then 1 else 0)
  | [], i, v, d, h => by simp at h
  | x :: l, 0, v, d, h => by
    simp only [List.getElem?_cons_zero, Option.some.injEq] at h
    subst h
    rw [List.modify_zero_cons, zeros_cons, zeros_cons]
    omega
  | x :: l, i + 1, v, d, h => by
    have ih := zeros_modify l i v d (by simpa using h)
    rw [List.modify_succ_cons, zeros_cons, zeros_cons, ih]
    omega
theorem val_put {n : Nat} {tr : List Int} {x : Int} (hx : x ∉ tr) (hnx : -x ∉ tr) (hl : LitOk n x) : valL n (tr ++ [x]) = (valL n tr).set ((if x > 0 then x else -x) - 1).toNat (if x > 0 then 1 else -1) := by
  obtain ⟨h0, h1, h2⟩ := hl
  apply List.ext_getElem?
  intro j
  by_cases hj : j < n
  · rw [List.getElem?_set, valL_get hj, valL_get hj]
    by_cases hp : x > 0
    · rw [if_pos hp, if_pos hp]
      by_cases e : (x - 1).toNat = j
      · rw [if_pos e, if_pos (by rw [valL_len]; omega)]
        have : (j : Int) + 1 = x := by omega
        simp [valOf, this]
      · rw [if_neg e]
        have e1 : ¬ ((j : Int) + 1 = x) := by omega
        have e2 : ¬ (-((j : Int) + 1) = x) := by omega
        simp only [valOf, List.contains_eq_mem, List.mem_append, List.mem_singleton, e1, e2, or_false]
    · rw [if_neg hp, if_neg hp]
      by_cases e : (-x - 1).toNat = j
      · rw [if_pos e, if_pos (by rw [valL_len]; omega)]
        have e1 : -((j : Int) + 1) = x := by omega
        have e2 : ¬ ((j : Int) + 1 = x) := by omega
        have e3 : (j : Int) + 1 = -x := by omega
        have e4 : (j : Int) + 1 ∉ tr := by rw [e3]; exact hnx
        simp only [valOf, List.contains_eq_mem, List.mem_append, List.mem_singleton, e1, e2, e4, or_false]
        simp
      · rw [if_neg e]
        have e1 : ¬ ((j : Int) + 1 = x) := by omega
        have e2 : ¬ (-((j : Int) + 1) = x) := by omega
        simp only [valOf, List.contains_eq_mem, List.mem_append, List.mem_singleton, e1, e2, or_false]
  · rw [List.getElem?_eq_none (by rw [valL_len]; omega), List.getElem?_eq_none (by rw [List.length_set, valL_len]; omega)]
theorem val_undo {n : Nat} {tr : List Int} {x : Int} (hx : x ∉ tr) (hnx : -x ∉ tr) (hl : LitOk n x) : (valL n (tr ++ [x])).set ((if x > 0 then x else -x) - 1).toNat 0 = valL n tr := by
  rw [val_put hx hnx hl, List.set_set]
  obtain ⟨h0, h1, h2⟩ := hl
  have hz : ∀ k : Nat, k = ((if x > 0 then x else -x) - 1).toNat → valOf tr k = 0 := by
    rintro k rfl
    by_cases hp : x > 0
    · rw [if_pos hp]
      have e1 : (((x - 1).toNat : Nat) : Int) + 1 = x := by omega
      rw [valOf, e1]; simp [hx, hnx]
    · rw [if_neg hp]
      have e1 : (((-x - 1).toNat : Nat) : Int) + 1 = -x := by omega
      rw [valOf, e1]; simp [hx, hnx]
  generalize ((if x > 0 then x else -x) - 1).toNat = k at hz
  apply List.ext_getElem?
  intro j
  by_cases hj : j < n
  · rw [List.getElem?_set, valL_get hj]
    by_cases e : k = j
    · rw [if_pos e, if_pos (by rw [valL_len]; omega), hz j e.symm]
    · rw [if_neg e]
  · rw [List.getElem?_eq_none (by rw [List.length_set, valL_len]; omega), List.getElem?_eq_none (by rw [valL_len]; omega)]
theorem isL_val {tr : List Int} {v : Nat} : isL tr ((v : Int) + 1) = valOf tr v := rfl
theorem isL_neg {n : Nat} {tr : List Int} (h : TrOk n tr) {v : Nat} : isL tr (-((v : Int) + 1)) = -valOf tr v := by
  unfold isL valOf
  have e : -(-((v : Int) + 1)) = (v : Int) + 1 := by omega
  rw [e]
  by_cases h1 : (v : Int) + 1 ∈ tr
  · have h2 := h.opp _ h1
    simp [h1, h2]
  · by_cases h2 : -((v : Int) + 1) ∈ tr
    · simp [h1, h2]
    · simp [h1, h2]
end Go.AW
/-
The search for models: where it lies.
-/
namespace Go.AW
open Go Go.Proofs TyTry Go.IntWalk
set_option linter.unusedSimpArgs false
set_option linter.unusedVariables false
set_option maxRecDepth 10000

/-- The objects of a search. -/
structure IdS where
  M : Nat
  L : Nat
  G : Nat
  V : Nat
/-- What turns. -/
structure SV where
  left : List Int
  good : List Int
  opn : Int
  val : List Int
  tr : List Int
  br : Int
  md : AV
  cnt : Int
  exh : Bool
/-- What stays. -/
structure Env where
  vars : Nat
  list : List (List Int)
  first : Bool
  es : List (AV × AV)
  lav : AV
def rowK (c : Env) (d : IdS) (ta : AV) (s : SV) : List AV := [.i .i64 c.vars, c.lav, .mp d.M, .ref d.L 0 c.list.length, .ref d.G 0 c.list.length, .i .i64 s.opn, .ref d.V 0 c.vars, ta, .i .i64 s.br, .b c.first, s.md, .i .i64 s.cnt, .b s.exh]
structure EnvOk (c : Env) : Prop where
  vars : c.vars ≤ 20000
  list : c.list.length ≤ 20000
  lit : ∀ l ∈ c.list, ∀ x ∈ l, LitOk c.vars x
  sum : ∀ x, (innOf c.list x).length ≤ 200000
  len : ∀ l ∈ c.list, l.length ≤ 200000
  lav : c.lav = .own 1 (tups c.list) ∨ c.lav = .nsl ∧ c.list = []
def ivOf (es : List (AV × AV)) (x : Int) : AV := match mfind (.i .i64 x) es with | some (some v) => v | _ => .nsl
def InAt (o : List Ob) (d : IdS) (c : Env) (ta : AV) (x : Int) : Prop := (mfind (.i .i64 x) c.es = some none ∧ innOf c.list x = []) ∨
  ∃ I, mfind (.i .i64 x) c.es = some (some (.ref I 0 (innOf c.list x).length)) ∧ o[I]? = some (.cells 1 (ints (innOf c.list x))) ∧ I ≠ d.L ∧ I ≠ d.G ∧ I ≠ d.V ∧ ∀ T l, ta = .ref T 0 l → I ≠ T
structure RepG (o : List Ob) (K : Nat) (d : IdS) (c : Env) (ta : AV) (s : SV) : Prop where
  ok : okO o = true
  k : o[K]? = some (.cells 13 [rowK c d ta s])
  m : o[d.M]? = some (.mapo c.es)
  l : o[d.L]? = some (.cells 1 (ints s.left))
  g : o[d.G]? = some (.cells 1 (ints s.good))
  v : o[d.V]? = some (.cells 1 (ints s.val))
  lg : d.L ≠ d.G ∨ c.list = []
  lv : d.L ≠ d.V
  gv : d.G ≠ d.V
  ll : s.left.length = c.list.length
  gl : s.good.length = c.list.length
  vl : s.val.length = c.vars
  t : (ta = .nsl ∧ s.tr = []) ∨ ∃ T ex, ta = .ref T 0 s.tr.length ∧ o[T]? = some (.cells 1 (ints (s.tr ++ ex))) ∧ T ≠ d.L ∧ T ≠ d.G ∧ T ≠ d.V
  inn : ∀ x : Int, InAt o d c ta x
  md : s.md.ltk o.length = true ∧ s.md.plain = true ∧ s.md.isOwn = false
section
variable {o : List Ob} {K : Nat} {d : IdS} {c : Env} {ta : AV} {s : SV}
theorem RepG.ne (h : RepG o K d c ta s) {j : Nat} {l : List (List AV)} (hj : o[j]? = some (.cells 1 l)) : j ≠ K ∧ j ≠ d.M := by
  refine ⟨fun e => ?_, fun e => ?_⟩
  · subst e; rw [h.k] at hj; simp at hj
  · subst e; rw [h.m] at hj; simp at hj
theorem RepG.km (h : RepG o K d c ta s) : K ≠ d.M := by
  intro e; have := h.m; rw [← e, h.k] at this; simp at this
theorem lg_other {o : List Ob} {X Y : Nat} {L : List (List Int)} {a b : List Int} (h : X ≠ Y ∨ L = []) (ha : a.length = L.length) (hb : b.length = L.length) (e : o[X]? = some (.cells 1 (ints a))) : (if X = Y then some (.cells 1 (ints b)) else o[X]?) = some (.cells 1 (ints a)) := by
  split
  · rename_i e2
    rcases h with q | q
    · exact absurd e2 q
    · rw [q] at ha hb
      rw [List.eq_nil_of_length_eq_zero ha, List.eq_nil_of_length_eq_zero hb]
  · exact e
/-- One of the lists is turned. -/
theorem RepG.setX (h : RepG o K d c ta s) (hc : c.lav.ltk 0 = true) {J : Nat} {r r' : List Int} (hJ : o[J]? = some (.cells 1 (ints r))) {s' : SV} (hk : rowK c d ta s' = rowK c d ta s)
    (hl : o[d.L]? = some (.cells 1 (ints s.left)) → (o.set J (.cells 1 (ints r')))[d.L]? = some (.cells 1 (ints s'.left)))
    (hg : (o.set J (.cells 1 (ints r')))[d.G]? = some (.cells 1 (ints s'.good))) (hv : (o.set J (.cells 1 (ints r')))[d.V]? = some (.cells 1 (ints s'.val)))
    (hll : s'.left.length = c.list.length) (hgl : s'.good.length = c.list.length) (hvl : s'.val.length = c.vars) (htr : s'.tr = s.tr) (hmd : s'.md = s.md) (hJ3 : J = d.L ∨ J = d.G ∨ J = d.V) : RepG (o.set J (.cells 1 (ints r'))) K d c ta s' := by
  have hs : ∀ (X : Ob) (j : Nat), (o.set J X)[j]? = if j = J then some X else o[j]? := fun X j => set_get hJ
  obtain ⟨n1, n2⟩ := h.ne hJ
  refine ⟨okO_set h.ok (ints_ltk _ _), by rw [hs, if_neg (Ne.symm n1), hk]; exact h.k, by rw [hs, if_neg (Ne.symm n2)]; exact h.m, hl h.l, hg, hv, h.lg, h.lv, h.gv, hll, hgl, hvl, ?_, fun x => ?_, ?_⟩
  · rcases h.t with ⟨a, b⟩ | ⟨T, ex, a, b, t1, t2, t3⟩
    · exact .inl ⟨a, by rw [htr]; exact b⟩
    · refine .inr ⟨T, ex, by rw [htr]; exact a, ?_, t1, t2, t3⟩
      rw [hs, if_neg (by rcases hJ3 with e | e | e <;> rw [e] <;> assumption), htr]; exact b
  · refine (h.inn x).imp id fun ⟨I, q1, q2, q3, q4, q5, q6⟩ => ⟨I, q1, ?_, q3, q4, q5, q6⟩
    rw [hs, if_neg (by rcases hJ3 with e | e | e <;> rw [e] <;> assumption)]; exact q2
  · rw [hmd, List.length_set]; exact h.md
theorem RepG.setG (h : RepG o K d c ta s) (hc : c.lav.ltk 0 = true) {g' : List Int} (hl : g'.length = s.good.length) : RepG (o.set d.G (.cells 1 (ints g'))) K d c ta { s with good := g' } := by
  have hs : ∀ (X : Ob) (j : Nat), (o.set d.G X)[j]? = if j = d.G then some X else o[j]? := fun X j => set_get h.g
  exact h.setX hc h.g rfl (fun e => by rw [hs]; exact lg_other h.lg h.ll (hl.trans h.gl) e) (by rw [hs, if_pos rfl]) (by rw [hs, if_neg (Ne.symm h.gv)]; exact h.v) h.ll (by rw [← h.gl]; exact hl) h.vl rfl rfl (.inr (.inl rfl))
theorem RepG.setL (h : RepG o K d c ta s) (hc : c.lav.ltk 0 = true) {g' : List Int} (hl : g'.length = s.left.length) : RepG (o.set d.L (.cells 1 (ints g'))) K d c ta { s with left := g' } := by
  have hs : ∀ (X : Ob) (j : Nat), (o.set d.L X)[j]? = if j = d.L then some X else o[j]? := fun X j => set_get h.l
  exact h.setX hc h.l rfl (fun e => by rw [hs, if_pos rfl]) (by rw [hs]; exact lg_other (h.lg.imp Ne.symm id) h.gl (hl.trans h.ll) h.g) (by rw [hs, if_neg (Ne.symm h.lv)]; exact h.v) (by rw [← h.ll]; exact hl) h.gl h.vl rfl rfl (.inl rfl)
theorem RepG.setV (h : RepG o K d c ta s) (hc : c.lav.ltk 0 = true) {g' : List Int} (hl : g'.length = s.val.length) : RepG (o.set d.V (.cells 1 (ints g'))) K d c ta { s with val := g' } := by
  have hs : ∀ (X : Ob) (j : Nat), (o.set d.V X)[j]? = if j = d.V then some X else o[j]? := fun X j => set_get h.v
  exact h.setX hc h.v rfl (fun e => by rw [hs, if_neg h.lv]; exact e) (by rw [hs, if_neg h.gv]; exact h.g) (by rw [hs, if_pos rfl]) h.ll h.gl (by rw [← h.vl]; exact hl) rfl rfl (.inr (.inr rfl))
/-- A number of the search itself is turned. -/
theorem RepG.setK (h : RepG o K d c ta s) (hc : c.lav.ltk 0 = true) (hta : ta.ltk o.length = true) {s' : SV} (h1 : s'.left = s.left) (h2 : s'.good = s.good) (h3 : s'.val = s.val) (h4 : s'.tr = s.tr) (hmd : s'.md.ltk o.length = true ∧ s'.md.plain = true ∧ s'.md.isOwn = false) :
    RepG (o.set K (.cells 13 [rowK c d ta s'])) K d c ta s' := by
  have hs : ∀ (X : Ob) (j : Nat), (o.set K X)[j]? = if j = K then some X else o[j]? := fun X j => set_get h.k
  have lM := (List.getElem?_eq_some_iff.1 h.m).1
  have lL := (List.getElem?_eq_some_iff.1 h.l).1
  have lG := (List.getElem?_eq_some_iff.1 h.g).1
  have lV := (List.getElem?_eq_some_iff.1 h.v).1
  have e1 : ∀ {j : Nat} {l : List (List AV)}, o[j]? = some (.cells 1 l) → (o.set K (.cells 13 [rowK c d ta s']))[j]? = some (.cells 1 l) := fun {j l} hj => by
    rw [hs, if_neg (h.ne hj).1]; exact hj
  refine ⟨okO_set h.ok ?_, by rw [hs, if_pos rfl], by rw [hs, if_neg (Ne.symm h.km)]; exact h.m, by rw [h1]; exact e1 h.l, by rw [h2]; exact e1 h.g, by rw [h3]; exact e1 h.v, h.lg, h.lv, h.gv, by rw [h1]; exact h.ll, by rw [h2]; exact h.gl, by rw [h3]; exact h.vl, ?_, fun x => ?_, ?_⟩
  · have := ltk_mono (Nat.zero_le o.length) _ hc
    simp [Ob.ltk, rowK, AV.ltk, this, hta, hmd.1, lM, lL, lG, lV]
  · rw [h4]
    rcases h.t with ⟨a, b⟩ | ⟨T, ex, a, b, t1⟩
    · exact .inl ⟨a, b⟩
    · exact .inr ⟨T, ex, a, e1 b, t1⟩
  · exact (h.inn x).imp id fun ⟨I, r1, r2, r3⟩ => ⟨I, r1, e1 r2, r3⟩
  · rw [List.length_set]; exact hmd
theorem RepG.taOk (h : RepG o K d c ta s) : ta.ltk o.length = true := by
  rcases h.t with ⟨rfl, _⟩ | ⟨T, ex, rfl, b, _⟩
  · rfl
  · have := (List.getElem?_eq_some_iff.1 b).1
    simp [AV.ltk, this]
end
theorem is_spec {o : List Ob} {K : Nat} {d : IdS} {c : Env} {ta : AV} {s : SV} (h : RepG o K d c ta s) (hc : EnvOk c) {tr : List Int} (htr : TrOk c.vars tr) (hs : s.val = valL c.vars tr) {x : Int} (hx : LitOk c.vars x) :
    ACallsQ Try.prog 98 [.ptr K 0 0, .i .i64 x] o (.i .i64 (isL tr x)) := by
  have hok := h.ok
  obtain ⟨x0, x1, x2⟩ := hx
  have hcv := hc.vars
  refine ACalls_of' (n := 25) (rs := [.tmp 4]) (show Try.prog.funcs[98]? = some Try.f98 by kernel_rfl) rfl rfl rfl (by simp) (by decide +kernel) ?_
  repeat (first | refine nav ?_ | refine bo ?_)
  (refine wr fun K R hK hR => ?_; simp (maxSteps := 10000000) only [go_sem]; (try go_ints); (repeat refine And.intro side ?_); (first | refine hK _ ?_ | refine hR _ _ ?_); clear hK hR K R)
  repeat (first | refine nav ?_ | refine bo ?_)
  (refine wr fun K R hK hR => ?_; simp (maxSteps := 10000000) only [go_sem]; (try go_ints); (repeat refine And.intro side ?_); (first | refine hK _ ?_ | refine hR _ _ ?_); clear hK hR K R)
  repeat (first | refine nav ?_ | refine bo ?_)
  refine W_cond (by simp only [go_sem] <;> exact rfl) (fun hb => ?_) (fun hb => ?_)
  · have hb : x > 0 := by simpa using hb
    obtain ⟨v, rfl⟩ : ∃ v : Nat, x = (v : Int) + 1 := ⟨(x - 1).toNat, by omega⟩
    have hv := valL_get (n := c.vars) (tr := tr) (v := v) (by omega)
    rw [← hs] at hv
    have e1 : ((v : Int) + 1 - 1).toNat = v := by omega
    repeat (first | refine nav ?_ | refine bo ?_)
    (refine wr fun K R hK hR => ?_; simp (maxSteps := 10000000) only [go_sem, h.k, h.v, rowK, Nat.add_sub_cancel, ints_get hv, h.vl]; (try go_ints); (try simp only [go_sem, h.k, h.v, rowK, Nat.add_sub_cancel, ints_get hv, h.vl]); (repeat refine And.intro side ?_); (first | refine hK _ ?_ | refine hR _ _ ?_); clear hK hR K R)
    repeat (first | refine nav ?_ | refine bo ?_)
    refine endQ_quiet0 (by simp only [go_sem] <;> exact rfl) (Le.of_eq ?_) (by assumption) rfl
    rw [isL_val]
  · have hb : ¬ x > 0 := by simpa using hb
    obtain ⟨v, rfl⟩ : ∃ v : Nat, x = -((v : Int) + 1) := ⟨(-x - 1).toNat, by omega⟩
    have hv := valL_get (n := c.vars) (tr := tr) (v := v) (by omega)
    rw [← hs] at hv
    have hb2 : -1 ≤ valOf tr v ∧ valOf tr v ≤ 1 := by unfold valOf; split <;> (try split) <;> omega
    repeat (first | refine nav ?_ | refine bo ?_)
    have e2 : (0 - -((v : Int) + 1) - 1).toNat = v := by omega
    (refine wr fun K R hK hR => ?_; simp (maxSteps := 10000000) only [go_sem, h.k, h.v, rowK, e2, ints_get hv, h.vl]; (try go_ints); (try simp only [go_sem, h.k, h.v, rowK, e2, ints_get hv, h.vl]); (repeat refine And.intro side ?_); (first | refine hK _ ?_ | refine hR _ _ ?_); clear hK hR K R)
    repeat (first | refine nav ?_ | refine bo ?_)
    refine endQ_quiet0 (by simp only [go_sem] <;> exact rfl) (Le.of_eq ?_) (by assumption) rfl
    rw [isL_neg htr]
    have h3 : valOf tr v = -1 ∨ valOf tr v = 0 ∨ valOf tr v = 1 := by omega
    rcases h3 with h3 | h3 | h3 <;> rw [h3] <;> rfl
end Go.AW
/-
The search for models: a number is made true.
-/
namespace Go.AW
open Go Go.Proofs TyTry Go.IntWalk
set_option linter.unusedSimpArgs false
set_option linter.unusedVariables false
set_option maxRecDepth 10000
set_option maxHeartbeats 1000000

def canon (c : Env) (tr : List Int) (br : Int) (md : AV) (cnt : Int) (exh : Bool) : SV := ⟨leftL c.list tr, goodL c.list tr, zeros (goodL c.list tr), valL c.vars tr, tr, br, md, cnt, exh⟩
/-- The objects of others stay as they are. -/
def Fr (o o' : List Ob) (K : Nat) (d : IdS) (ta : AV) : Prop := o.length ≤ o'.length ∧ ∀ j < o.length, j ≠ K → j ≠ d.L → j ≠ d.G → j ≠ d.V → (∀ l, ta ≠ .ref j 0 l) → o'[j]? = o[j]?
theorem Fr.refl (o : List Ob) (K : Nat) (d : IdS) (ta : AV) : Fr o o K d ta := ⟨Nat.le_refl _, fun _ _ _ _ _ _ _ => rfl⟩
theorem Fr.set {o o' : List Ob} {K : Nat} {d : IdS} {ta : AV} (h : Fr o o' K d ta) {J : Nat} {X : Ob} (hJ : J = K ∨ J = d.L ∨ J = d.G ∨ J = d.V) : Fr o (o'.set J X) K d ta := by
  refine ⟨by rw [List.length_set]; exact h.1, fun j hj n1 n2 n3 n4 n5 => ?_⟩
  rw [List.getElem?_set_ne (by rintro rfl; rcases hJ with e | e | e | e <;> contradiction)]
  exact h.2 j hj n1 n2 n3 n4 n5
theorem Fr.push {o o' : List Ob} {K : Nat} {d : IdS} {ta : AV} (h : Fr o o' K d ta) (X : List Ob) : Fr o (o' ++ X) K d ta :=
  ⟨by rw [List.length_append]; have := h.1; omega, fun j hj n1 n2 n3 n4 n5 => by rw [List.getElem?_append_left (by have := h.1; omega)]; exact h.2 j hj n1 n2 n3 n4 n5⟩
theorem Fr.kill {o o' : List Ob} {K : Nat} {d : IdS} {T l : Nat} (h : Fr o o' K d (.ref T 0 l)) {X : Ob} : Fr o (o'.set T X) K d (.ref T 0 l) := by
  refine ⟨by rw [List.length_set]; exact h.1, fun j hj n1 n2 n3 n4 n5 => ?_⟩
  rw [List.getElem?_set_ne (by rintro rfl; exact n5 l rfl)]
  exact h.2 j hj n1 n2 n3 n4 n5
theorem lav_ltk {c : Env} (hc : EnvOk c) : c.lav.ltk 0 = true := by
  rcases hc.lav with h | ⟨h, _⟩ <;> rw [h] <;> rfl
theorem zeros_bd (l : List Int) : 0 ≤ zeros l ∧ zeros l ≤ l.length := by
  unfold zeros
  have := List.length_filter_le (fun x : Int => x == 0) l
  omega
theorem good_bd {c : Env} (hc : EnvOk c) (tr : List Int) (j : Nat) : goodOf c.list tr j ≤ 200000 ∧ leftOf c.list tr j ≤ 200000 := by
  have h1 : (c.list.getD j []).length ≤ 200000 := by
    rw [List.getD_eq_getElem?_getD]
    cases h : c.list[j]? with
    | none => simp
    | some l => exact hc.len l (List.mem_of_getElem? h)
  exact ⟨Nat.le_trans (List.length_filter_le _ _) h1, Nat.le_trans (List.length_filter_le _ _) h1⟩
theorem bump_bd {c : Env} (hc : EnvOk c) (tr : List Int) (x d : Int) (hd : d = 1 ∨ d = -1) (k j : Nat) {v : Int} (l : List Int) (hl : l = goodL c.list tr ∨ l = leftL c.list tr) (h : (bump d l ((innOf c.list x).take k))[j]? = some v) :
    (∃ u : Nat, v = u + d * (((innOf c.list x).take k).count (j : Int) : Nat) ∧ u ≤ 200000) ∧ -200000 ≤ v ∧ v ≤ 400000 := by
  have hlt := (List.getElem?_eq_some_iff.1 h).1
  rw [bump_len] at hlt
  have hg := bump_get d ((innOf c.list x).take k) l j (fun i hi => by obtain ⟨q, rfl, _⟩ := innOf_mem (List.mem_of_mem_take hi); omega) hlt
  have hcnt : ((innOf c.list x).take k).count (j : Int) ≤ 200000 := Nat.le_trans List.count_le_length (Nat.le_trans (by simp; omega) (hc.sum x))
  rw [List.getD_eq_getElem?_getD, h, Option.getD_some] at hg
  obtain ⟨b1, b2⟩ := good_bd hc tr j
  rcases hl with rfl | rfl
  · rw [goodL_len] at hlt
    rw [List.getD_eq_getElem?_getD, goodL_get hlt, Option.getD_some] at hg
    refine ⟨⟨_, hg, b1⟩, ?_⟩
    rcases hd with rfl | rfl <;> omega
  · rw [leftL_len] at hlt
    rw [List.getD_eq_getElem?_getD, leftL_get hlt, Option.getD_some] at hg
    refine ⟨⟨_, hg, b2⟩, ?_⟩
    rcases hd with rfl | rfl <;> omega
theorem RepG.retrail {o : List Ob} {K : Nat} {d : IdS} {c : Env} {ta : AV} {s : SV} (h : RepG o K d c ta s) (hc : c.lav.ltk 0 = true) {o1 : List Ob} (hlen : o.length ≤ o1.length) (hpre : ∀ j X, o[j]? = some X → (∀ l, ta ≠ .ref j 0 l) → o1[j]? = some X) (hok : okO o1 = true)
    {T' : Nat} {tr' ex' : List Int} (hT : o1[T']? = some (.cells 1 (ints (tr' ++ ex')))) (hfresh : o.length ≤ T') : RepG (o1.set K (.cells 13 [rowK c d (.ref T' 0 tr'.length) { s with tr := tr' }])) K d c (.ref T' 0 tr'.length) { s with tr := tr' } := by
  have lM := (List.getElem?_eq_some_iff.1 h.m).1
  have lL := (List.getElem?_eq_some_iff.1 h.l).1
  have lG := (List.getElem?_eq_some_iff.1 h.g).1
  have lV := (List.getElem?_eq_some_iff.1 h.v).1
  have lK := (List.getElem?_eq_some_iff.1 h.k).1
  have lT := (List.getElem?_eq_some_iff.1 hT).1
  have nt : ∀ j, (∀ T ex, ta = .ref T 0 s.tr.length → o[T]? = some (.cells 1 (ints (s.tr ++ ex))) → T ≠ d.L ∧ T ≠ d.G ∧ T ≠ d.V → j ≠ T) → ∀ l, ta ≠ .ref j 0 l := by
    intro j hj l e
    rcases h.t with ⟨a, _⟩ | ⟨T, ex, a, b, t1⟩
    · rw [a] at e; cases e
    · rw [a] at e
      simp only [AV.ref.injEq] at e
      exact hj T ex a b t1 e.1.symm
  have kK : o1[K]? = _ := hpre K _ h.k (nt K fun T ex _ b _ e => (h.ne b).1 e.symm)
  have hs : ∀ (X : Ob) (j : Nat), (o1.set K X)[j]? = if j = K then some X else o1[j]? := fun X j => set_get kK
  have e1 : ∀ {j : Nat} {l : List (List AV)}, o[j]? = some (.cells 1 l) → (∀ l, ta ≠ .ref j 0 l) → (o1.set K (.cells 13 [rowK c d (.ref T' 0 tr'.length) { s with tr := tr' }]))[j]? = some (.cells 1 l) := fun {j l} hj hn => by
    rw [hs, if_neg (h.ne hj).1]; exact hpre j _ hj hn
  refine ⟨okO_set hok ?_, by rw [hs, if_pos rfl], ?_, e1 h.l (nt _ fun T ex _ _ t1 e => t1.1 e.symm), e1 h.g (nt _ fun T ex _ _ t1 e => t1.2.1 e.symm), e1 h.v (nt _ fun T ex _ _ t1 e => t1.2.2 e.symm), h.lg, h.lv, h.gv, h.ll, h.gl, h.vl, ?_, fun x => ?_, ?_⟩
  · have := ltk_mono (Nat.zero_le o1.length) _ hc
    have hm := ltk_mono hlen _ h.md.1
    simp [Ob.ltk, rowK, AV.ltk, this, hm, lT]
    omega
  · rw [hs, if_neg (Ne.symm h.km)]
    exact hpre _ _ h.m (nt _ fun T ex _ b _ e => (h.ne b).2 e.symm)
  · refine .inr ⟨T', ex', rfl, ?_, by omega, by omega, by omega⟩
    rw [hs, if_neg (by omega)]; exact hT
  · refine (h.inn x).imp id fun ⟨I, r1, r2, r3, r4, r5, r6⟩ => ⟨I, r1, e1 r2 (fun l e => r6 I l e rfl), r3, r4, r5, fun T l e => ?_⟩
    simp only [AV.ref.injEq] at e
    have := (List.getElem?_eq_some_iff.1 r2).1
    omega
  · rw [List.length_set]; exact ⟨ltk_mono hlen _ h.md.1, h.md.2⟩
/-- The last one is cut off. -/
theorem RepG.cut {o : List Ob} {K : Nat} {d : IdS} {c : Env} {ta : AV} {s : SV} (h : RepG o K d c ta s) (hc : c.lav.ltk 0 = true) {tr' : List Int} {x : Int} (ht : s.tr = tr' ++ [x]) : ∃ T, ta = .ref T 0 (tr'.length + 1) ∧ (∃ ex, o[T]? = some (.cells 1 (ints (tr' ++ x :: ex)))) ∧
    RepG (o.set K (.cells 13 [rowK c d (.ref T 0 tr'.length) { s with tr := tr' }])) K d c (.ref T 0 tr'.length) { s with tr := tr' } := by
  rcases h.t with ⟨_, b⟩ | ⟨T, ex, rfl, b, t1, t2, t3⟩
  · rw [ht] at b; simp at b
  have lM := (List.getElem?_eq_some_iff.1 h.m).1
  have lL := (List.getElem?_eq_some_iff.1 h.l).1
  have lG := (List.getElem?_eq_some_iff.1 h.g).1
  have lV := (List.getElem?_eq_some_iff.1 h.v).1
  have lT := (List.getElem?_eq_some_iff.1 b).1
  have b' : o[T]? = some (.cells 1 (ints (tr' ++ x :: ex))) := by rw [b, ht]; simp
  have hs : ∀ (X : Ob) (j : Nat), (o.set K X)[j]? = if j = K then some X else o[j]? := fun X j => set_get h.k
  have e1 : ∀ {j : Nat} {l : List (List AV)} {X : Ob}, o[j]? = some (.cells 1 l) → (o.set K X)[j]? = some (.cells 1 l) := fun {j l X} hj => by
    rw [hs, if_neg (h.ne hj).1]; exact hj
  refine ⟨T, by rw [ht]; simp, ⟨ex, b'⟩, okO_set h.ok ?_, by rw [hs, if_pos rfl], by rw [hs, if_neg (Ne.symm h.km)]; exact h.m, e1 h.l, e1 h.g, e1 h.v, h.lg, h.lv, h.gv, h.ll, h.gl, h.vl, .inr ⟨T, x :: ex, rfl, e1 b', t1, t2, t3⟩, fun y => ?_, ?_⟩
  · have := ltk_mono (Nat.zero_le o.length) _ hc
    simp [Ob.ltk, rowK, AV.ltk, this, h.md.1, lM, lL, lG, lV, lT]
  · refine (h.inn y).imp id fun ⟨I, r1, r2, r3, r4, r5, r6⟩ => ⟨I, r1, e1 r2, r3, r4, r5, fun T l e => r6 T s.tr.length ?_⟩
    simp only [AV.ref.injEq] at e
    rw [e.1]
  · rw [List.length_set]; exact h.md
theorem bump_step {d : Int} {l is : List Int} {k j : Nat} {v : Int} (hk : is[k]? = some (j : Int)) (hv : (bump d l (is.take k))[j]? = some v) : (bump d l (is.take k)).set j (v + d) = bump d l (is.take (k + 1)) := by
  have hlt := (List.getElem?_eq_some_iff.1 hk).1
  have e : is.take (k + 1) = is.take k ++ [(j : Int)] := by
    rw [List.take_succ_eq_append_getElem hlt]
    have := (List.getElem?_eq_some_iff.1 hk).2
    rw [this]
  rw [e, bump_app]
  generalize bump d l (is.take k) = b at hv
  have hjb := (List.getElem?_eq_some_iff.1 hv).1
  simp only [bump, List.foldl_cons, List.foldl_nil, Int.toNat_natCast]
  apply List.ext_getElem?
  intro i
  rw [List.getElem?_set, List.getElem?_modify]
  by_cases h : j = i
  · subst h; rw [if_pos rfl, if_pos hjb, hv]; simp
  · rw [if_neg h]; simp [h]
theorem bump_zeros {d : Int} {l is : List Int} {k j : Nat} {v : Int} (hk : is[k]? = some (j : Int)) (hv : (bump d l (is.take k))[j]? = some v) : zeros (bump d l (is.take (k + 1))) = zeros (bump d l (is.take k)) - (if v = 0 then 1 else 0) + (if v + d = 0 then 1 else 0) := by
  rw [← zeros_modify _ j v d hv]
  have hlt := (List.getElem?_eq_some_iff.1 hk).1
  have e : is.take (k + 1) = is.take k ++ [(j : Int)] := by
    rw [List.take_succ_eq_append_getElem hlt]
    have := (List.getElem?_eq_some_iff.1 hk).2
    rw [this]
  rw [e, bump_app]
  simp only [bump, List.foldl_cons, List.foldl_nil, Int.toNat_natCast]
theorem put_spec {o : List Ob} {K : Nat} {d : IdS} {c : Env} {ta : AV} {tr : List Int} {br cnt : Int} {md : AV} {exh : Bool} (h : RepG o K d c ta (canon c tr br md cnt exh)) (hc : EnvOk c) (htr : TrOk c.vars tr) (hlen : tr.length ≤ 20000) {x : Int} (hx : LitOk c.vars x) (hxt : x ∉ tr) (hnx : -x ∉ tr) :
    ACalls Try.prog 99 [.ptr K 0 0, .i .i64 x] o fun r o' => r = .tup [] ∧ ∃ ta', RepG o' K d c ta' (canon c (tr ++ [x]) br md cnt exh) ∧ Fr o o' K d ta ∧ ∃ l, ta' = .ref (o.length + 1) 0 l := by
  have hok := h.ok
  obtain ⟨x0, x1, x2⟩ := hx
  have hcv := hc.vars
  have hlk := lav_ltk hc
  refine ACalls_of' (n := 93) (rs := []) (show Try.prog.funcs[99]? = some Try.f99 by kernel_rfl) rfl rfl rfl (by simp) (by decide +kernel) ?_
  refine W_then (fun st => ∃ ta', st.t 0 = .ptr K 0 0 ∧ st.t 1 = .i .i64 x ∧ RepG st.o K d c ta' ⟨leftL c.list tr, goodL c.list tr, zeros (goodL c.list tr), valL c.vars tr, tr ++ [x], br, md, cnt, exh⟩ ∧ Fr o st.o K d ta ∧ ∃ l, ta' = .ref (o.length + 1) 0 l) ?_ ?_
  · rcases h.t with ⟨rfl, htr0⟩ | ⟨T, ex, rfl, hT, t1, t2, t3⟩
    · have hk1 := fun l => app_get l h.k
      have hro : rowsOk false [[AV.i .i64 x]] = true := rfl
      simp only [rowK] at hk1
      (refine W_reg [1000000] fun K R hK hR => ?_; simp (maxSteps := 10000000) only [go_sem, h.k, rowK, canon, hro, hk1]; (try go_ints); (try simp only [go_sem, h.k, rowK, canon, hro, hk1]); (repeat refine And.intro side ?_); (first | refine hK _ ?_ | refine hR _ _ ?_); clear hK hR K R)
      refine thenQ_normal ⟨.ref (o.length + 1) 0 1, rfl, rfl, ?_, ((Fr.refl _ _ _ _).push _).set (.inl rfl), _, rfl⟩
      have hR := h.retrail hlk (o1 := o ++ [Ob.cells 1 [[AV.i .i64 x]], Ob.cells 1 [[AV.i .i64 x]]]) (by simp) (fun j X hj _ => app_get _ hj) (okO_app hok (by simp [Ob.ltk, AV.ltk])) (T' := o.length + 1) (tr' := [x]) (ex' := []) (by simp [ints]) (by omega)
      have htr0 : tr = [] := htr0
      subst htr0
      exact hR
    · have hTl := (List.getElem?_eq_some_iff.1 hT).1
      have hk1 := fun l => app_get l h.k
      have hT1 := fun l => app_get l hT
      have hTK := (h.ne hT).1
      have hk2 : ∀ X Y : List Ob, ((o ++ X).set T .dead ++ Y)[K]? = _ := fun X Y => app_get Y (by rw [List.getElem?_set_ne hTK]; exact hk1 X)
      have hro : rowsOk false [[AV.i .i64 x]] = true := rfl
      simp only [rowK, canon] at hk1 hk2 hT1
      refine W_reg [1000000] fun K R hK hR => ?_
      simp (maxSteps := 10000000) only [go_sem, h.k, rowK, hT1, canon, hro, hk1, hk2]
      refine ⟨by simp [ints]; omega, hK _ ?_⟩
      clear hK hR K R
      have htk : List.take tr.length (ints (tr ++ ex)) = ints tr := by simp [ints]
      have hix : ints tr ++ [[AV.i .i64 x]] = ints (tr ++ [x]) := by simp [ints]
      rw [htk, hix]
      refine thenQ_normal ⟨.ref (o.length + 1) 0 (tr.length + 1), rfl, rfl, ?_, ?_, _, rfl⟩
      · have hR := h.retrail hlk (o1 := (o ++ [Ob.cells 1 [[AV.i .i64 x]]]).set T .dead ++ [Ob.cells 1 (ints (tr ++ [x]))]) (by simp; omega) (fun j X hj hn => app_get _ (by rw [List.getElem?_set_ne (fun e => hn _ (by rw [e]))]; exact app_get _ hj)) (okO_app (okO_set (okO_app hok rfl) rfl) (by simp [Ob.ltk, AV.ltk, ints])) (T' := o.length + 1) (tr' := tr ++ [x]) (ex' := []) (by simp) (by omega)
        have e : (tr ++ [x]).length = tr.length + 1 := by simp
        rw [e] at hR
        exact hR
      · exact ((((Fr.refl _ _ _ _).push _).kill).push _).set (.inl rfl)
  · rintro ⟨t, o1⟩ ⟨ta1, h0, h1, hr, hf, hta1⟩
    simp only at h0 h1 hr hf
    repeat (first | refine nav ?_ | refine bo ?_)
    (refine wr fun K R hK hR => ?_; simp (maxSteps := 10000000) only [go_sem, h1]; (try go_ints); (try simp only [go_sem, h1]); (repeat refine And.intro side ?_); (first | refine hK _ ?_ | refine hR _ _ ?_); clear hK hR K R)
    refine seqQ_normal ?_
    refine W_joinS 20 35 [] (fun t o2 => RepG o2 K d c ta1 ⟨leftL c.list tr, goodL c.list tr, zeros (goodL c.list tr), valL c.vars (tr ++ [x]), tr ++ [x], br, md, cnt, exh⟩ ∧ Fr o o2 K d ta) ?_ ?_
    · have hvp := val_put hxt hnx ⟨x0, x1, x2⟩
      refine W_cond (by simp only [go_sem] <;> exact rfl) (fun hb => ?_) (fun hb => ?_)
      · have hb : x > 0 := by simpa using hb
        obtain ⟨v, rfl⟩ : ∃ v : Nat, x = (v : Int) + 1 := ⟨(x - 1).toNat, by omega⟩
        have hv := valL_get (n := c.vars) (tr := tr) (v := v) (by omega)
        have hvl := valL_len c.vars tr
        rw [if_pos hb, if_pos hb] at hvp
        have e1 : ((v : Int) + 1 - 1).toNat = v := by omega
        rw [e1] at hvp
        rw [hvp]
        repeat (first | refine nav ?_ | refine bo ?_)
        (refine wr fun K R hK hR => ?_; simp (maxSteps := 10000000) only [go_sem, h0, h1, hr.k, hr.v, rowK, Nat.add_sub_cancel, ints_get hv, hvl, ints_set]; (try go_ints); (try simp only [go_sem, h0, h1, hr.k, hr.v, rowK, Nat.add_sub_cancel, ints_get hv, hvl, ints_set]); (repeat refine And.intro side ?_); (first | refine hK _ ?_ | refine hR _ _ ?_); clear hK hR K R)
        exact ⟨_, rfl, hr.setV hlk (by simp), hf.set (.inr (.inr (.inr rfl)))⟩
      · have hb : ¬ x > 0 := by simpa using hb
        obtain ⟨v, rfl⟩ : ∃ v : Nat, x = -((v : Int) + 1) := ⟨(-x - 1).toNat, by omega⟩
        have hv := valL_get (n := c.vars) (tr := tr) (v := v) (by omega)
        have hvl := valL_len c.vars tr
        rw [if_neg hb, if_neg hb] at hvp
        have e1 : (- -((v : Int) + 1) - 1).toNat = v := by omega
        rw [e1] at hvp
        rw [hvp]
        have e2 : (0 - -((v : Int) + 1) - 1).toNat = v := by omega
        repeat (first | refine nav ?_ | refine bo ?_)
        (refine wr fun K R hK hR => ?_; simp (maxSteps := 10000000) only [go_sem, h0, h1, hr.k, hr.v, rowK, e2, ints_get hv, hvl, ints_set]; (try go_ints); (try simp only [go_sem, h0, h1, hr.k, hr.v, rowK, e2, ints_get hv, hvl, ints_set]); (repeat refine And.intro side ?_); (first | refine hK _ ?_ | refine hR _ _ ?_); clear hK hR K R)
        exact ⟨_, rfl, hr.setV hlk (by simp), hf.set (.inr (.inr (.inr rfl)))⟩
    clear hr hf o1
    rintro t2 o1 ⟨hr, hf⟩
    have hsum := hc.sum x
    repeat (first | refine nav ?_ | refine bo ?_)
    refine W_joinS 35 43 [] (fun t o' => o' = o1 ∧ t 40 = ivOf c.es x ∧ t 41 = .i .i64 ((innOf c.list x).length : Nat) ∧ t 42 = .i .i64 0) ?_ ?_
    · rcases hr.inn x with ⟨hm, h⟩ | ⟨I, hm, hI, _⟩
      · (refine wr fun K R hK hR => ?_; simp (maxSteps := 10000000) only [go_sem, h0, h1, hr.k, rowK, hr.m, hm]; (try go_ints); (try simp only [go_sem, h0, h1, hr.k, rowK, hr.m, hm]); (repeat refine And.intro side ?_); (first | refine hK _ ?_ | refine hR _ _ ?_); clear hK hR K R)
        exact ⟨_, rfl, rfl, by simp only [go_sem, ivOf, hm], by simp only [go_sem, h] <;> rfl, by simp only [go_sem]⟩
      · (refine wr fun K R hK hR => ?_; simp (maxSteps := 10000000) only [go_sem, h0, h1, hr.k, rowK, hr.m, hm]; (try go_ints); (try simp only [go_sem, h0, h1, hr.k, rowK, hr.m, hm]); (repeat refine And.intro side ?_); (first | refine hK _ ?_ | refine hR _ _ ?_); clear hK hR K R)
        exact ⟨_, rfl, rfl, by simp only [go_sem, ivOf, hm], by simp only [go_sem], by simp only [go_sem]⟩
    rintro t5 o1' ⟨rfl, h40, h41, h42⟩
    generalize hisx : innOf c.list x = is at h41 hsum
    repeat (first | refine nav ?_ | refine bo ?_)
    refine W_for 42 71 [5] (fun m t o2 => ∃ k : Nat, RepG o2 K d c ta1 ⟨leftL c.list tr, bump 1 (goodL c.list tr) (is.take k), zeros (bump 1 (goodL c.list tr) (is.take k)), valL c.vars (tr ++ [x]), tr ++ [x], br, md, cnt, exh⟩ ∧ Fr o o2 K d ta ∧ t 42 = .i .i64 k ∧ m = is.length - k ∧ k ≤ is.length) is.length
      ⟨0, hr, hf, by simp only [go_sem, h42] <;> rfl, by omega, Nat.zero_le _⟩ ?_
    clear h42
    rintro m t3 o2 ⟨k, hr2, hf2, h42, rfl, hk⟩
    repeat (first | refine nav ?_ | refine bo ?_)
    (refine wr fun K R hK hR => ?_; simp (maxSteps := 10000000) only [go_sem, h42, h41]; (try go_ints); (try simp only [go_sem, h42, h41]); (repeat refine And.intro side ?_); (first | refine hK _ ?_ | refine hR _ _ ?_); clear hK hR K R)
    repeat (first | refine nav ?_ | refine bo ?_)
    refine W_cond (by simp only [go_sem] <;> exact rfl) (fun hb => ?_) (fun hb => ?_)
    · simp at hb
      obtain ⟨i, hi⟩ : ∃ i, is[k]? = some i := ⟨_, List.getElem?_eq_getElem hb⟩
      obtain ⟨j, rfl, hj, _⟩ := innOf_mem (list := c.list) (x := x) (by rw [hisx]; exact List.mem_of_getElem? hi)
      have hin := hr2.inn x
      unfold InAt at hin
      rw [hisx] at hin
      rcases hin with ⟨_, q2⟩ | ⟨I, hm, hI, i1, i2, i3, _⟩
      · subst q2; simp at hb
      have hiv : ivOf c.es x = .ref I 0 is.length := by rw [ivOf, hm]
      have hgl : (bump 1 (goodL c.list tr) (is.take k)).length = c.list.length := by rw [bump_len, goodL_len]
      obtain ⟨gv, hgv⟩ : ∃ v, (bump 1 (goodL c.list tr) (is.take k))[j]? = some v := ⟨_, List.getElem?_eq_getElem (by omega)⟩
      have hgb := bump_bd hc tr x 1 (.inl rfl) k j _ (.inl rfl) (by rw [hisx]; exact hgv)
      obtain ⟨⟨u, hu, _⟩, hgb⟩ := hgb
      have hz := bump_zeros hi hgv
      have hzb := zeros_bd (bump 1 (goodL c.list tr) (is.take k))
      have hst := bump_step hi hgv
      rw [hgl] at hzb
      have hlist := hc.list
      generalize bump 1 (goodL c.list tr) (is.take k) = gd at hr2 hgl hgv hz hzb hst
      repeat (first | refine nav ?_ | refine bo ?_)
      (refine wr fun K R hK hR => ?_; simp (maxSteps := 10000000) only [go_sem, h42, h40, hiv, hI, ints_get hi]; (try go_ints); (try simp only [go_sem, h42, h40, hiv, hI, ints_get hi]); (repeat refine And.intro side ?_); (first | refine hK _ ?_ | refine hR _ _ ?_); clear hK hR K R)
      repeat (first | refine nav ?_ | refine bo ?_)
      (refine wr fun K R hK hR => ?_; simp (maxSteps := 10000000) only [go_sem, h0, hr2.k, rowK, hr2.g, ints_get hgv, hgl, ints_set]; (try go_ints); (try simp only [go_sem, h0, hr2.k, rowK, hr2.g, ints_get hgv, hgl, ints_set]); (repeat refine And.intro side ?_); (first | refine hK _ ?_ | refine hR _ _ ?_); clear hK hR K R)
      have hr3 := hr2.setG (g' := gd.set j (gv + 1)) hlk (by simp)
      have hf3 := hf2.set (J := d.G) (X := .cells 1 (ints (gd.set j (gv + 1)))) (.inr (.inr (.inl rfl)))
      have hgl3 : (gd.set j (gv + 1)).length = c.list.length := by rw [List.length_set, hgl]
      have hgv3 : (gd.set j (gv + 1))[j]? = some (gv + 1) := by rw [List.getElem?_set, if_pos rfl, if_pos (by omega)]
      generalize o2.set d.G (.cells 1 (ints (gd.set j (gv + 1)))) = o3 at hr3 hf3 ⊢
      rw [hst] at hr3 hgl3 hgv3
      repeat (first | refine nav ?_ | refine bo ?_)
      (refine wr fun K R hK hR => ?_; simp (maxSteps := 10000000) only [go_sem, h0, hr3.k, rowK, hr3.g, ints_get hgv3, hgl3]; (try go_ints); (try simp only [go_sem, h0, hr3.k, rowK, hr3.g, ints_get hgv3, hgl3]); (repeat refine And.intro side ?_); (first | refine hK _ ?_ | refine hR _ _ ?_); clear hK hR K R)
      repeat (first | refine nav ?_ | refine bo ?_)
      refine W_cond (by simp only [go_sem] <;> exact rfl) (fun hc1 => ?_) (fun hc1 => ?_)
      · have hc1 : gv + 1 = 1 := by simpa using hc1
        have hz : zeros (bump 1 (goodL c.list tr) (is.take (k + 1))) = zeros gd - 1 := by
          rw [hz, if_pos (by omega), if_neg (by omega)]; omega
        repeat (first | refine nav ?_ | refine bo ?_)
        (refine wr fun K R hK hR => ?_; simp (maxSteps := 10000000) only [go_sem, h0, hr3.k, rowK]; (try go_ints); (try simp only [go_sem, h0, hr3.k, rowK]); (repeat refine And.intro side ?_); (first | refine hK _ ?_ | refine hR _ _ ?_); clear hK hR K R)
        repeat (first | refine nav ?_ | refine bo ?_)
        (refine wr fun K R hK hR => ?_; simp (maxSteps := 10000000) only [go_sem, h42]; (try go_ints); (try simp only [go_sem, h42]); (repeat refine And.intro side ?_); (first | refine hK _ ?_ | refine hR _ _ ?_); clear hK hR K R)
        refine forQ_normal (is.length - (k + 1)) (by omega) ⟨k + 1, ?_, hf3.set (.inl rfl), ?_⟩
        · rw [hz]
          exact hr3.setK hlk hr3.taOk (s' := ⟨leftL c.list tr, bump 1 (goodL c.list tr) (is.take (k + 1)), zeros gd - 1, valL c.vars (tr ++ [x]), tr ++ [x], br, md, cnt, exh⟩) rfl rfl rfl rfl hr3.md
        · ((try simp only [go_sem]); (repeat' refine And.intro ?_ ?_) <;> (try first | with_reducible rfl | omega | with_reducible assumption | (simp; done)))
      · have hc1 : ¬ gv + 1 = 1 := by simpa using hc1
        have hu0 : 0 ≤ gv := by omega
        have hz : zeros (bump 1 (goodL c.list tr) (is.take (k + 1))) = zeros gd := by
          rw [hz, if_neg (by omega), if_neg (by omega)]; omega
        repeat (first | refine nav ?_ | refine bo ?_)
        (refine wr fun K R hK hR => ?_; simp (maxSteps := 10000000) only [go_sem, h42]; (try go_ints); (try simp only [go_sem, h42]); (repeat refine And.intro side ?_); (first | refine hK _ ?_ | refine hR _ _ ?_); clear hK hR K R)
        refine forQ_normal (is.length - (k + 1)) (by omega) ⟨k + 1, ?_, hf3, ?_⟩
        · rw [hz]; exact hr3
        · ((try simp only [go_sem]); (repeat' refine And.intro ?_ ?_) <;> (try first | with_reducible rfl | omega | with_reducible assumption | (simp; done)))
    · simp at hb
      obtain rfl : is.length = k := by omega
      rw [List.take_length, ← hisx, goodL_put hxt] at hr2
      clear hr hf hsum
      have hsum := hc.sum (-x)
      have hlp := leftL_put (list := c.list) hxt
      repeat (first | refine nav ?_ | refine bo ?_)
      refine W_joinS 71 80 [] (fun t o' => o' = o2 ∧ t 77 = ivOf c.es (-x) ∧ t 78 = .i .i64 ((innOf c.list (-x)).length : Nat) ∧ t 79 = .i .i64 0) ?_ ?_
      · rcases hr2.inn (-x) with ⟨hm, h⟩ | ⟨I, hm, hI, _⟩
        · (refine wr fun K R hK hR => ?_; simp (maxSteps := 10000000) only [go_sem, h0, h1, hr2.k, rowK, hr2.m, Int.zero_sub, hm]; (try go_ints); (try simp only [go_sem, h0, h1, hr2.k, rowK, hr2.m, Int.zero_sub, hm]); (repeat refine And.intro side ?_); (first | refine hK _ ?_ | refine hR _ _ ?_); clear hK hR K R)
          exact ⟨_, rfl, rfl, by simp only [go_sem, ivOf, hm], by simp only [go_sem, h] <;> rfl, by simp only [go_sem]⟩
        · (refine wr fun K R hK hR => ?_; simp (maxSteps := 10000000) only [go_sem, h0, h1, hr2.k, rowK, hr2.m, Int.zero_sub, hm]; (try go_ints); (try simp only [go_sem, h0, h1, hr2.k, rowK, hr2.m, Int.zero_sub, hm]); (repeat refine And.intro side ?_); (first | refine hK _ ?_ | refine hR _ _ ?_); clear hK hR K R)
          exact ⟨_, rfl, rfl, by simp only [go_sem, ivOf, hm], by simp only [go_sem], by simp only [go_sem]⟩
      rintro t6 o2' ⟨rfl, h77, h78, h79⟩
      generalize hisn : innOf c.list (-x) = js at h78 hsum hlp
      repeat (first | refine nav ?_ | refine bo ?_)
      refine W_for 79 93 [7] (fun m t o2 => ∃ k : Nat, RepG o2 K d c ta1 ⟨bump (-1) (leftL c.list tr) (js.take k), goodL c.list (tr ++ [x]), zeros (goodL c.list (tr ++ [x])), valL c.vars (tr ++ [x]), tr ++ [x], br, md, cnt, exh⟩ ∧ Fr o o2 K d ta ∧ t 79 = .i .i64 k ∧ m = js.length - k ∧ k ≤ js.length) js.length
        ⟨0, hr2, hf2, by simp only [go_sem, h79] <;> rfl, by omega, Nat.zero_le _⟩ ?_
      clear hr2 hf2 h79
      rintro m t4 o2 ⟨k, hr2, hf2, h79, rfl, hk⟩
      repeat (first | refine nav ?_ | refine bo ?_)
      (refine wr fun K R hK hR => ?_; simp (maxSteps := 10000000) only [go_sem, h79, h78]; (try go_ints); (try simp only [go_sem, h79, h78]); (repeat refine And.intro side ?_); (first | refine hK _ ?_ | refine hR _ _ ?_); clear hK hR K R)
      repeat (first | refine nav ?_ | refine bo ?_)
      refine W_cond (by simp only [go_sem] <;> exact rfl) (fun hb => ?_) (fun hb => ?_)
      · simp at hb
        obtain ⟨i, hi⟩ : ∃ i, js[k]? = some i := ⟨_, List.getElem?_eq_getElem hb⟩
        obtain ⟨j, rfl, hj, _⟩ := innOf_mem (list := c.list) (x := -x) (by rw [hisn]; exact List.mem_of_getElem? hi)
        have hin := hr2.inn (-x)
        unfold InAt at hin
        rw [hisn] at hin
        rcases hin with ⟨_, q2⟩ | ⟨I, hm, hI, i1, i2, i3, _⟩
        · subst q2; simp at hb
        have hiv : ivOf c.es (-x) = .ref I 0 js.length := by rw [ivOf, hm]
        have hgl : (bump (-1) (leftL c.list tr) (js.take k)).length = c.list.length := by rw [bump_len, leftL_len]
        obtain ⟨gv, hgv⟩ : ∃ v, (bump (-1) (leftL c.list tr) (js.take k))[j]? = some v := ⟨_, List.getElem?_eq_getElem (by omega)⟩
        have hgb := (bump_bd hc tr (-x) (-1) (.inr rfl) k j _ (.inr rfl) (by rw [hisn]; exact hgv)).2
        have hst := bump_step hi hgv
        generalize bump (-1) (leftL c.list tr) (js.take k) = gd at hr2 hgl hgv hst
        repeat (first | refine nav ?_ | refine bo ?_)
        (refine wr fun K R hK hR => ?_; simp (maxSteps := 10000000) only [go_sem, h79, h77, hiv, hI, ints_get hi]; (try go_ints); (try simp only [go_sem, h79, h77, hiv, hI, ints_get hi]); (repeat refine And.intro side ?_); (first | refine hK _ ?_ | refine hR _ _ ?_); clear hK hR K R)
        repeat (first | refine nav ?_ | refine bo ?_)
        (refine wr fun K R hK hR => ?_; simp (maxSteps := 10000000) only [go_sem, h0, hr2.k, rowK, hr2.l, ints_get hgv, hgl, ints_set]; (try go_ints); (try simp only [go_sem, h0, hr2.k, rowK, hr2.l, ints_get hgv, hgl, ints_set]); (repeat refine And.intro side ?_); (first | refine hK _ ?_ | refine hR _ _ ?_); clear hK hR K R)
        have hst' : gd.set j (gv - 1) = bump (-1) (leftL c.list tr) (js.take (k + 1)) := hst
        have hr3 := hr2.setL (g' := gd.set j (gv - 1)) hlk (by simp)
        rw [hst'] at hr3
        rw [hst']
        repeat (first | refine nav ?_ | refine bo ?_)
        (refine wr fun K R hK hR => ?_; simp (maxSteps := 10000000) only [go_sem, h79]; (try go_ints); (try simp only [go_sem, h79]); (repeat refine And.intro side ?_); (first | refine hK _ ?_ | refine hR _ _ ?_); clear hK hR K R)
        refine forQ_normal (js.length - (k + 1)) (by omega) ⟨k + 1, hr3, hf2.set (.inr (.inl rfl)), ?_⟩
        ((try simp only [go_sem]); (repeat' refine And.intro ?_ ?_) <;> (try first | with_reducible rfl | omega | with_reducible assumption | (simp; done)))
      · simp at hb
        obtain rfl : js.length = k := by omega
        rw [List.take_length, hlp] at hr2
        repeat (first | refine nav ?_ | refine bo ?_)
        refine endQ_alln (by simp only [go_sem] <;> exact rfl) (Le.refl _) hf2.1 hr2.ok rfl ⟨rfl, ta1, hr2, hf2, hta1⟩
end Go.AW
/-
The search for models: numbers are taken back.
-/
namespace Go.AW
open Go Go.Proofs TyTry Go.IntWalk
set_option linter.unusedSimpArgs false
set_option linter.unusedVariables false
set_option maxRecDepth 10000
set_option maxHeartbeats 1000000

theorem count_take_lt {is : List Int} {k : Nat} {j : Int} (h : is[k]? = some j) : (is.take k).count j + 1 ≤ is.count j := by
  have hlt := (List.getElem?_eq_some_iff.1 h).1
  have e : is.take (k + 1) = is.take k ++ [j] := by
    rw [List.take_succ_eq_append_getElem hlt, (List.getElem?_eq_some_iff.1 h).2]
  have h1 : (is.take (k + 1)).count j ≤ is.count j := (List.take_sublist _ _).count_le _
  rw [e, List.count_append] at h1
  simpa using h1
theorem TrOk.take {n : Nat} {tr : List Int} (h : TrOk n tr) (q : Nat) : TrOk n (tr.take q) :=
  ⟨(List.take_sublist _ _).nodup h.nd, fun x hx => h.lit x (List.mem_of_mem_take hx), fun x hx hn => h.opp x (List.mem_of_mem_take hx) (List.mem_of_mem_take hn)⟩
theorem TrOk.last {n : Nat} {tr : List Int} {x : Int} (h : TrOk n (tr ++ [x])) : x ∉ tr ∧ -x ∉ tr ∧ LitOk n x := by
  refine ⟨fun hx => ?_, fun hx => ?_, h.lit x (by simp)⟩
  · have := h.nd
    rw [List.nodup_append] at this
    exact this.2.2 x hx x (by simp) rfl
  · exact h.opp x (by simp) (by simp [hx])
theorem undo_spec {o : List Ob} {K : Nat} {d : IdS} {c : Env} {ta : AV} {tr : List Int} {br cnt : Int} {md : AV} {exh : Bool} (h : RepG o K d c ta (canon c tr br md cnt exh)) (hc : EnvOk c) (htr : TrOk c.vars tr) (hlen : tr.length ≤ 20000) {n : Nat} (hn : n ≤ tr.length) :
    ACalls Try.prog 85 [.ptr K 0 0, .i .i64 n] o fun r o' => r = .tup [] ∧ ∃ ta', RepG o' K d c ta' (canon c (tr.take n) br md cnt exh) ∧ Fr o o' K d ta ∧ ∀ j l, ta' = .ref j 0 l → ∃ l', ta = .ref j 0 l' := by
  have hok := h.ok
  have hcv := hc.vars
  have hlk := lav_ltk hc
  have hlist := hc.list
  refine ACalls_of' (n := 117) (rs := []) (show Try.prog.funcs[85]? = some Try.f85 by kernel_rfl) rfl rfl rfl (by simp) (by decide +kernel) ?_
  repeat (first | refine nav ?_ | refine bo ?_)
  refine W_for 9 117 [4, 6, 8] (fun m t o1 => ∃ (q : Nat) (ta1 : AV), RepG o1 K d c ta1 (canon c (tr.take q) br md cnt exh) ∧ Fr o o1 K d ta ∧ (∀ j l, ta1 = .ref j 0 l → ∃ l', ta = .ref j 0 l') ∧ m = q - n ∧ n ≤ q ∧ q ≤ tr.length) (tr.length - n) ⟨tr.length, ta, by rw [List.take_length]; exact h, Fr.refl _ _ _ _, fun j l e => ⟨l, e⟩, rfl, hn, Nat.le_refl _⟩ ?_
  rintro m t o1 ⟨q, ta1, hr, hf, hta, rfl, hnq, hq⟩
  have hql : (tr.take q).length = q := by simp [hq]
  rcases hr.t with ⟨rfl, ht0⟩ | ⟨T, ex, rfl, hT, t1, t2, t3⟩
  · have ht0 : tr.take q = [] := ht0
    rw [ht0] at hql
    have : n = 0 ∧ q = 0 := by simp at hql; omega
    obtain ⟨rfl, rfl⟩ := this
    repeat (first | refine nav ?_ | refine bo ?_)
    (refine wr fun K R hK hR => ?_; simp (maxSteps := 10000000) only [go_sem, hr.k, rowK, canon]; (try go_ints); (try simp only [go_sem, hr.k, rowK, canon]); (repeat refine And.intro side ?_); (first | refine hK _ ?_ | refine hR _ _ ?_); clear hK hR K R)
    repeat (first | refine nav ?_ | refine bo ?_)
    refine W_cond (b := false) (by simp only [go_sem] <;> first | rfl | simp) (fun hb => by cases hb) (fun _ => ?_)
    repeat (first | refine nav ?_ | refine bo ?_)
    refine endQ_alln (by simp only [go_sem] <;> exact rfl) (Le.refl _) hf.1 hr.ok rfl ⟨rfl, _, hr, hf, hta⟩
  · have htaT : ∀ j l l2, (AV.ref T 0 l2) = .ref j 0 l → ∃ l', ta = .ref j 0 l' := fun j l l2 e => by
      simp only [AV.ref.injEq] at e
      rw [← e.1]; exact hta T _ rfl
    simp only [canon, hql] at hT hr
    repeat (first | refine nav ?_ | refine bo ?_)
    (refine wr fun K R hK hR => ?_; simp (maxSteps := 10000000) only [go_sem, hr.k, rowK, canon]; (try go_ints); (try simp only [go_sem, hr.k, rowK, canon]); (repeat refine And.intro side ?_); (first | refine hK _ ?_ | refine hR _ _ ?_); clear hK hR K R)
    repeat (first | refine nav ?_ | refine bo ?_)
    refine W_cond (by simp only [go_sem] <;> exact rfl) (fun hb => ?_) (fun hb => ?_)
    · simp at hb
      obtain ⟨p, rfl⟩ : ∃ p, q = p + 1 := ⟨q - 1, by omega⟩
      obtain ⟨x, hxg⟩ : ∃ x, tr[p]? = some x := ⟨_, List.getElem?_eq_getElem (by omega)⟩
      have htk : tr.take (p + 1) = tr.take p ++ [x] := by
        rw [List.take_succ_eq_append_getElem (by omega), (List.getElem?_eq_some_iff.1 hxg).2]
      have hto := htr.take (p + 1)
      rw [htk] at hr hto hT
      obtain ⟨hxt, hnx, hlx⟩ := hto.last
      obtain ⟨x0, x1, x2⟩ := hlx
      have hpl : (tr.take p).length = p := by simp; omega
      obtain ⟨T', hT1, hTx, hr1⟩ := hr.cut hlk rfl
      simp only [AV.ref.injEq, hpl] at hT1
      obtain ⟨rfl, _, _⟩ := hT1
      have hTg : (tr.take p ++ x :: ex)[p]? = some x := by
        rw [List.getElem?_append_right (by omega), hpl]; simp
      have hTl := (List.getElem?_eq_some_iff.1 hTg).1
      have hf1 := hf.set (J := K) (X := .cells 13 [rowK c d (.ref T 0 (tr.take p).length) { (canon c (tr.take p ++ [x]) br md cnt exh) with tr := tr.take p }]) (.inl rfl)
      repeat (first | refine nav ?_ | refine bo ?_)
      (refine W_dreg (by decide +kernel) [] [0, 1, 2, 3, 4, 5, 6, 7, 8, 9, 10, 11, 12] [[], [0], [0, 1], [1, 0, 2], [], [4], [4, 5], [5, 4, 6], [6, 4, 5, 7], [7, 5, 4, 6, 8], [8, 6, 4, 5, 7, 9, 2, 0, 1, 3], [3, 1, 0, 2, 9, 7, 5, 4, 6, 8, 10], [10, 8, 6, 4, 5, 7, 9, 2, 0, 1, 3, 11]] (by decide +kernel) rfl fun K R hK hR => ?_; simp only [List.filterMap_cons, List.filterMap_nil, List.getElem?_cons_zero, List.getElem?_cons_succ, List.cons_append, List.nil_append]; simp (maxSteps := 10000000) only [go_sem, hr.k, rowK, hT, ints_get hTg, hpl, Nat.add_sub_cancel]; (try go_ints); (try simp only [go_sem, hr.k, rowK, hT, ints_get hTg, hpl, Nat.add_sub_cancel]); (repeat refine And.intro side ?_); (first | refine hK _ ?_ | refine hR _ _ ?_); clear hK hR K R)
      repeat (first | refine nav ?_ | refine bo ?_)
      refine W_joinS 28 42 [] (fun t o2 => RepG o2 K d c (.ref T 0 p) ⟨leftL c.list (tr.take p ++ [x]), goodL c.list (tr.take p ++ [x]), zeros (goodL c.list (tr.take p ++ [x])), valL c.vars (tr.take p ++ [x]), tr.take p, br, md, cnt, exh⟩ ∧ Fr o o2 K d ta) ?_ ?_
      · rw [hpl] at hr1 hf1
        (refine W_dreg (by decide +kernel) [] [0, 1, 2, 3, 4, 5, 6, 7, 8, 9, 10, 11, 12, 13, 14] [[], [], [1], [1, 2], [2, 1, 3], [], [5], [5, 6], [6, 5, 7], [7, 5, 6, 8], [8, 6, 5, 7, 9], [9, 7, 5, 6, 8, 10, 3, 1, 2, 4], [11, 10, 9, 8, 7, 6, 5, 4, 3, 2, 1, 0], [0, 1, 2, 3, 4, 5, 6, 7, 8, 9, 10, 11, 12], [12, 11, 10, 9, 8, 7, 6, 5, 4, 3, 2, 1, 0, 13]] (by decide +kernel) rfl fun K R hK hR => ?_; simp only [List.filterMap_cons, List.filterMap_nil, List.getElem?_cons_zero, List.getElem?_cons_succ, List.cons_append, List.nil_append]; simp (maxSteps := 10000000) only [go_sem, hr.k, rowK, hT, Nat.add_sub_cancel]; (try go_ints); (try simp only [go_sem, hr.k, rowK, hT, Nat.add_sub_cancel]); (repeat refine And.intro side ?_); (first | refine hK _ ?_ | refine hR _ _ ?_); clear hK hR K R)
        exact ⟨_, rfl, hr1, hf1⟩
      clear hr hr1 hf hf1 hT hTl hTg hTx o1
      rintro t5 o1 ⟨hr, hf⟩
      have hxs : (ints [x]) = [[.i .i64 x]] := rfl
      have h4 : ∀ t' : Nat → AV, (upd t' 4 (AV.i .i64 x)) 4 = .i .i64 x := fun _ => rfl
      generalize htp : tr.take p = tp at hr hto hxt hnx hpl htk
      repeat (first | refine nav ?_ | refine bo ?_)
      (refine wr fun K R hK hR => ?_; simp (maxSteps := 10000000) only [go_sem]; (try go_ints); (repeat refine And.intro side ?_); (first | refine hK _ ?_ | refine hR _ _ ?_); clear hK hR K R)
      repeat (first | refine nav ?_ | refine bo ?_)
      refine W_joinS 44 59 [] (fun t o2 => RepG o2 K d c (.ref T 0 p) ⟨leftL c.list (tp ++ [x]), goodL c.list (tp ++ [x]), zeros (goodL c.list (tp ++ [x])), valL c.vars tp, tp, br, md, cnt, exh⟩ ∧ Fr o o2 K d ta) ?_ ?_
      · have hvu := val_undo (n := c.vars) hxt hnx ⟨x0, x1, x2⟩
        have hvl := valL_len c.vars (tp ++ [x])
        refine W_cond (by simp only [go_sem] <;> exact rfl) (fun hb => ?_) (fun hb => ?_)
        · have hb : x > 0 := by simpa using hb
          rw [if_pos hb] at hvu
          have hv := valL_get (n := c.vars) (tr := tp ++ [x]) (v := (x - 1).toNat) (by omega)
          rw [← hvu]
          repeat (first | refine nav ?_ | refine bo ?_)
          (refine wr fun K R hK hR => ?_; simp (maxSteps := 10000000) only [go_sem, hr.k, hr.v, rowK, ints_get hv, hvl, ints_set]; (try go_ints); (try simp only [go_sem, hr.k, hr.v, rowK, ints_get hv, hvl, ints_set]); (repeat refine And.intro side ?_); (first | refine hK _ ?_ | refine hR _ _ ?_); clear hK hR K R)
          exact ⟨_, rfl, hr.setV hlk (by simp), hf.set (.inr (.inr (.inr rfl)))⟩
        · have hb : ¬ x > 0 := by simpa using hb
          rw [if_neg hb] at hvu
          have hv := valL_get (n := c.vars) (tr := tp ++ [x]) (v := (-x - 1).toNat) (by omega)
          have e2 : (0 - x - 1).toNat = (-x - 1).toNat := by omega
          rw [← hvu]
          repeat (first | refine nav ?_ | refine bo ?_)
          (refine wr fun K R hK hR => ?_; simp (maxSteps := 10000000) only [go_sem, hr.k, hr.v, rowK, e2, ints_get hv, hvl, ints_set]; (try go_ints); (try simp only [go_sem, hr.k, hr.v, rowK, e2, ints_get hv, hvl, ints_set]); (repeat refine And.intro side ?_); (first | refine hK _ ?_ | refine hR _ _ ?_); clear hK hR K R)
          exact ⟨_, rfl, hr.setV hlk (by simp), hf.set (.inr (.inr (.inr rfl)))⟩
      clear hr hf o1
      rintro t6 o1 ⟨hr, hf⟩
      have hsum := hc.sum x
      repeat (first | refine nav ?_ | refine bo ?_)
      refine W_joinS 59 67 [] (fun t o' => o' = o1 ∧ t 64 = ivOf c.es x ∧ t 65 = .i .i64 ((innOf c.list x).length : Nat) ∧ t 66 = .i .i64 0) ?_ ?_
      · rcases hr.inn x with ⟨hm, h⟩ | ⟨I, hm, hI, _⟩
        · (refine wr fun K R hK hR => ?_; simp (maxSteps := 10000000) only [go_sem, hr.k, rowK, hr.m, hm]; (try go_ints); (try simp only [go_sem, hr.k, rowK, hr.m, hm]); (repeat refine And.intro side ?_); (first | refine hK _ ?_ | refine hR _ _ ?_); clear hK hR K R)
          exact ⟨_, rfl, rfl, by simp only [go_sem, ivOf, hm], by simp only [go_sem, h] <;> rfl, by simp only [go_sem]⟩
        · (refine wr fun K R hK hR => ?_; simp (maxSteps := 10000000) only [go_sem, hr.k, rowK, hr.m, hm]; (try go_ints); (try simp only [go_sem, hr.k, rowK, hr.m, hm]); (repeat refine And.intro side ?_); (first | refine hK _ ?_ | refine hR _ _ ?_); clear hK hR K R)
          exact ⟨_, rfl, rfl, by simp only [go_sem, ivOf, hm], by simp only [go_sem], by simp only [go_sem]⟩
      rintro t7 o1' ⟨rfl, h64, h65, h66⟩
      have hgp := goodL_put (list := c.list) hxt
      have hbb := bump_bump 1 (-1) (innOf c.list x) (goodL c.list tp) (fun i hi => by obtain ⟨q, rfl, _⟩ := innOf_mem hi; omega) (by omega)
      rw [hgp] at hbb
      generalize hisx : innOf c.list x = is at h65 hsum hbb
      repeat (first | refine nav ?_ | refine bo ?_)
      refine W_for 66 95 [6] (fun m t o2 => ∃ k : Nat, RepG o2 K d c (.ref T 0 p) ⟨leftL c.list (tp ++ [x]), bump (-1) (goodL c.list (tp ++ [x])) (is.take k), zeros (bump (-1) (goodL c.list (tp ++ [x])) (is.take k)), valL c.vars tp, tp, br, md, cnt, exh⟩ ∧ Fr o o2 K d ta ∧ t 66 = .i .i64 k ∧ m = is.length - k ∧ k ≤ is.length) is.length
        ⟨0, hr, hf, by simp only [go_sem, h66] <;> rfl, by omega, Nat.zero_le _⟩ ?_
      clear h66
      rintro m t3 o2 ⟨k, hr2, hf2, h66, rfl, hk⟩
      repeat (first | refine nav ?_ | refine bo ?_)
      (refine wr fun K R hK hR => ?_; simp (maxSteps := 10000000) only [go_sem, h66, h65]; (try go_ints); (try simp only [go_sem, h66, h65]); (repeat refine And.intro side ?_); (first | refine hK _ ?_ | refine hR _ _ ?_); clear hK hR K R)
      repeat (first | refine nav ?_ | refine bo ?_)
      refine W_cond (by simp only [go_sem] <;> exact rfl) (fun hb => ?_) (fun hb => ?_)
      · simp at hb
        obtain ⟨i, hi⟩ : ∃ i, is[k]? = some i := ⟨_, List.getElem?_eq_getElem hb⟩
        obtain ⟨j, rfl, hj, _⟩ := innOf_mem (list := c.list) (x := x) (by rw [hisx]; exact List.mem_of_getElem? hi)
        have hin := hr2.inn x
        unfold InAt at hin
        rw [hisx] at hin
        rcases hin with ⟨_, q2⟩ | ⟨I, hm, hI, i1, i2, i3, _⟩
        · subst q2; simp at hb
        have hiv : ivOf c.es x = .ref I 0 is.length := by rw [ivOf, hm]
        have hgl : (bump (-1) (goodL c.list (tp ++ [x])) (is.take k)).length = c.list.length := by rw [bump_len, goodL_len]
        obtain ⟨gv, hgv⟩ : ∃ v, (bump (-1) (goodL c.list (tp ++ [x])) (is.take k))[j]? = some v := ⟨_, List.getElem?_eq_getElem (by omega)⟩
        have hgb := bump_bd hc (tp ++ [x]) x (-1) (.inr rfl) k j _ (.inl rfl) (by rw [hisx]; exact hgv)
        have hg1 : 1 ≤ gv := by
          have e1 := bump_get (-1) (is.take k) (goodL c.list (tp ++ [x])) j (fun i hi => by
            obtain ⟨q, rfl, _⟩ := innOf_mem (list := c.list) (x := x) (by rw [hisx]; exact List.mem_of_mem_take hi); omega) (by rw [goodL_len]; exact hj)
          rw [getD_of2 hgv, getD_of2 (goodL_get hj), good_put (n := 0) hxt] at e1
          have e2 := count_take_lt hi
          have e3 := innOf_count c.list x j hj
          rw [hisx] at e3
          omega
        obtain ⟨_, hgb⟩ := hgb
        have hz := bump_zeros hi hgv
        have hzb := zeros_bd (bump (-1) (goodL c.list (tp ++ [x])) (is.take k))
        have hst := bump_step hi hgv
        rw [hgl] at hzb
        generalize bump (-1) (goodL c.list (tp ++ [x])) (is.take k) = gd at hr2 hgl hgv hz hzb hst
        have hst' : gd.set j (gv - 1) = bump (-1) (goodL c.list (tp ++ [x])) (is.take (k + 1)) := hst
        have hr3 := hr2.setG (g' := gd.set j (gv - 1)) hlk (by simp)
        have hf3 := hf2.set (J := d.G) (X := .cells 1 (ints (gd.set j (gv - 1)))) (.inr (.inr (.inl rfl)))
        have hgl3 : (gd.set j (gv - 1)).length = c.list.length := by rw [List.length_set, hgl]
        have hgv3 : (gd.set j (gv - 1))[j]? = some (gv - 1) := by rw [List.getElem?_set, if_pos rfl, if_pos (by omega)]
        repeat (first | refine nav ?_ | refine bo ?_)
        (refine wr fun K R hK hR => ?_; simp (maxSteps := 10000000) only [go_sem, h66, h64, hiv, hI, ints_get hi]; (try go_ints); (try simp only [go_sem, h66, h64, hiv, hI, ints_get hi]); (repeat refine And.intro side ?_); (first | refine hK _ ?_ | refine hR _ _ ?_); clear hK hR K R)
        repeat (first | refine nav ?_ | refine bo ?_)
        (refine wr fun K R hK hR => ?_; simp (maxSteps := 10000000) only [go_sem, hr2.k, rowK, hr2.g, ints_get hgv, hgl, ints_set]; (try go_ints); (try simp only [go_sem, hr2.k, rowK, hr2.g, ints_get hgv, hgl, ints_set]); (repeat refine And.intro side ?_); (first | refine hK _ ?_ | refine hR _ _ ?_); clear hK hR K R)
        generalize o2.set d.G (.cells 1 (ints (gd.set j (gv - 1)))) = o3 at hr3 hf3 ⊢
        rw [hst'] at hr3 hgl3 hgv3
        repeat (first | refine nav ?_ | refine bo ?_)
        (refine wr fun K R hK hR => ?_; simp (maxSteps := 10000000) only [go_sem, hr3.k, rowK, hr3.g, ints_get hgv3, hgl3]; (try go_ints); (try simp only [go_sem, hr3.k, rowK, hr3.g, ints_get hgv3, hgl3]); (repeat refine And.intro side ?_); (first | refine hK _ ?_ | refine hR _ _ ?_); clear hK hR K R)
        repeat (first | refine nav ?_ | refine bo ?_)
        refine W_cond (by simp only [go_sem] <;> exact rfl) (fun hc1 => ?_) (fun hc1 => ?_)
        · have hc1 : gv - 1 = 0 := by simpa using hc1
          have hz : zeros (bump (-1) (goodL c.list (tp ++ [x])) (is.take (k + 1))) = zeros gd + 1 := by
            rw [hz, if_neg (by omega), if_pos (by omega)]; omega
          repeat (first | refine nav ?_ | refine bo ?_)
          (refine wr fun K R hK hR => ?_; simp (maxSteps := 10000000) only [go_sem, hr3.k, rowK]; (try go_ints); (try simp only [go_sem, hr3.k, rowK]); (repeat refine And.intro side ?_); (first | refine hK _ ?_ | refine hR _ _ ?_); clear hK hR K R)
          repeat (first | refine nav ?_ | refine bo ?_)
          (refine wr fun K R hK hR => ?_; simp (maxSteps := 10000000) only [go_sem, h66]; (try go_ints); (try simp only [go_sem, h66]); (repeat refine And.intro side ?_); (first | refine hK _ ?_ | refine hR _ _ ?_); clear hK hR K R)
          refine forQ_normal (is.length - (k + 1)) (by omega) ⟨k + 1, ?_, hf3.set (.inl rfl), ?_⟩
          · rw [hz]
            exact hr3.setK hlk hr3.taOk (s' := ⟨leftL c.list (tp ++ [x]), bump (-1) (goodL c.list (tp ++ [x])) (is.take (k + 1)), zeros gd + 1, valL c.vars tp, tp, br, md, cnt, exh⟩) rfl rfl rfl rfl hr3.md
          · ((try simp only [go_sem]); (repeat' refine And.intro ?_ ?_) <;> (try first | with_reducible rfl | omega | with_reducible assumption | (simp; done)))
        · have hc1 : ¬ gv - 1 = 0 := by simpa using hc1
          have hz : zeros (bump (-1) (goodL c.list (tp ++ [x])) (is.take (k + 1))) = zeros gd := by
            rw [hz, if_neg (by omega), if_neg (by omega)]; omega
          repeat (first | refine nav ?_ | refine bo ?_)
          (refine wr fun K R hK hR => ?_; simp (maxSteps := 10000000) only [go_sem, h66]; (try go_ints); (try simp only [go_sem, h66]); (repeat refine And.intro side ?_); (first | refine hK _ ?_ | refine hR _ _ ?_); clear hK hR K R)
          refine forQ_normal (is.length - (k + 1)) (by omega) ⟨k + 1, ?_, hf3, ?_⟩
          · rw [hz]; exact hr3
          · ((try simp only [go_sem]); (repeat' refine And.intro ?_ ?_) <;> (try first | with_reducible rfl | omega | with_reducible assumption | (simp; done)))
      · simp at hb
        obtain rfl : is.length = k := by omega
        rw [List.take_length, hbb] at hr2
        clear hr hf hsum
        have hsum := hc.sum (-x)
        have hlp := leftL_put (list := c.list) hxt
        have hlb := bump_bump (-1) 1 (innOf c.list (-x)) (leftL c.list tp) (fun i hi => by obtain ⟨q, rfl, _⟩ := innOf_mem hi; omega) (by omega)
        rw [hlp] at hlb
        repeat (first | refine nav ?_ | refine bo ?_)
        refine W_joinS 95 104 [] (fun t o' => o' = o2 ∧ t 101 = ivOf c.es (-x) ∧ t 102 = .i .i64 ((innOf c.list (-x)).length : Nat) ∧ t 103 = .i .i64 0) ?_ ?_
        · rcases hr2.inn (-x) with ⟨hm, h⟩ | ⟨I, hm, hI, _⟩
          · (refine wr fun K R hK hR => ?_; simp (maxSteps := 10000000) only [go_sem, hr2.k, rowK, hr2.m, Int.zero_sub, hm]; (try go_ints); (try simp only [go_sem, hr2.k, rowK, hr2.m, Int.zero_sub, hm]); (repeat refine And.intro side ?_); (first | refine hK _ ?_ | refine hR _ _ ?_); clear hK hR K R)
            exact ⟨_, rfl, rfl, by simp only [go_sem, ivOf, hm], by simp only [go_sem, h] <;> rfl, by simp only [go_sem]⟩
          · (refine wr fun K R hK hR => ?_; simp (maxSteps := 10000000) only [go_sem, hr2.k, rowK, hr2.m, Int.zero_sub, hm]; (try go_ints); (try simp only [go_sem, hr2.k, rowK, hr2.m, Int.zero_sub, hm]); (repeat refine And.intro side ?_); (first | refine hK _ ?_ | refine hR _ _ ?_); clear hK hR K R)
            exact ⟨_, rfl, rfl, by simp only [go_sem, ivOf, hm], by simp only [go_sem], by simp only [go_sem]⟩
        rintro t8 o2' ⟨rfl, h101, h102, h103⟩
        generalize hisn : innOf c.list (-x) = js at h102 hsum hlb
        repeat (first | refine nav ?_ | refine bo ?_)
        refine W_for 103 117 [8] (fun m t o2 => ∃ k : Nat, RepG o2 K d c (.ref T 0 p) ⟨bump 1 (leftL c.list (tp ++ [x])) (js.take k), goodL c.list tp, zeros (goodL c.list tp), valL c.vars tp, tp, br, md, cnt, exh⟩ ∧ Fr o o2 K d ta ∧ t 103 = .i .i64 k ∧ m = js.length - k ∧ k ≤ js.length) js.length
          ⟨0, hr2, hf2, by simp only [go_sem, h103] <;> rfl, by omega, Nat.zero_le _⟩ ?_
        clear hr2 hf2 h103
        rintro m t4 o2 ⟨k, hr2, hf2, h103, rfl, hk⟩
        repeat (first | refine nav ?_ | refine bo ?_)
        (refine wr fun K R hK hR => ?_; simp (maxSteps := 10000000) only [go_sem, h103, h102]; (try go_ints); (try simp only [go_sem, h103, h102]); (repeat refine And.intro side ?_); (first | refine hK _ ?_ | refine hR _ _ ?_); clear hK hR K R)
        repeat (first | refine nav ?_ | refine bo ?_)
        refine W_cond (by simp only [go_sem] <;> exact rfl) (fun hb => ?_) (fun hb => ?_)
        · simp at hb
          obtain ⟨i, hi⟩ : ∃ i, js[k]? = some i := ⟨_, List.getElem?_eq_getElem hb⟩
          obtain ⟨j, rfl, hj, _⟩ := innOf_mem (list := c.list) (x := -x) (by rw [hisn]; exact List.mem_of_getElem? hi)
          have hin := hr2.inn (-x)
          unfold InAt at hin
          rw [hisn] at hin
          rcases hin with ⟨_, q2⟩ | ⟨I, hm, hI, i1, i2, i3, _⟩
          · subst q2; simp at hb
          have hiv : ivOf c.es (-x) = .ref I 0 js.length := by rw [ivOf, hm]
          have hgl : (bump 1 (leftL c.list (tp ++ [x])) (js.take k)).length = c.list.length := by rw [bump_len, leftL_len]
          obtain ⟨gv, hgv⟩ : ∃ v, (bump 1 (leftL c.list (tp ++ [x])) (js.take k))[j]? = some v := ⟨_, List.getElem?_eq_getElem (by omega)⟩
          have hgb := (bump_bd hc (tp ++ [x]) (-x) 1 (.inl rfl) k j _ (.inr rfl) (by rw [hisn]; exact hgv)).2
          have hst := bump_step hi hgv
          generalize bump 1 (leftL c.list (tp ++ [x])) (js.take k) = gd at hr2 hgl hgv hst
          repeat (first | refine nav ?_ | refine bo ?_)
          (refine wr fun K R hK hR => ?_; simp (maxSteps := 10000000) only [go_sem, h103, h101, hiv, hI, ints_get hi]; (try go_ints); (try simp only [go_sem, h103, h101, hiv, hI, ints_get hi]); (repeat refine And.intro side ?_); (first | refine hK _ ?_ | refine hR _ _ ?_); clear hK hR K R)
          repeat (first | refine nav ?_ | refine bo ?_)
          (refine wr fun K R hK hR => ?_; simp (maxSteps := 10000000) only [go_sem, hr2.k, rowK, hr2.l, ints_get hgv, hgl, ints_set]; (try go_ints); (try simp only [go_sem, hr2.k, rowK, hr2.l, ints_get hgv, hgl, ints_set]); (repeat refine And.intro side ?_); (first | refine hK _ ?_ | refine hR _ _ ?_); clear hK hR K R)
          have hr3 := hr2.setL (g' := gd.set j (gv + 1)) hlk (by simp)
          rw [hst] at hr3
          rw [hst]
          repeat (first | refine nav ?_ | refine bo ?_)
          (refine wr fun K R hK hR => ?_; simp (maxSteps := 10000000) only [go_sem, h103]; (try go_ints); (try simp only [go_sem, h103]); (repeat refine And.intro side ?_); (first | refine hK _ ?_ | refine hR _ _ ?_); clear hK hR K R)
          refine forQ_normal (js.length - (k + 1)) (by omega) ⟨k + 1, hr3, hf2.set (.inr (.inl rfl)), ?_⟩
          ((try simp only [go_sem]); (repeat' refine And.intro ?_ ?_) <;> (try first | with_reducible rfl | omega | with_reducible assumption | (simp; done)))
        · simp at hb
          obtain rfl : js.length = k := by omega
          rw [List.take_length, hlb] at hr2
          subst htp
          rw [mix_mix (lo := 28) (lo' := 9) rfl]
          simp only [mix_upd, inL, Nat.reduceLeDiff, Nat.reduceLT, decide_true, Bool.true_and, Bool.and_true, Bool.true_or, if_true]
          rw [mix_mix (lo := 44) (lo' := 9) rfl, mix_mix (lo := 59) (lo' := 9) rfl, mix_mix (lo := 66) (lo' := 9) rfl, mix_mix (lo := 95) (lo' := 9) rfl, mix_mix (lo := 103) (lo' := 9) rfl]
          repeat (first | refine nav ?_ | refine bo ?_)
          refine forQ_normal (p - n) (by omega) ⟨p, .ref T 0 p, ?_, hf2, fun j l e => htaT j l _ e, rfl, by omega, by omega⟩
          exact hr2
    · simp at hb
      have : n = q := by omega
      subst this
      repeat (first | refine nav ?_ | refine bo ?_)
      refine endQ_alln (by simp only [go_sem] <;> exact rfl) (Le.refl _) hf.1 hr.ok rfl ⟨rfl, _, hr, hf, fun j l e => htaT j l _ e⟩
end Go.AW
/-
Clauses and their models, in plain words.
-/
namespace Go.AW
open Go Go.Proofs TyTry Go.IntWalk
set_option linter.unusedSimpArgs false
set_option linter.unusedVariables false

/-- Is a literal true under truth values? -/
def litB (a : List Bool) (x : Int) : Bool := if x > 0 then a.getD (x - 1).toNat false else !(a.getD (-x - 1).toNat false)
def satC (list : List (List Int)) (a : List Bool) : Bool := list.all fun l => l.any (litB a)
def agr (tr : List Int) (a : List Bool) : Bool := tr.all (litB a)
theorem litB_neg {a : List Bool} {x : Int} (h : x ≠ 0) : litB a (-x) = !litB a x := by
  unfold litB
  by_cases h1 : x > 0
  · rw [if_pos h1, if_neg (by omega), Int.neg_neg]
  · rw [if_neg h1, if_pos (by omega), Bool.not_not]
theorem agr_app {t u : List Int} {a : List Bool} : agr (t ++ u) a = (agr t a && agr u a) := by simp [agr]
theorem agr_mem {t : List Int} {a : List Bool} (h : agr t a = true) {x : Int} (hx : x ∈ t) : litB a x = true := List.all_eq_true.1 h x hx
/-- No clause is false without being seen. -/
def Quiet (list : List (List Int)) (tr : List Int) : Prop := ∀ i < list.length, list.getD i [] ≠ [] → goodOf list tr i = 0 → leftOf list tr i ≠ 0
theorem nodup_len2 : ∀ (n : Nat) (l : List Nat), l.Nodup → (∀ x ∈ l, x < n) → l.length ≤ n
  | 0, l, _, h => by
    cases l with
    | nil => simp
    | cons a l => have := h a (by simp); omega
  | n + 1, l, hd, h => by
    by_cases hn : n ∈ l
    · have h1 := nodup_len2 n (l.erase n) (hd.erase n) fun x hx => by
        rw [hd.mem_erase_iff] at hx
        have h2 := h x hx.2
        have h3 := hx.1
        omega
      rw [List.length_erase_of_mem hn] at h1
      omega
    · have := nodup_len2 n l hd fun x hx => by
        have h2 := h x hx
        have h3 : x ≠ n := fun e => hn (e ▸ hx)
        omega
      omega
theorem TrOk.len {n : Nat} {tr : List Int} (h : TrOk n tr) : tr.length ≤ n := by
  have h1 : (tr.map fun x => x.natAbs - 1).Nodup := by
    have key : ∀ tr : List Int, tr.Nodup → (∀ x ∈ tr, x ≠ 0) → (∀ x ∈ tr, -x ∉ tr) → (tr.map fun x => x.natAbs - 1).Nodup := by
      intro tr
      induction tr with
      | nil => intro _ _ _; simp
      | cons x tr ih =>
        intro hnd h0 hop
        rw [List.nodup_cons] at hnd
        rw [List.map_cons, List.nodup_cons]
        refine ⟨fun hm => ?_, ih hnd.2 (fun y hy => h0 y (by simp [hy])) fun y hy hn => hop y (by simp [hy]) (by simp [hn])⟩
        rw [List.mem_map] at hm
        obtain ⟨y, hy, e⟩ := hm
        have hy0 := h0 y (by simp [hy])
        have hx0 := h0 x (by simp)
        have e2 : y = x ∨ y = -x := by omega
        rcases e2 with rfl | rfl
        · exact hnd.1 hy
        · exact hop x (by simp) (by simp [hy])
    exact key tr h.nd (fun x hx => (h.lit x hx).1) h.opp
  have := nodup_len2 n _ h1 fun y hy => by
    rw [List.mem_map] at hy
    obtain ⟨x, hx, rfl⟩ := hy
    obtain ⟨a, b, c⟩ := h.lit x hx
    omega
  simpa using this
theorem TrOk.snoc {n : Nat} {tr : List Int} {x : Int} (h : TrOk n tr) (hx : LitOk n x) (h1 : x ∉ tr) (h2 : -x ∉ tr) : TrOk n (tr ++ [x]) := by
  refine ⟨?_, fun y hy => ?_, fun y hy hn => ?_⟩
  · rw [List.nodup_append]
    refine ⟨h.nd, by simp, fun a ha b hb => ?_⟩
    simp only [List.mem_singleton] at hb
    subst hb
    exact fun e => h1 (e ▸ ha)
  · simp only [List.mem_append, List.mem_singleton] at hy
    rcases hy with hy | rfl
    · exact h.lit y hy
    · exact hx
  · simp only [List.mem_append, List.mem_singleton] at hy hn
    have := hx.1
    rcases hy with hy | rfl
    · rcases hn with hn | hn
      · exact h.opp y hy hn
      · exact h2 (by rw [← hn, Int.neg_neg]; exact hy)
    · rcases hn with hn | hn
      · exact h2 hn
      · omega
theorem isL_cases {n : Nat} {tr : List Int} (h : TrOk n tr) (x : Int) : (isL tr x = 1 ∧ x ∈ tr ∧ -x ∉ tr) ∨ (isL tr x = -1 ∧ -x ∈ tr ∧ x ∉ tr) ∨ (isL tr x = 0 ∧ x ∉ tr ∧ -x ∉ tr) := by
  unfold isL
  by_cases h1 : x ∈ tr
  · exact .inl ⟨by simp [h1], h1, h.opp x h1⟩
  · by_cases h2 : -x ∈ tr
    · exact .inr (.inl ⟨by simp [h1, h2], h2, h1⟩)
    · exact .inr (.inr ⟨by simp [h1, h2], h1, h2⟩)
/-- A clause without a literal left is met by no truth values that agree. -/
theorem no_left {list : List (List Int)} {tr : List Int} {i : Nat} (hi : i < list.length) (h0 : ∀ l ∈ list, ∀ x ∈ l, x ≠ 0) (hl : leftOf list tr i = 0) {a : List Bool} (hs : satC list a = true) (ha : agr tr a = true) : False := by
  have hg : list.getD i [] = list[i] := by simp [hi]
  rw [leftOf, hg, List.length_eq_zero_iff, List.filter_eq_nil_iff] at hl
  have h1 := List.all_eq_true.1 hs list[i] (List.getElem_mem hi)
  rw [List.any_eq_true] at h1
  obtain ⟨x, hx, hb⟩ := h1
  have h2 := hl x hx
  have h3 : -x ∈ tr := by simpa using h2
  have h4 := agr_mem ha h3
  rw [litB_neg (h0 _ (List.getElem_mem hi) x hx), hb] at h4
  cases h4
/-- A clause with one literal left has it true. -/
theorem one_left {list : List (List Int)} {tr : List Int} {i : Nat} (hi : i < list.length) (h0 : ∀ l ∈ list, ∀ x ∈ l, x ≠ 0) (hl : leftOf list tr i = 1) {z : Int} (hz : z ∈ list.getD i []) (hzt : -z ∉ tr) {a : List Bool} (hs : satC list a = true) (ha : agr tr a = true) : litB a z = true := by
  have hg : list.getD i [] = list[i] := by simp [hi]
  rw [hg] at hz
  rw [leftOf, hg] at hl
  have h1 := List.all_eq_true.1 hs list[i] (List.getElem_mem hi)
  rw [List.any_eq_true] at h1
  obtain ⟨x, hx, hb⟩ := h1
  have hxt : -x ∉ tr := fun hm => by
    have h4 := agr_mem ha hm
    rw [litB_neg (h0 _ (List.getElem_mem hi) x hx), hb] at h4
    cases h4
  obtain ⟨w, hw⟩ := List.length_eq_one_iff.1 hl
  have e1 : x ∈ (list[i].filter fun y => !(tr.contains (-y))) := List.mem_filter.2 ⟨hx, by simpa using hxt⟩
  have e2 : z ∈ (list[i].filter fun y => !(tr.contains (-y))) := List.mem_filter.2 ⟨hz, by simpa using hzt⟩
  rw [hw, List.mem_singleton] at e1 e2
  rw [e2, ← e1]; exact hb
/-- Where no literal is true and one is left, one is open. -/
theorem open_left {n : Nat} {list : List (List Int)} {tr : List Int} {i : Nat} (htr : TrOk n tr) (hg : goodOf list tr i = 0) (hl : leftOf list tr i ≠ 0) : ∃ z ∈ list.getD i [], isL tr z = 0 := by
  unfold leftOf at hl
  rw [goodOf, List.length_eq_zero_iff, List.filter_eq_nil_iff] at hg
  obtain ⟨z, hz⟩ : ∃ z, z ∈ ((list.getD i []).filter fun y => !(tr.contains (-y))) := by
    cases hq : ((list.getD i []).filter fun y => !(tr.contains (-y))) with
    | nil => rw [hq] at hl; simp at hl
    | cons z r => exact ⟨z, by simp⟩
  rw [List.mem_filter] at hz
  refine ⟨z, hz.1, ?_⟩
  have h1 : z ∉ tr := by simpa using hg z hz.1
  have h2 : -z ∉ tr := by simpa using hz.2
  rcases isL_cases htr z with h | h | h
  · exact absurd h.2.1 h1
  · exact absurd h.2.1 h2
  · exact h.1
/-- What making a number true asks, and what it brings. -/
structure SetPost (n : Nat) (list : List (List Int)) (tr : List Int) (x : Int) (b : Bool) (tr' : List Int) : Prop where
  ok : TrOk n tr'
  ext : ∃ e, tr' = tr ++ e
  yes : b = true → x ∈ tr' ∧ Quiet list tr' ∧ ∀ a, satC list a = true → agr tr a = true → litB a x = true → agr tr' a = true
  no : b = false → ∀ a, satC list a = true → agr tr a = true → litB a x = true → False
end Go.AW
