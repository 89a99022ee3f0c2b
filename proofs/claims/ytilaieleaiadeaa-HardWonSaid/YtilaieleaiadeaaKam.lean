/-
The law Awake: it returns true; and HardSound with it.
-/
import Derived.Test.YtilaieleaiadeaaKai
import Derived.Test.YtilaieleaiadeaaKaj
import Derived.Test.YtilaieleaiadeaaKak
import Derived.Test.YtilaieleaiadeaaKal
import Derived.SizedLaws
import Derived.Test.YtilaieleaiadeaaKag
namespace Go.AW
open Go Go.Proofs TyTry
set_option linter.unusedSimpArgs false
set_option maxRecDepth 100000
def tabAw : List (FuncId × List AV × AV) := [(11, [fourA], .tup [.sl 1 (ints [0, 3]), .i .i64 0]), (12, [fourA, .i .i64 2], .tup [.i .i64 3, .i .i64 0]),
  (22, [.agg [.i .i64 1, .sl 1 [[.sl 1 [[.i .i64 1]]], [.sl 1 [[.i .i64 (-1)]]]]]], .tup [.sl 1 [], .i .i64 6]), (20, [.agg [.i .i64 2, .sl 1 [[.sl 1 [[.i .i64 1], [.i .i64 2]]]]]], .tup [.i .i64 3, .i .i64 0])]
def envTab (f : FuncId) (ac : List AV) (oc : List Ob) : List (FuncId × List AV × AV) → Option (AV × List Ob)
  | [] => none
  | (g, bc, r) :: l => if f == g && eqAL ac bc then some (r, oc) else envTab f ac oc l
theorem envTab_mem {f : FuncId} {ac : List AV} {oc : List Ob} {x : AV × List Ob} : ∀ {l : List (FuncId × List AV × AV)}, envTab f ac oc l = some x → x.2 = oc ∧ (f, ac, x.1) ∈ l
  | [], h => by cases h
  | (g, bc, r) :: l, h => by
    rw [envTab] at h
    by_cases hc : (f == g && eqAL ac bc) = true
    · rw [if_pos hc] at h
      simp only [Bool.and_eq_true, beq_iff_eq] at hc
      obtain ⟨rfl, h2⟩ := hc
      obtain rfl := eqAL_eq _ _ h2
      obtain rfl := Option.some.inj h
      exact ⟨rfl, by simp⟩
    · rw [if_neg hc] at h
      obtain ⟨a, b⟩ := envTab_mem h
      exact ⟨a, List.mem_cons_of_mem _ b⟩
theorem tabAw_ok : ∀ x ∈ tabAw, ACallsD Try.prog x.1 x.2.1 x.2.2 ∧ x.2.1.all (AV.ltk 0) = true ∧ x.2.2.ltk 0 = true := by
  intro x hx
  simp only [tabAw, List.mem_cons, List.not_mem_nil, or_false] at hx
  rcases hx with rfl | rfl | rfl | rfl
  · exact ⟨walk_run, by decide +kernel, by decide +kernel⟩
  · exact ⟨walks_run, by decide +kernel, by decide +kernel⟩
  · exact ⟨solve_run, by decide +kernel, by decide +kernel⟩
  · exact ⟨models_run, by decide +kernel, by decide +kernel⟩
theorem awake_spec : ACallsD Try.prog 9 [] (.b true) :=
  ((x_sound (fun f ac oc => envTab f ac oc tabAw) flAw (by decide +kernel) (fun f ac oc r o' h => by
    obtain ⟨h1, h2⟩ := envTab_mem h
    simp only at h1 h2
    subst h1
    obtain ⟨a, b, c⟩ := tabAw_ok _ h2
    exact ⟨a.frame b c _, Nat.le_refl _⟩) 500).2.2.2.1 9 [] [] (.b true) [] (by kernel_rfl)).1
theorem hardSound_spec (s : StrD) (hs : s.Wide) (ord : List Int) :
    ACallsD Try.prog 6 [.agg [.i .i64 s.size, .sl 3 (rels s.rels)], .sl 1 (ints ord)] (.b true) := sound_spec awake_spec s hs ord
#print axioms hardSound_spec
end Go.AW
/-
What the laws' arguments read as, with their sizes.
-/
namespace Go.AW
open Go Go.Proofs TyTry
set_option linter.unusedSimpArgs false
set_option linter.unusedVariables false
set_option maxRecDepth 100000
/-- The fields of a struct. -/
def fldsOf (P : Program) (t : TypeId) : Array Field := match P.underlying t with | some (.struct fs) => fs | _ => #[]
theorem undInt : Try.prog.underlying 3 = some (.int .i64) := by kernel_rfl
theorem undStr : Try.prog.underlying 9 = some .string := by kernel_rfl
theorem undInts : Try.prog.underlying 29 = some (.slice 3) := by kernel_rfl
theorem undTups : Try.prog.underlying 40 = some (.slice 29) := by kernel_rfl
theorem undRels : Try.prog.underlying 22 = some (.slice 64) := by kernel_rfl
theorem undRel : Try.prog.underlying 64 = some (.struct (fldsOf Try.prog 64)) := by kernel_rfl
theorem undStru : Try.prog.underlying 24 = some (.struct (fldsOf Try.prog 24)) := by kernel_rfl
theorem fldsRel : (fldsOf Try.prog 64).toList.map (·.type) = [9, 3, 40] := by kernel_rfl
theorem fldsStru : (fldsOf Try.prog 24).toList.map (·.type) = [3, 22] := by kernel_rfl
section
variable {H : Type} {w : World} {enc : TypeId × Value → H} {base : Nat} {spare : Nat → Bool} {held : Bool}
/-- Nothing in it takes more than there can be. -/
def Lite (t : TypeId) (d : DataW H) : Prop := ∀ n ∈ d.weights Try.prog t, n ≤ reachBytes
theorem weightsAll_in {P : Program} {e : TypeId} : ∀ {l : List (DataW H)} {d : DataW H}, d ∈ l → ∀ n ∈ d.weights P e, n ∈ DataW.weightsAll P e l
  | x :: l, d, h, n, hn => by
    simp only [DataW.weightsAll, List.mem_append]
    rcases List.mem_cons.1 h with rfl | h
    · exact .inl hn
    · exact .inr (weightsAll_in h n hn)
theorem read_int {k : Nat} {cs : List Value} {d : DataW H} {ps : List MemPlace} (h : DataW.trod enc Try.prog w base spare held k 3 cs = some (d, ps)) : ∃ n, cellsAV Try.prog k 3 d = [.i .i64 n] := by
  cases k with
  | zero => simp [DataW.trod] at h
  | succ k =>
    unfold DataW.trod at h
    rw [undInt] at h
    rcases cs with _ | ⟨v, _ | ⟨v2, r⟩⟩
    · simp at h
    · cases v <;> simp at h
      obtain ⟨⟨rfl, _⟩, rfl, _⟩ := h
      exact ⟨_, by simp only [cellsAV, undInt]; exact rfl⟩
    · simp at h
theorem read_str {k : Nat} {cs : List Value} {d : DataW H} {ps : List MemPlace} (h : DataW.trod enc Try.prog w base spare held k 9 cs = some (d, ps)) (hw : Lite 9 d) : ∃ x : ByteArray, cellsAV Try.prog k 9 d = [.s x] ∧ x.size ≤ reachBytes := by
  cases k with
  | zero => simp [DataW.trod] at h
  | succ k =>
    unfold DataW.trod at h
    rw [undStr] at h
    rcases cs with _ | ⟨v, _ | ⟨v2, r⟩⟩
    · simp at h
    · cases v with
      | string x =>
        simp only at h
        split at h
        · simp only [Option.some.injEq, Prod.mk.injEq] at h
          obtain ⟨rfl, _⟩ := h
          refine ⟨x, by simp only [cellsAV, undStr], ?_⟩
          have := hw x.data.toList.length (by simp [DataW.weights])
          have e : x.size = x.data.toList.length := by rw [Array.length_toList]; rfl
          omega
        · cases h
      | _ => simp at h
    · simp at h
theorem read_sl {k : Nat} {t e : TypeId} {cs : List Value} {d : DataW H} {ps : List MemPlace} (hu : Try.prog.underlying t = some (.slice e)) (hb : 0 < Try.prog.bytesOf e)
    (h : DataW.trod enc Try.prog w base spare held (k + 1) t cs = some (d, ps)) (hw : Lite t d) :
    ∃ elems : List (DataW H), cellsAV Try.prog (k + 1) t d = [.sl (szOf Try.prog e) (elems.map fun x => cellsAV Try.prog k e x)] ∧ elems.length ≤ reachBytes ∧
      ∀ x ∈ elems, (∃ cells q, DataW.trod enc Try.prog w base spare held k e cells = some (x, q)) ∧ Lite e x := by
  obtain ⟨elems, h1, h2, h3⟩ := read_slice hu h
  rcases h2 with ⟨rfl, rfl⟩ | ⟨sp, rfl⟩
  · exact ⟨[], h1, Nat.zero_le _, fun x hx => by simp at hx⟩
  · refine ⟨elems, h1, ?_, fun x hx => ⟨h3 x hx, fun n hn => hw n ?_⟩⟩
    · have := hw ((elems.length + sp.length) * Try.prog.bytesOf e) (by simp [DataW.weights, hu])
      have h4 : elems.length ≤ (elems.length + sp.length) * Try.prog.bytesOf e :=
        Nat.le_trans (Nat.le_add_right _ _) (Nat.le_mul_of_pos_right _ hb)
      omega
    · simp only [DataW.weights, hu, List.mem_cons, List.mem_append]
      exact .inr (.inl (weightsAll_in hx n hn))
theorem read_map {α β γ : Type} {F : α → γ} {G : β → γ} {Pr : β → Prop} : ∀ {l : List α}, (∀ x ∈ l, ∃ y, F x = G y ∧ Pr y) → ∃ r : List β, l.map F = r.map G ∧ r.length = l.length ∧ ∀ y ∈ r, Pr y
  | [], _ => ⟨[], rfl, rfl, fun y hy => by simp at hy⟩
  | x :: l, h => by
    obtain ⟨r, h1, h2, h3⟩ := read_map (l := l) fun x hx => h x (by simp [hx])
    obtain ⟨y, e1, e2⟩ := h x (by simp)
    refine ⟨y :: r, by simp [h1, e1], by simp [h2], fun z hz => ?_⟩
    rcases List.mem_cons.1 hz with rfl | hz
    · exact e2
    · exact h3 z hz
theorem read_ints {k : Nat} {cs : List Value} {d : DataW H} {ps : List MemPlace} (h : DataW.trod enc Try.prog w base spare held k 29 cs = some (d, ps)) (hw : Lite 29 d) : ∃ l : List Int, cellsAV Try.prog k 29 d = [.sl 1 (ints l)] ∧ l.length ≤ reachBytes := by
  cases k with
  | zero => simp [DataW.trod] at h
  | succ k =>
    obtain ⟨elems, h1, h2, h3⟩ := read_sl undInts (by decide +kernel) h hw
    obtain ⟨r, e1, e2, _⟩ := read_map (F := fun x => cellsAV Try.prog k 3 x) (G := fun n : Int => [AV.i .i64 n]) (Pr := fun _ => True) (l := elems) fun x hx => by
      obtain ⟨⟨cells, q, hq⟩, _⟩ := h3 x hx
      obtain ⟨n, hn⟩ := read_int hq
      exact ⟨n, hn, trivial⟩
    exact ⟨r, by rw [h1, e1, sz3]; rfl, by omega⟩
theorem read_tups {k : Nat} {cs : List Value} {d : DataW H} {ps : List MemPlace} (h : DataW.trod enc Try.prog w base spare held k 40 cs = some (d, ps)) (hw : Lite 40 d) :
    ∃ l : List (List Int), cellsAV Try.prog k 40 d = [.sl 1 (tups l)] ∧ l.length ≤ reachBytes ∧ ∀ t ∈ l, t.length ≤ reachBytes := by
  cases k with
  | zero => simp [DataW.trod] at h
  | succ k =>
    obtain ⟨elems, h1, h2, h3⟩ := read_sl undTups (by decide +kernel) h hw
    obtain ⟨r, e1, e2, e3⟩ := read_map (F := fun x => cellsAV Try.prog k 29 x) (G := fun l : List Int => [AV.sl 1 (ints l)]) (Pr := fun l => l.length ≤ reachBytes) (l := elems) fun x hx => by
      obtain ⟨⟨cells, q, hq⟩, hl⟩ := h3 x hx
      exact read_ints hq hl
    exact ⟨r, by rw [h1, e1, sz29]; rfl, by omega, e3⟩
theorem read_fields {k : Nat} {t : TypeId} {fs : Array Field} {cs : List Value} {d : DataW H} {ps : List MemPlace} (hu : Try.prog.underlying t = some (.struct fs)) (h : DataW.trod enc Try.prog w base spare held (k + 1) t cs = some (d, ps)) (hw : Lite t d) :
    ∃ parts : List (DataW H), cellsAV Try.prog (k + 1) t d = ((fs.toList.map (·.type)).zip parts).flatMap (fun x => cellsAV Try.prog k x.1 x.2) ∧ parts.length = (fs.toList.map (·.type)).length ∧
      ∀ (i : Nat) (e : TypeId) x, (fs.toList.map (·.type))[i]? = some e → parts[i]? = some x → (∃ cells q, DataW.trod enc Try.prog w base spare held k e cells = some (x, q)) ∧ Lite e x := by
  obtain ⟨parts, rfl, h1, h2, h3⟩ := read_struct hu h
  refine ⟨parts, ?_, by simpa using h2, fun i e x hi hx => ?_⟩
  · rw [h1, List.zip_map_left, List.flatMap_map]; rfl
  · have hi' := hi
    rw [List.getElem?_map] at hi
    cases hf : fs.toList[i]? with
    | none => rw [hf] at hi; cases hi
    | some f =>
      rw [hf] at hi
      obtain rfl := Option.some.inj hi
      refine ⟨h3 i f x hf hx, fun n hn => hw n ?_⟩
      simp only [DataW.weights, hu]
      exact DataW.weights_mem_each hi' hx n hn
structure RelD.Wide (r : RelD) : Prop where
  name : r.name.size ≤ reachBytes
  len : r.tuples.length ≤ reachBytes
  tup : ∀ t ∈ r.tuples, t.length ≤ reachBytes
theorem read_rel {k : Nat} {cs : List Value} {d : DataW H} {ps : List MemPlace} (h : DataW.trod enc Try.prog w base spare held k 64 cs = some (d, ps)) (hw : Lite 64 d) : ∃ r : RelD, cellsAV Try.prog k 64 d = r.cells ∧ r.Wide := by
  cases k with
  | zero => simp [DataW.trod] at h
  | succ k =>
    obtain ⟨parts, h1, h2, h3⟩ := read_fields undRel h hw
    rw [fldsRel] at h1 h2 h3
    match parts, h2 with
    | [a, b, c], _ =>
      obtain ⟨⟨_, _, q0⟩, w0⟩ := h3 0 9 a rfl rfl
      obtain ⟨⟨_, _, q1⟩, w1⟩ := h3 1 3 b rfl rfl
      obtain ⟨⟨_, _, q2⟩, w2⟩ := h3 2 40 c rfl rfl
      obtain ⟨x, ex, bx⟩ := read_str q0 w0
      obtain ⟨n, en⟩ := read_int q1
      obtain ⟨l, el, bl, bt⟩ := read_tups q2 w2
      refine ⟨⟨x, n, l⟩, ?_, ⟨bx, bl, bt⟩⟩
      rw [h1]
      simp only [List.zip_cons_cons, List.zip_nil_right, List.flatMap_cons, List.flatMap_nil, ex, en, el]
      rfl
theorem read_stru {k : Nat} {cs : List Value} {d : DataW H} {ps : List MemPlace} (h : DataW.trod enc Try.prog w base spare held k 24 cs = some (d, ps)) (hw : Lite 24 d) :
    ∃ s : StrD, cellsAV Try.prog k 24 d = [.i .i64 s.size, .sl 3 (rels s.rels)] ∧ s.Wide := by
  cases k with
  | zero => simp [DataW.trod] at h
  | succ k =>
    obtain ⟨parts, h1, h2, h3⟩ := read_fields undStru h hw
    rw [fldsStru] at h1 h2 h3
    match parts, h2 with
    | [a, b], _ =>
      obtain ⟨⟨_, _, q0⟩, w0⟩ := h3 0 3 a rfl rfl
      obtain ⟨⟨_, _, q1⟩, w1⟩ := h3 1 22 b rfl rfl
      obtain ⟨n, en⟩ := read_int q0
      cases k with
      | zero => simp [DataW.trod] at q1
      | succ k =>
        obtain ⟨elems, g1, g2, g3⟩ := read_sl undRels (by decide +kernel) q1 w1
        obtain ⟨r, e1, e2, e3⟩ := read_map (F := fun x => cellsAV Try.prog k 64 x) (G := RelD.cells) (Pr := RelD.Wide) (l := elems) fun x hx => by
          obtain ⟨⟨cells, q, hq⟩, hl⟩ := g3 x hx
          exact read_rel hq hl
        have hrb : reachBytes ≤ 1125899906842624 := by decide
        refine ⟨⟨n, r⟩, ?_, ⟨by simp only; omega, fun q hq => ?_⟩⟩
        · rw [h1]
          simp only [List.zip_cons_cons, List.zip_nil_right, List.flatMap_cons, List.flatMap_nil, en, g1, e1, sz64]
          rfl
        · have := e3 q hq
          exact ⟨Nat.le_trans this.name hrb, Nat.le_trans this.len (by omega), fun t ht => Nat.le_trans (this.tup t ht) hrb⟩
end
theorem plainInt (k : Nat) : plainT Try.prog k 3 = true := by
  cases k with
  | zero => rfl
  | succ k => unfold plainT; rw [undInt]; exact (by decide +kernel : decide (Try.prog.cellsOf 3 = 1) = true)
theorem plainStr (k : Nat) : plainT Try.prog k 9 = true := by
  cases k with
  | zero => rfl
  | succ k => unfold plainT; rw [undStr]; exact (by decide +kernel : decide (Try.prog.cellsOf 9 = 1) = true)
theorem plainSl {t e : TypeId} (hu : Try.prog.underlying t = some (.slice e)) (h1 : Try.prog.cellsOf t = 1) (h2 : 0 < Try.prog.cellsOf e) (h : ∀ k, plainT Try.prog k e = true) (k : Nat) : plainT Try.prog k t = true := by
  cases k with
  | zero => rfl
  | succ k => unfold plainT; rw [hu]; simp [h1, h2, h k]
theorem plainStruct {t : TypeId} {fs : Array Field} (hu : Try.prog.underlying t = some (.struct fs)) (h1 : laidF Try.prog 0 fs.toList = some (Try.prog.cellsOf t)) (h : ∀ k, ∀ e ∈ fs.toList.map (·.type), plainT Try.prog k e = true) (k : Nat) : plainT Try.prog k t = true := by
  cases k with
  | zero => rfl
  | succ k =>
    unfold plainT
    rw [hu]
    simp only [Bool.and_eq_true, List.all_eq_true, decide_eq_true_eq]
    exact ⟨fun f hf => h k _ (List.mem_map_of_mem hf), h1⟩
theorem plainInts (k : Nat) : plainT Try.prog k 29 = true := plainSl undInts (by decide +kernel) (by decide +kernel) plainInt k
theorem plainTups (k : Nat) : plainT Try.prog k 40 = true := plainSl undTups (by decide +kernel) (by decide +kernel) plainInts k
theorem plainRel (k : Nat) : plainT Try.prog k 64 = true := plainStruct undRel (by decide +kernel) (fun k e he => by
  rw [fldsRel] at he
  simp only [List.mem_cons, List.not_mem_nil, or_false] at he
  rcases he with rfl | rfl | rfl
  · exact plainStr k
  · exact plainInt k
  · exact plainTups k) k
theorem plainRels (k : Nat) : plainT Try.prog k 22 = true := plainSl undRels (by decide +kernel) (by decide +kernel) plainRel k
theorem plainStru (k : Nat) : plainT Try.prog k 24 = true := plainStruct undStru (by decide +kernel) (fun k e he => by
  rw [fldsStru] at he
  simp only [List.mem_cons, List.not_mem_nil, or_false] at he
  rcases he with rfl | rfl
  · exact plainInt k
  · exact plainRels k) k
end Go.AW
/-
Contracts: the reference's structures (paraphrastref01).
-/
namespace Go.AW
open Go Go.Proofs TyTry Go.IntWalk
set_option linter.unusedSimpArgs false
set_option linter.unusedVariables false
set_option maxRecDepth 10000

theorem rletter_spec (c : Int) : ACallsD Try.prog 87 [.i .u8 c] (.b (letterF c)) := by
  refine ACalls_of' (n := 17) (rs := [.tmp 2]) (show Try.prog.funcs[87]? = some Try.f87 by kernel_rfl) rfl rfl rfl (by simp) (by decide +kernel) ?_
  repeat' (first | refine nav ?_ | refine bo ?_ | (refine wr fun K R hK hR => ?_; simp (maxSteps := 10000000) only [go_sem]; (try go_ints); (repeat refine And.intro side ?_); (first | refine hK _ ?_ | refine hR _ _ ?_); clear hK hR K R) | ((refine W_cond (by simp only [go_sem, *] <;> exact rfl) (fun hb => ?_) (fun hb => ?_)) <;> (try exact Bool.noConfusion hb)))
  refine endQ_data (by simp only [go_sem] <;> exact rfl) (Le.of_eq ?_) rfl
  try rfl
theorem rdigit_spec (c : Int) : ACallsD Try.prog 89 [.i .u8 c] (.b (digitF c)) := by
  refine ACalls_of' (n := 9) (rs := [.tmp 2]) (show Try.prog.funcs[89]? = some Try.f89 by kernel_rfl) rfl rfl rfl (by simp) (by decide +kernel) ?_
  repeat' (first | refine nav ?_ | refine bo ?_ | (refine wr fun K R hK hR => ?_; simp (maxSteps := 10000000) only [go_sem]; (try go_ints); (repeat refine And.intro side ?_); (first | refine hK _ ?_ | refine hR _ _ ?_); clear hK hR K R) | ((refine W_cond (by simp only [go_sem, *] <;> exact rfl) (fun hb => ?_) (fun hb => ?_)) <;> (try exact Bool.noConfusion hb)))
  refine endQ_data (by simp only [go_sem] <;> exact rfl) (Le.of_eq ?_) rfl
  try rfl
theorem rword_spec (x : ByteArray) : ACallsD Try.prog 88 [.s x] (.b (wordF x)) := by
  refine ACalls_of' (n := 16) (rs := [.tmp 2]) (show Try.prog.funcs[88]? = some Try.f88 by kernel_rfl) rfl rfl rfl (by simp) (by decide +kernel) ?_
  repeat' (first | refine nav ?_ | refine bo ?_ | (refine wr fun K R hK hR => ?_; simp (maxSteps := 10000000) only [go_sem]; (try go_ints); (repeat refine And.intro side ?_); (first | refine hK _ ?_ | refine hR _ _ ?_); clear hK hR K R) | ((refine W_cond (by simp only [go_sem, *] <;> exact rfl) (fun hb => ?_) (fun hb => ?_)) <;> (try exact Bool.noConfusion hb)))
  all_goals refine endQ_data (by simp only [go_sem] <;> exact rfl) (Le.of_eq ?_) rfl
  all_goals simp only [wordF, wordsL, List.any_cons, List.any_nil, Bool.or_true, Bool.true_or, Bool.or_false, Bool.false_or, *]
theorem rname_spec (x : ByteArray) (hx : x.size ≤ 1099511627776) : ACallsD Try.prog 71 [.s x] (.b (nameF x)) := by
  refine ACalls_of' (n := 40) (rs := [.tmp 2]) (show Try.prog.funcs[71]? = some Try.f71 by kernel_rfl) rfl rfl rfl (by simp) (by decide +kernel) ?_
  repeat (first | refine nav ?_ | refine bo ?_)
  (refine wr fun K R hK hR => ?_; simp (maxSteps := 10000000) only [go_sem]; (try go_ints); (repeat refine And.intro side ?_); (first | refine hK _ ?_ | refine hR _ _ ?_); clear hK hR K R)
  repeat (first | refine nav ?_ | refine bo ?_)
  (refine wr fun K R hK hR => ?_; simp (maxSteps := 10000000) only [go_sem]; (try go_ints); (repeat refine And.intro side ?_); (first | refine hK _ ?_ | refine hR _ _ ?_); clear hK hR K R)
  refine RL_callDg rfl (by simp only [go_sem] <;> exact rfl) (fun e => rletter_spec (chF x 0)) rfl rfl rfl (fun e => by (try simp only [go_sem] at e); simp only [go_sem, e] <;> (try simp only [go_sem, chF]) <;> first | exact LeA.refl _ | exact Le.refl _) rfl rfl ?_
  (refine rr fun K R hK hR => ?_; simp (maxSteps := 10000000) only [go_sem]; (try go_ints); (repeat refine And.intro side ?_); (first | refine hK _ ?_ | refine hR _ _ ?_); clear hK hR K R)
  refine RL_callDg rfl (by simp only [go_sem] <;> exact rfl) (fun e => rword_spec x) rfl rfl rfl (fun e => by (try simp only [go_sem] at e); simp only [go_sem, e] <;> (try simp only [go_sem]) <;> first | exact LeA.refl _ | exact Le.refl _) rfl rfl ?_
  (refine rr fun K R hK hR => ?_; simp (maxSteps := 10000000) only [go_sem]; (try go_ints); (repeat refine And.intro side ?_); (first | refine hK _ ?_ | refine hR _ _ ?_); clear hK hR K R)
  repeat (first | refine nav ?_ | refine bo ?_)
  refine W_cond (by simp only [go_sem] <;> exact rfl) (fun hb => ?_) (fun hb => ?_)
  · simp only [Bool.or_eq_true, Bool.and_eq_true, Bool.not_eq_true', Bool.not_eq_false', Bool.and_eq_false_iff, Bool.or_eq_false_iff, decide_eq_true_eq, decide_eq_false_iff_not, Bool.not_eq_eq_eq_not, Bool.not_true, Bool.not_false] at hb
    repeat (first | refine nav ?_ | refine bo ?_)
    (refine wr fun K R hK hR => ?_; simp (maxSteps := 10000000) only [go_sem]; (try go_ints); (repeat refine And.intro side ?_); (first | refine hK _ ?_ | refine hR _ _ ?_); clear hK hR K R)
    repeat (first | refine nav ?_ | refine bo ?_)
    refine endQ_data (by simp only [go_sem] <;> exact rfl) (Le.of_eq ?_) rfl
    rcases hb with ((hb | hb) | hb) | hb
    · simp only [nameF, decide_eq_false (show ¬ 1 ≤ x.size by omega), Bool.false_and]
    · simp only [nameF, decide_eq_false (show ¬ x.size ≤ 12 by omega), Bool.false_and, Bool.and_false]
    · simp only [nameF, hb, Bool.false_and, Bool.and_false]
    · simp only [nameF, hb, Bool.not_true, Bool.false_and, Bool.and_false]
  · simp only [Bool.or_eq_true, Bool.and_eq_true, Bool.not_eq_true', Bool.not_eq_false', Bool.and_eq_false_iff, Bool.or_eq_false_iff, decide_eq_true_eq, decide_eq_false_iff_not, Bool.not_eq_eq_eq_not, Bool.not_true, Bool.not_false] at hb
    obtain ⟨⟨⟨h1, h2⟩, h3⟩, h4⟩ := hb
    repeat (first | refine nav ?_ | refine bo ?_)
    (refine wr fun K R hK hR => ?_; simp (maxSteps := 10000000) only [go_sem]; (try go_ints); (repeat refine And.intro side ?_); (first | refine hK _ ?_ | refine hR _ _ ?_); clear hK hR K R)
    repeat (first | refine nav ?_ | refine bo ?_)
    refine W_for 22 40 [3] (fun m t o => ∃ k : Nat, [] = o ∧ t 3 = .i .i64 k ∧ m = x.size - k ∧ 1 ≤ k ∧ k ≤ x.size ∧ ∀ i < k, (letterF (chF x i) || digitF (chF x i)) = true) (x.size - 1) ⟨1, rfl, by simp only [go_sem] <;> rfl, by omega, by omega, by omega, fun i hi => by obtain rfl : i = 0 := (by omega); rw [h3]; rfl⟩ ?_
    rintro m t o ⟨k, rfl, h3', rfl, hk1, hk, hi⟩
    repeat (first | refine nav ?_ | refine bo ?_)
    (refine wr fun K R hK hR => ?_; simp (maxSteps := 10000000) only [go_sem, h3']; (try go_ints); (try simp only [go_sem, h3']); (repeat refine And.intro side ?_); (first | refine hK _ ?_ | refine hR _ _ ?_); clear hK hR K R)
    repeat (first | refine nav ?_ | refine bo ?_)
    refine W_cond (by simp only [go_sem] <;> exact rfl) (fun hb => ?_) (fun hb => ?_)
    · simp at hb
      repeat (first | refine nav ?_ | refine bo ?_)
      (refine wr fun K R hK hR => ?_; simp (maxSteps := 10000000) only [go_sem, h3']; (try go_ints); (try simp only [go_sem, h3']); (repeat refine And.intro side ?_); (first | refine hK _ ?_ | refine hR _ _ ?_); clear hK hR K R)
      refine RL_callF (rletter_spec (chF x k)) rfl rfl rfl (by first | (simp only [go_sem, chF] <;> first | exact LeA.refl _ | exact Le.refl _) | exact LeA.refl _) rfl rfl ?_
      (refine rr fun K R hK hR => ?_; simp (maxSteps := 10000000) only [go_sem, h3']; (try go_ints); (try simp only [go_sem, h3']); (repeat refine And.intro side ?_); (first | refine hK _ ?_ | refine hR _ _ ?_); clear hK hR K R)
      refine RL_callDg rfl (by simp only [go_sem] <;> exact rfl) (fun e => rdigit_spec (chF x k)) rfl rfl rfl (fun e => by (try simp only [go_sem] at e); simp only [go_sem, e] <;> (try simp only [go_sem, chF]) <;> first | exact LeA.refl _ | exact Le.refl _) rfl rfl ?_
      (refine rr fun K R hK hR => ?_; simp (maxSteps := 10000000) only [go_sem]; (try go_ints); (repeat refine And.intro side ?_); (first | refine hK _ ?_ | refine hR _ _ ?_); clear hK hR K R)
      repeat (first | refine nav ?_ | refine bo ?_)
      refine W_cond (by simp only [go_sem] <;> exact rfl) (fun hc => ?_) (fun hc => ?_)
      · simp only [Bool.or_eq_true, Bool.and_eq_true, Bool.not_eq_true', Bool.not_eq_false', Bool.and_eq_false_iff, Bool.or_eq_false_iff, decide_eq_true_eq, decide_eq_false_iff_not, Bool.not_eq_eq_eq_not, Bool.not_true, Bool.not_false] at hc
        repeat (first | refine nav ?_ | refine bo ?_)
        (refine wr fun K R hK hR => ?_; simp (maxSteps := 10000000) only [go_sem]; (try go_ints); (repeat refine And.intro side ?_); (first | refine hK _ ?_ | refine hR _ _ ?_); clear hK hR K R)
        repeat (first | refine nav ?_ | refine bo ?_)
        refine endQ_data (by simp only [go_sem] <;> exact rfl) (Le.of_eq ?_) rfl
        rw [AV.b.injEq, eq_comm]
        simp only [nameF, Bool.and_eq_false_iff]
        right
        rw [List.all_eq_false]
        exact ⟨k, by simpa using hb, by simp [hc]⟩
      · repeat (first | refine nav ?_ | refine bo ?_)
        (refine wr fun K R hK hR => ?_; simp (maxSteps := 10000000) only [go_sem, h3']; (try go_ints); (try simp only [go_sem, h3']); (repeat refine And.intro side ?_); (first | refine hK _ ?_ | refine hR _ _ ?_); clear hK hR K R)
        refine forQ_normal (x.size - (k + 1)) (by omega) ⟨k + 1, ?_⟩
        ((try simp only [go_sem]); (repeat' refine And.intro ?_ ?_) <;> (try first | with_reducible rfl | omega | with_reducible assumption | (simp; done)))
        intro i hik
        rcases Nat.lt_succ_iff_lt_or_eq.1 hik with h | rfl
        · exact hi i h
        · simp at hc
          cases h : letterF (chF x i) <;> simp_all
    · simp at hb
      have : k = x.size := by omega
      subst this
      repeat (first | refine nav ?_ | refine bo ?_)
      (refine wr fun K R hK hR => ?_; simp (maxSteps := 10000000) only [go_sem]; (try go_ints); (repeat refine And.intro side ?_); (first | refine hK _ ?_ | refine hR _ _ ?_); clear hK hR K R)
      repeat (first | refine nav ?_ | refine bo ?_)
      refine endQ_data (by simp only [go_sem] <;> exact rfl) (Le.of_eq ?_) rfl
      rw [AV.b.injEq, eq_comm]
      simp only [nameF, h3, h4, decide_eq_true (show 1 ≤ x.size by omega), decide_eq_true (show x.size ≤ 12 by omega), Bool.true_and, Bool.not_false]
      rw [List.all_eq_true]
      exact fun i hi' => hi i (by simpa using hi')
def lessL : List Int → List Int → Bool
  | a :: l, b :: r => if a = b then lessL l r else decide (a < b)
  | _, _ => false
theorem less_spec (a b : List Int) (ha : a.length ≤ 1099511627776) (hab : a.length = b.length) : ACallsD Try.prog 63 [.sl 1 (ints a), .sl 1 (ints b)] (.b (lessL a b)) := by
  refine ACalls_of' (n := 30) (rs := [.tmp 4]) (show Try.prog.funcs[63]? = some Try.f63 by kernel_rfl) rfl rfl rfl (by simp) (by decide +kernel) ?_
  repeat (first | refine nav ?_ | refine bo ?_)
  (refine wr fun K R hK hR => ?_; simp (maxSteps := 10000000) only [go_sem]; (try go_ints); (repeat refine And.intro side ?_); (first | refine hK _ ?_ | refine hR _ _ ?_); clear hK hR K R)
  repeat (first | refine nav ?_ | refine bo ?_)
  (refine wr fun K R hK hR => ?_; simp (maxSteps := 10000000) only [go_sem]; (try go_ints); (repeat refine And.intro side ?_); (first | refine hK _ ?_ | refine hR _ _ ?_); clear hK hR K R)
  repeat (first | refine nav ?_ | refine bo ?_)
  refine W_for 6 30 [5] (fun m t o => ∃ k : Nat, [] = o ∧ t 5 = .i .i64 k ∧ m = a.length - k ∧ k ≤ a.length ∧ lessL (a.drop k) (b.drop k) = lessL a b) a.length ⟨0, rfl, by simp only [go_sem] <;> rfl, by omega, Nat.zero_le _, rfl⟩ ?_
  rintro m t o ⟨k, rfl, h5, rfl, hk, hi⟩
  repeat (first | refine nav ?_ | refine bo ?_)
  (refine wr fun K R hK hR => ?_; simp (maxSteps := 10000000) only [go_sem, h5]; (try go_ints); (try simp only [go_sem, h5]); (repeat refine And.intro side ?_); (first | refine hK _ ?_ | refine hR _ _ ?_); clear hK hR K R)
  repeat (first | refine nav ?_ | refine bo ?_)
  refine W_cond (by simp only [go_sem] <;> exact rfl) (fun hb => ?_) (fun hb => ?_)
  · simp at hb
    obtain ⟨x, hx⟩ : ∃ x, a[k]? = some x := ⟨_, List.getElem?_eq_getElem hb⟩
    obtain ⟨y, hy⟩ : ∃ y, b[k]? = some y := ⟨_, List.getElem?_eq_getElem (by omega)⟩
    rw [drop_cons hx, drop_cons hy, lessL] at hi
    repeat (first | refine nav ?_ | refine bo ?_)
    (refine W_dreg (by decide +kernel) [] [0, 1, 2, 3, 4, 5, 6, 7, 8] [[], [], [1, 0], [0, 1, 2], [], [], [5, 4], [4, 5, 6], [6, 5, 4, 7, 2, 1, 0, 3]] (by decide +kernel) rfl fun K R hK hR => ?_; simp only [List.filterMap_cons, List.filterMap_nil, List.getElem?_cons_zero, List.getElem?_cons_succ, List.cons_append, List.nil_append]; simp (maxSteps := 10000000) only [go_sem, h5, ints_get hx, ints_get hy]; (try go_ints); (try simp only [go_sem, h5, ints_get hx, ints_get hy]); (repeat refine And.intro side ?_); (first | refine hK _ ?_ | refine hR _ _ ?_); clear hK hR K R)
    repeat (first | refine nav ?_ | refine bo ?_)
    refine W_cond (by simp only [go_sem] <;> exact rfl) (fun hd => ?_) (fun hd => ?_)
    · rw [if_neg (by simpa using hd)] at hi
      repeat (first | refine nav ?_ | refine bo ?_)
      (refine W_dreg (by decide +kernel) [] [0, 1, 2, 3, 4, 5, 6, 7, 8, 9] [[], [], [1, 0], [0, 1, 2], [], [], [5, 4], [4, 5, 6], [6, 5, 4, 7, 2, 1, 0, 3], [3, 0, 1, 2, 7, 4, 5, 6, 8]] (by decide +kernel) rfl fun K R hK hR => ?_; simp only [List.filterMap_cons, List.filterMap_nil, List.getElem?_cons_zero, List.getElem?_cons_succ, List.cons_append, List.nil_append]; simp (maxSteps := 10000000) only [go_sem, h5, ints_get hx, ints_get hy]; (try go_ints); (try simp only [go_sem, h5, ints_get hx, ints_get hy]); (repeat refine And.intro side ?_); (first | refine hK _ ?_ | refine hR _ _ ?_); clear hK hR K R)
      repeat (first | refine nav ?_ | refine bo ?_)
      refine endQ_data (by simp only [go_sem] <;> exact rfl) (Le.of_eq ?_) rfl
      rw [hi]
    · rw [if_pos (by simpa using hd)] at hi
      repeat (first | refine nav ?_ | refine bo ?_)
      (refine wr fun K R hK hR => ?_; simp (maxSteps := 10000000) only [go_sem, h5]; (try go_ints); (try simp only [go_sem, h5]); (repeat refine And.intro side ?_); (first | refine hK _ ?_ | refine hR _ _ ?_); clear hK hR K R)
      refine forQ_normal (a.length - (k + 1)) (by omega) ⟨k + 1, ?_⟩
      ((try simp only [go_sem]); (repeat' refine And.intro ?_ ?_) <;> (try first | with_reducible rfl | omega | with_reducible assumption | (simp; done)))
  · simp at hb
    have : k = a.length := by omega
    subst this
    rw [List.drop_length, lessL] at hi
    · repeat (first | refine nav ?_ | refine bo ?_)
      (refine wr fun K R hK hR => ?_; simp (maxSteps := 10000000) only [go_sem]; (try go_ints); (repeat refine And.intro side ?_); (first | refine hK _ ?_ | refine hR _ _ ?_); clear hK hR K R)
      repeat (first | refine nav ?_ | refine bo ?_)
      refine endQ_data (by simp only [go_sem] <;> exact rfl) (Le.of_eq ?_) rfl
      rw [← hi]
    · intro a l b r h; cases h
theorem lessL_cmp : ∀ (a b : List Int), a.length = b.length → lessL a b = decide (cmpL a b < 0)
  | [], [], _ => rfl
  | a :: l, b :: r, h => by
    rw [lessL, cmpL]
    have ih := lessL_cmp l r (by simpa using h)
    by_cases hab : a = b
    · rw [if_pos hab, ih, if_neg (by subst hab; simp [cmpF])]
    · rw [if_neg hab, if_pos (by simp [cmpF]; omega)]
      simp only [cmpF]
      by_cases h1 : a < b
      · simp [h1]
      · simp [h1]; split <;> omega
theorem equal_spec (a b : List Int) (ha : a.length ≤ 1099511627776) : ACallsD Try.prog 14 [.sl 1 (ints a), .sl 1 (ints b)] (.b (decide (a = b))) := by
  refine ACalls_of' (n := 26) (rs := [.tmp 4]) (show Try.prog.funcs[14]? = some Try.f14 by kernel_rfl) rfl rfl rfl (by simp) (by decide +kernel) ?_
  repeat (first | refine nav ?_ | refine bo ?_)
  (refine wr fun K R hK hR => ?_; simp (maxSteps := 10000000) only [go_sem]; (try go_ints); (repeat refine And.intro side ?_); (first | refine hK _ ?_ | refine hR _ _ ?_); clear hK hR K R)
  repeat (first | refine nav ?_ | refine bo ?_)
  (refine wr fun K R hK hR => ?_; simp (maxSteps := 10000000) only [go_sem]; (try go_ints); (repeat refine And.intro side ?_); (first | refine hK _ ?_ | refine hR _ _ ?_); clear hK hR K R)
  repeat (first | refine nav ?_ | refine bo ?_)
  refine W_cond (by simp only [go_sem] <;> exact rfl) (fun hb => ?_) (fun hb => ?_)
  · repeat (first | refine nav ?_ | refine bo ?_)
    (refine wr fun K R hK hR => ?_; simp (maxSteps := 10000000) only [go_sem]; (try go_ints); (repeat refine And.intro side ?_); (first | refine hK _ ?_ | refine hR _ _ ?_); clear hK hR K R)
    repeat (first | refine nav ?_ | refine bo ?_)
    refine endQ_data (by simp only [go_sem] <;> exact rfl) (Le.of_eq ?_) rfl
    rw [decide_eq_false]
    rintro rfl
    simp at hb
  · have hl : a.length = b.length := by simp at hb; omega
    repeat (first | refine nav ?_ | refine bo ?_)
    (refine wr fun K R hK hR => ?_; simp (maxSteps := 10000000) only [go_sem]; (try go_ints); (repeat refine And.intro side ?_); (first | refine hK _ ?_ | refine hR _ _ ?_); clear hK hR K R)
    repeat (first | refine nav ?_ | refine bo ?_)
    refine W_for 11 26 [5] (fun m t o => ∃ k : Nat, [] = o ∧ t 5 = .i .i64 k ∧ m = a.length - k ∧ k ≤ a.length ∧ (a.drop k = b.drop k ↔ a = b)) a.length ⟨0, rfl, by simp only [go_sem] <;> rfl, by omega, Nat.zero_le _, Iff.rfl⟩ ?_
    rintro m t o ⟨k, rfl, h5, rfl, hk, hi⟩
    repeat (first | refine nav ?_ | refine bo ?_)
    (refine wr fun K R hK hR => ?_; simp (maxSteps := 10000000) only [go_sem, h5]; (try go_ints); (try simp only [go_sem, h5]); (repeat refine And.intro side ?_); (first | refine hK _ ?_ | refine hR _ _ ?_); clear hK hR K R)
    repeat (first | refine nav ?_ | refine bo ?_)
    refine W_cond (by simp only [go_sem] <;> exact rfl) (fun hb => ?_) (fun hb => ?_)
    · simp at hb
      obtain ⟨x, hx⟩ : ∃ x, a[k]? = some x := ⟨_, List.getElem?_eq_getElem hb⟩
      obtain ⟨y, hy⟩ : ∃ y, b[k]? = some y := ⟨_, List.getElem?_eq_getElem (by omega)⟩
      rw [drop_cons hx, drop_cons hy, List.cons.injEq] at hi
      repeat (first | refine nav ?_ | refine bo ?_)
      (refine W_dreg (by decide +kernel) [] [0, 1, 2, 3, 4, 5, 6, 7, 8] [[], [], [1, 0], [0, 1, 2], [], [], [5, 4], [4, 5, 6], [6, 5, 4, 7, 2, 1, 0, 3]] (by decide +kernel) rfl fun K R hK hR => ?_; simp only [List.filterMap_cons, List.filterMap_nil, List.getElem?_cons_zero, List.getElem?_cons_succ, List.cons_append, List.nil_append]; simp (maxSteps := 10000000) only [go_sem, h5, ints_get hx, ints_get hy]; (try go_ints); (try simp only [go_sem, h5, ints_get hx, ints_get hy]); (repeat refine And.intro side ?_); (first | refine hK _ ?_ | refine hR _ _ ?_); clear hK hR K R)
      repeat (first | refine nav ?_ | refine bo ?_)
      refine W_cond (by simp only [go_sem] <;> exact rfl) (fun hd => ?_) (fun hd => ?_)
      · repeat (first | refine nav ?_ | refine bo ?_)
        (refine wr fun K R hK hR => ?_; simp (maxSteps := 10000000) only [go_sem]; (try go_ints); (repeat refine And.intro side ?_); (first | refine hK _ ?_ | refine hR _ _ ?_); clear hK hR K R)
        repeat (first | refine nav ?_ | refine bo ?_)
        refine endQ_data (by simp only [go_sem] <;> exact rfl) (Le.of_eq ?_) rfl
        have hd : x ≠ y := by simpa using hd
        rw [decide_eq_false]
        exact fun h => hd (hi.2 h).1
      · have hd : x = y := by simpa using hd
        repeat (first | refine nav ?_ | refine bo ?_)
        (refine wr fun K R hK hR => ?_; simp (maxSteps := 10000000) only [go_sem, h5]; (try go_ints); (try simp only [go_sem, h5]); (repeat refine And.intro side ?_); (first | refine hK _ ?_ | refine hR _ _ ?_); clear hK hR K R)
        refine forQ_normal (a.length - (k + 1)) (by omega) ⟨k + 1, ?_⟩
        ((try simp only [go_sem]); (repeat' refine And.intro ?_ ?_) <;> (try first | with_reducible rfl | omega | with_reducible assumption | (simp; done)))
        exact ⟨fun h => hi.1 ⟨hd, h⟩, fun h => (hi.2 h).2⟩
    · simp at hb
      have : k = a.length := by omega
      subst this
      rw [List.drop_length, List.drop_eq_nil_of_le (by omega)] at hi
      repeat (first | refine nav ?_ | refine bo ?_)
      (refine wr fun K R hK hR => ?_; simp (maxSteps := 10000000) only [go_sem]; (try go_ints); (repeat refine And.intro side ?_); (first | refine hK _ ?_ | refine hR _ _ ?_); clear hK hR K R)
      repeat (first | refine nav ?_ | refine bo ?_)
      refine endQ_data (by simp only [go_sem] <;> exact rfl) (Le.of_eq ?_) rfl
      rw [decide_eq_true (hi.1 rfl)]
def inT (n : Int) (t : List Int) : Bool := !(t.any fun x => decide (x < 0) || decide (x ≥ n))
theorem in_spec (n : Int) (t : List Int) (ht : t.length ≤ 1099511627776) : ACallsD Try.prog 17 [.i .i64 n, .sl 1 (ints t)] (.b (inT n t)) := by
  refine ACalls_of' (n := 25) (rs := [.tmp 4]) (show Try.prog.funcs[17]? = some Try.f17 by kernel_rfl) rfl rfl rfl (by simp) (by decide +kernel) ?_
  repeat (first | refine nav ?_ | refine bo ?_)
  (refine wr fun K R hK hR => ?_; simp (maxSteps := 10000000) only [go_sem]; (try go_ints); (repeat refine And.intro side ?_); (first | refine hK _ ?_ | refine hR _ _ ?_); clear hK hR K R)
  repeat (first | refine nav ?_ | refine bo ?_)
  (refine wr fun K R hK hR => ?_; simp (maxSteps := 10000000) only [go_sem]; (try go_ints); (repeat refine And.intro side ?_); (first | refine hK _ ?_ | refine hR _ _ ?_); clear hK hR K R)
  repeat (first | refine nav ?_ | refine bo ?_)
  refine W_for 6 25 [5] (fun m t' o => ∃ k : Nat, [] = o ∧ t' 5 = .i .i64 k ∧ m = t.length - k ∧ k ≤ t.length ∧ inT n (t.drop k) = inT n t) t.length ⟨0, rfl, by simp only [go_sem] <;> rfl, by omega, Nat.zero_le _, rfl⟩ ?_
  rintro m t' o ⟨k, rfl, h5, rfl, hk, hi⟩
  repeat (first | refine nav ?_ | refine bo ?_)
  (refine wr fun K R hK hR => ?_; simp (maxSteps := 10000000) only [go_sem, h5]; (try go_ints); (try simp only [go_sem, h5]); (repeat refine And.intro side ?_); (first | refine hK _ ?_ | refine hR _ _ ?_); clear hK hR K R)
  repeat (first | refine nav ?_ | refine bo ?_)
  refine W_cond (by simp only [go_sem] <;> exact rfl) (fun hb => ?_) (fun hb => ?_)
  · simp at hb
    obtain ⟨x, hx⟩ : ∃ x, t[k]? = some x := ⟨_, List.getElem?_eq_getElem hb⟩
    have hstep : inT n (x :: t.drop (k + 1)) = (!(decide (x < 0) || decide (x ≥ n)) && inT n (t.drop (k + 1))) := by simp [inT]
    rw [drop_cons hx, hstep] at hi
    have hlt : decide (k < t.length) = true := by simpa using hb
    repeat (first | refine nav ?_ | refine bo ?_)
    (refine wr fun K R hK hR => ?_; simp (maxSteps := 10000000) only [go_sem, h5, ints_get hx, hlt, Bool.or_true]; (try go_ints); (try simp only [go_sem, h5, ints_get hx, hlt, Bool.or_true]); (repeat refine And.intro side ?_); (first | refine hK _ ?_ | refine hR _ _ ?_); clear hK hR K R)
    repeat (first | refine nav ?_ | refine bo ?_)
    refine W_cond (by simp only [go_sem] <;> exact rfl) (fun hd => ?_) (fun hd => ?_)
    · rw [hd] at hi
      repeat (first | refine nav ?_ | refine bo ?_)
      (refine wr fun K R hK hR => ?_; simp (maxSteps := 10000000) only [go_sem]; (try go_ints); (repeat refine And.intro side ?_); (first | refine hK _ ?_ | refine hR _ _ ?_); clear hK hR K R)
      repeat (first | refine nav ?_ | refine bo ?_)
      refine endQ_data (by simp only [go_sem] <;> exact rfl) (Le.of_eq ?_) rfl
      rw [← hi]; rfl
    · rw [hd] at hi
      repeat (first | refine nav ?_ | refine bo ?_)
      (refine wr fun K R hK hR => ?_; simp (maxSteps := 10000000) only [go_sem, h5]; (try go_ints); (try simp only [go_sem, h5]); (repeat refine And.intro side ?_); (first | refine hK _ ?_ | refine hR _ _ ?_); clear hK hR K R)
      refine forQ_normal (t.length - (k + 1)) (by omega) ⟨k + 1, ?_⟩
      ((try simp only [go_sem]); (repeat' refine And.intro ?_ ?_) <;> (try first | with_reducible rfl | omega | with_reducible assumption | (simp; done)))
      simpa using hi
  · simp at hb
    have : k = t.length := by omega
    subst this
    rw [List.drop_length] at hi
    repeat (first | refine nav ?_ | refine bo ?_)
    (refine wr fun K R hK hR => ?_; simp (maxSteps := 10000000) only [go_sem]; (try go_ints); (repeat refine And.intro side ?_); (first | refine hK _ ?_ | refine hR _ _ ?_); clear hK hR K R)
    repeat (first | refine nav ?_ | refine bo ?_)
    refine endQ_data (by simp only [go_sem] <;> exact rfl) (Le.of_eq ?_) rfl
    rw [← hi]; rfl
def pow2 (n : Int) : Nat → Int → Int
  | 0, p => p
  | k + 1, p => if p ≤ 4096 then pow2 n k (p * n) else p
theorem pow2_big (n : Int) : ∀ (k : Nat) (p : Int), 4096 < p → pow2 n k p = p
  | 0, _, _ => rfl
  | k + 1, p, h => by rw [pow2, if_neg (by omega)]
theorem pow2_spec (n : Int) (hn : 1 ≤ n) : ∀ (k : Nat) (p : Int), 1 ≤ p → p ≤ 4096 → decide (pow2 n k p > 4096) = !decide (powL n 4096 k p ≥ 0)
  | 0, p, h1, h2 => by
    rw [pow2, powL, decide_eq_false (by omega), decide_eq_true (by omega)]; rfl
  | k + 1, p, h1, h2 => by
    rw [pow2, if_pos h2, powL]
    have hp : 1 ≤ p * n := by
      have := Int.mul_le_mul h1 hn (by omega) (by omega); simpa using this
    split
    · rename_i h
      rw [pow2_big n k _ h, decide_eq_true h]
      rfl
    · rename_i h
      exact pow2_spec n hn k _ hp (by omega)
theorem pow_spec (n k : Int) (hn : 1 ≤ n) (hn2 : n ≤ 64) (hk : 0 ≤ k) (hk2 : k ≤ 12) : ACallsD Try.prog 72 [.i .i64 n, .i .i64 k] (.i .i64 (pow2 n k.toNat 1)) := by
  obtain ⟨k, rfl⟩ := Int.eq_ofNat_of_zero_le hk
  rw [Int.toNat_natCast]
  refine ACalls_of' (n := 20) (rs := [.tmp 4]) (show Try.prog.funcs[72]? = some Try.f72 by kernel_rfl) rfl rfl rfl (by simp) (by decide +kernel) ?_
  repeat (first | refine nav ?_ | refine bo ?_)
  (refine wr fun K R hK hR => ?_; simp (maxSteps := 10000000) only [go_sem]; (try go_ints); (repeat refine And.intro side ?_); (first | refine hK _ ?_ | refine hR _ _ ?_); clear hK hR K R)
  repeat (first | refine nav ?_ | refine bo ?_)
  (refine wr fun K R hK hR => ?_; simp (maxSteps := 10000000) only [go_sem]; (try go_ints); (repeat refine And.intro side ?_); (first | refine hK _ ?_ | refine hR _ _ ?_); clear hK hR K R)
  repeat (first | refine nav ?_ | refine bo ?_)
  (refine wr fun K R hK hR => ?_; simp (maxSteps := 10000000) only [go_sem]; (try go_ints); (repeat refine And.intro side ?_); (first | refine hK _ ?_ | refine hR _ _ ?_); clear hK hR K R)
  repeat (first | refine nav ?_ | refine bo ?_)
  refine W_for 7 19 [5, 6] (fun m t o => ∃ (i : Nat) (p : Int), [] = o ∧ t 6 = .i .i64 i ∧ t 5 = .i .i64 p ∧ m = k - i ∧ i ≤ k ∧ 1 ≤ p ∧ p ≤ 262144 ∧ pow2 n (k - i) p = pow2 n k 1) k ⟨0, 1, rfl, by simp only [go_sem] <;> rfl, by simp only [go_sem] <;> rfl, by omega, Nat.zero_le _, by omega, by omega, by simp⟩ ?_
  rintro m t o ⟨i, p, rfl, h6, h5, rfl, hik, hp1, hp2, hi⟩
  repeat (first | refine nav ?_ | refine bo ?_)
  (refine wr fun K R hK hR => ?_; simp (maxSteps := 10000000) only [go_sem, h6, h5]; (try go_ints); (try simp only [go_sem, h6, h5]); (repeat refine And.intro side ?_); (first | refine hK _ ?_ | refine hR _ _ ?_); clear hK hR K R)
  repeat (first | refine nav ?_ | refine bo ?_)
  refine W_cond (by simp only [go_sem] <;> exact rfl) (fun hb => ?_) (fun hb => ?_)
  · simp only [Bool.or_eq_true, Bool.and_eq_true, Bool.not_eq_true', Bool.not_eq_false', Bool.and_eq_false_iff, Bool.or_eq_false_iff, decide_eq_true_eq, decide_eq_false_iff_not, Bool.not_eq_eq_eq_not, Bool.not_true, Bool.not_false] at hb
    obtain ⟨hb1, hb2⟩ := hb
    have hpn : 1 ≤ p * n ∧ p * n ≤ 262144 := by
      constructor
      · have := Int.mul_le_mul hp1 hn (by omega) (by omega); simpa using this
      · have := Int.mul_le_mul hb2 hn2 (by omega) (by omega); simpa using this
    rw [show k - i = (k - (i + 1)) + 1 by omega, pow2, if_pos hb2] at hi
    repeat (first | refine nav ?_ | refine bo ?_)
    (refine wr fun K R hK hR => ?_; simp (maxSteps := 10000000) only [go_sem, h5]; (try go_ints); (try simp only [go_sem, h5]); (repeat refine And.intro side ?_); (first | refine hK _ ?_ | refine hR _ _ ?_); clear hK hR K R)
    repeat (first | refine nav ?_ | refine bo ?_)
    (refine wr fun K R hK hR => ?_; simp (maxSteps := 10000000) only [go_sem, h6]; (try go_ints); (try simp only [go_sem, h6]); (repeat refine And.intro side ?_); (first | refine hK _ ?_ | refine hR _ _ ?_); clear hK hR K R)
    refine forQ_normal (k - (i + 1)) (by omega) ⟨i + 1, p * n, ?_⟩
    ((try simp only [go_sem]); (repeat' refine And.intro ?_ ?_) <;> (try first | with_reducible rfl | omega | with_reducible assumption | (simp; done)))
  · simp only [Bool.or_eq_true, Bool.and_eq_true, Bool.not_eq_true', Bool.not_eq_false', Bool.and_eq_false_iff, Bool.or_eq_false_iff, decide_eq_true_eq, decide_eq_false_iff_not, Bool.not_eq_eq_eq_not, Bool.not_true, Bool.not_false] at hb
    have hres : p = pow2 n k 1 := by
      rw [← hi]
      rcases hb with h | h
      · rw [show k - i = 0 by omega]; rfl
      · rw [pow2_big n _ _ (by omega)]
    repeat (first | refine nav ?_ | refine bo ?_)
    (refine wr fun K R hK hR => ?_; simp (maxSteps := 10000000) only [go_sem, h5]; (try go_ints); (try simp only [go_sem, h5]); (repeat refine And.intro side ?_); (first | refine hK _ ?_ | refine hR _ _ ?_); clear hK hR K R)
    repeat (first | refine nav ?_ | refine bo ?_)
    refine endQ_data (by simp only [go_sem] <;> exact rfl) (Le.of_eq ?_) rfl
    rw [hres]
end Go.AW
/-
Contracts: the reference's structures, second part.
-/
namespace Go.AW
open Go Go.Proofs TyTry Go.IntWalk
set_option linter.unusedSimpArgs false
set_option linter.unusedVariables false
set_option maxRecDepth 10000

theorem rel_spec (n : Int) (hn : 1 ≤ n) (hn2 : n ≤ 64) (r : RelD) (hr : r.Ok) : ACallsD Try.prog 57 [.i .i64 n, .agg [.s r.name, .i .i64 r.arity, .sl 1 (tups r.tuples)]] (.b (relOk n r)) := by
  refine ACalls_of' (n := 72) (rs := [.tmp 4]) (show Try.prog.funcs[57]? = some Try.f57 by kernel_rfl) rfl rfl rfl (by simp) (by decide +kernel) ?_
  repeat (first | refine nav ?_ | refine bo ?_)
  (refine wr fun K R hK hR => ?_; simp (maxSteps := 10000000) only [go_sem]; (try go_ints); (repeat refine And.intro side ?_); (first | refine hK _ ?_ | refine hR _ _ ?_); clear hK hR K R)
  repeat (first | refine nav ?_ | refine bo ?_)
  (refine wr fun K R hK hR => ?_; simp (maxSteps := 10000000) only [go_sem]; (try go_ints); (repeat refine And.intro side ?_); (first | refine hK _ ?_ | refine hR _ _ ?_); clear hK hR K R)
  refine RL_callF (rname_spec r.name hr.name) rfl rfl rfl (by first | (simp only [go_sem] <;> first | exact LeA.refl _ | exact Le.refl _) | exact LeA.refl _) rfl rfl ?_
  (refine rr fun K R hK hR => ?_; simp (maxSteps := 10000000) only [go_sem]; (try go_ints); (repeat refine And.intro side ?_); (first | refine hK _ ?_ | refine hR _ _ ?_); clear hK hR K R)
  refine RL_callDg rfl (by simp only [go_sem] <;> exact rfl) (fun e => pow_spec n r.arity hn hn2 (by have := e; simp at this; omega) (by have := e; simp at this; omega)) rfl rfl rfl (fun e => by (try simp only [go_sem] at e); simp only [go_sem, e] <;> (try simp only [go_sem]) <;> first | exact LeA.refl _ | exact Le.refl _) rfl rfl ?_
  (refine rr fun K R hK hR => ?_; simp (maxSteps := 10000000) only [go_sem]; (try go_ints); (repeat refine And.intro side ?_); (first | refine hK _ ?_ | refine hR _ _ ?_); clear hK hR K R)
  repeat (first | refine nav ?_ | refine bo ?_)
  have hc1 : decide (r.arity < 0) = !decide (0 ≤ r.arity) := by
    by_cases h : r.arity < 0
    · simp [h]
    · simp [h]; omega
  have hc2 : decide (r.arity > 12) = !decide (r.arity ≤ 12) := by
    by_cases h : r.arity > 12
    · simp [h]
    · simp [h]; omega
  have hcm : decide (pow2 n r.arity.toNat 1 > 4096) = !decide (powL n 4096 r.arity.toNat 1 ≥ 0) := pow2_spec n hn _ 1 (by omega) (by omega)
  refine W_cond (by simp only [go_sem, hcm, hc1, hc2] <;> exact rfl) (fun hc => ?_) (fun hc => ?_)
  · have hno : relOk n r = false := by
      rw [relOk]
      revert hc
      cases nameF r.name <;> cases decide (0 ≤ r.arity) <;> cases decide (r.arity ≤ 12) <;> cases decide (powL n 4096 r.arity.toNat 1 ≥ 0) <;> simp
    repeat (first | refine nav ?_ | refine bo ?_)
    (refine wr fun K R hK hR => ?_; simp (maxSteps := 10000000) only [go_sem]; (try go_ints); (repeat refine And.intro side ?_); (first | refine hK _ ?_ | refine hR _ _ ?_); clear hK hR K R)
    repeat (first | refine nav ?_ | refine bo ?_)
    refine endQ_data (by simp only [go_sem] <;> exact rfl) (Le.of_eq ?_) rfl
    rw [hno]
  · have hyes : relOk n r = tuplesF n r.arity r.tuples := by
      rw [relOk]
      revert hc
      cases nameF r.name <;> cases decide (0 ≤ r.arity) <;> cases decide (r.arity ≤ 12) <;> cases decide (powL n 4096 r.arity.toNat 1 ≥ 0) <;> simp
    have hlen := hr.len
    repeat (first | refine nav ?_ | refine bo ?_)
    (refine wr fun K R hK hR => ?_; simp (maxSteps := 10000000) only [go_sem]; (try go_ints); (repeat refine And.intro side ?_); (first | refine hK _ ?_ | refine hR _ _ ?_); clear hK hR K R)
    repeat (first | refine nav ?_ | refine bo ?_)
    refine W_for 27 72 [5] (fun m t o => ∃ k : Nat, [Ob.cells 3 [[.s r.name, .i .i64 r.arity, .sl 1 (tups r.tuples)]]] = o ∧ t 5 = .i .i64 k ∧ m = r.tuples.length - k ∧ k ≤ r.tuples.length ∧ ∀ i < k, tupOk n r.arity r.tuples i = true) r.tuples.length ⟨0, rfl, by simp only [go_sem] <;> rfl, by omega, Nat.zero_le _, by simp⟩ ?_
    rintro m t o ⟨k, rfl, h5, rfl, hk, hi⟩
    repeat (first | refine nav ?_ | refine bo ?_)
    (refine wr fun K R hK hR => ?_; simp (maxSteps := 10000000) only [go_sem, h5]; (try go_ints); (try simp only [go_sem, h5]); (repeat refine And.intro side ?_); (first | refine hK _ ?_ | refine hR _ _ ?_); clear hK hR K R)
    repeat (first | refine nav ?_ | refine bo ?_)
    refine W_cond (by simp only [go_sem] <;> exact rfl) (fun hb => ?_) (fun hb => ?_)
    · simp at hb
      obtain ⟨x, hx⟩ : ∃ x, r.tuples[k]? = some x := ⟨_, List.getElem?_eq_getElem hb⟩
      have hxl := hr.tup x (List.mem_of_getElem? hx)
      have e1 : ((k : Int) - 1).toNat = k - 1 := by omega
      obtain ⟨y, hy⟩ : ∃ y, r.tuples[k - 1]? = some y := ⟨_, List.getElem?_eq_getElem (by omega)⟩
      have hyl := hr.tup y (List.mem_of_getElem? hy)
      have hya : 0 < k → (y.length : Int) = r.arity := by
        intro h0
        have := hi (k - 1) (by omega)
        simp only [tupOk, List.getD_eq_getElem?_getD, hy, Option.getD_some, Bool.and_eq_true, beq_iff_eq] at this
        exact this.1.1
      have hspec : tupOk n r.arity r.tuples k = (((x.length : Int) == r.arity) && inT n x && (decide (k = 0) || decide (cmpL y x < 0))) := by
        simp only [tupOk, List.getD_eq_getElem?_getD, hx, hy, Option.getD_some, inT]
      have hk0 : decide ((k : Int) > 0) = !decide (k = 0) := by
        by_cases h : k = 0
        · simp [h]
        · simp [h]; omega
      repeat (first | refine nav ?_ | refine bo ?_)
      (refine W_dreg (by decide +kernel) [] [0, 1, 2, 3, 4, 5, 6, 7, 8, 9, 10, 11, 12, 13, 14, 15, 16, 17, 18, 19, 20, 21, 22, 23, 24, 25, 26, 27, 28, 29, 30, 31, 32, 33, 34, 35, 36, 37] [[], [0], [], [2, 0, 1], [1, 0, 2, 3], [3, 2, 0, 1, 4], [], [6], [6, 7, 4, 1, 0, 2, 3, 5], [5, 3, 2, 0, 1, 4, 7, 6, 8], [8, 6, 7, 4, 1, 0, 2, 3, 5, 9], [8, 6, 7, 4, 1, 0, 2, 3, 5, 9], [9, 5, 3, 2, 0, 1, 4, 7, 6, 8, 11], [8, 6, 7, 4, 1, 0, 2, 3, 5, 9], [13, 11, 8, 6, 7, 4, 1, 0, 2, 3, 5, 9, 12], [12, 9, 5, 3, 2, 0, 1, 4, 7, 6, 8, 11, 13, 14], [14, 13, 11, 12, 15, 9, 5, 3, 2, 0, 1, 4, 7, 6, 8, 10], [10, 8, 6, 7, 4, 1, 0, 2, 3, 5, 9, 15, 12, 11, 13, 14, 16], [16, 14, 13, 11, 12, 15, 10, 17, 8, 6, 7, 4, 1, 0, 2, 3, 5, 9], [9, 5, 3, 2, 0, 1, 4, 7, 6, 8, 17, 10, 15, 12, 11, 13, 14, 16, 18], [18, 16, 14, 13, 11, 12, 15, 10, 17, 8, 6, 7, 4, 1, 0, 2, 3, 5, 9, 19], [19, 9, 5, 3, 2, 0, 1, 4, 7, 6, 8, 17, 10, 15, 12, 11, 13, 14, 16, 18, 20], [20, 18, 16, 14, 13, 11, 12, 15, 10, 17, 8, 6, 7, 4, 1, 0, 2, 3, 5, 9, 19, 21], [21, 19, 9, 5, 3, 2, 0, 1, 4, 7, 6, 8, 17, 10, 15, 12, 11, 13, 14, 16, 18, 20, 22], [22, 20, 18, 16, 14, 13, 11, 12, 15, 10, 17, 8, 6, 7, 4, 1, 0, 2, 3, 5, 9, 19, 21, 23], [21, 19, 9, 5, 3, 2, 0, 1, 4, 7, 6, 8, 17, 10, 15, 12, 11, 13, 14, 16, 18, 20, 22], [22, 20, 18, 16, 14, 13, 11, 12, 15, 10, 17, 8, 6, 7, 4, 1, 0, 2, 3, 5, 9, 19, 21, 25], [25, 26, 23, 21, 19, 9, 5, 3, 2, 0, 1, 4, 7, 6, 8, 17, 10, 15, 12, 11, 13, 14, 16, 18, 20, 22, 24], [24, 22, 20, 18, 16, 14, 13, 11, 12, 15, 10, 17, 8, 6, 7, 4, 1, 0, 2, 3, 5, 9, 19, 21, 23, 26, 25, 27], [21, 19, 9, 5, 3, 2, 0, 1, 4, 7, 6, 8, 17, 10, 15, 12, 11, 13, 14, 16, 18, 20, 22], [22, 20, 18, 16, 14, 13, 11, 12, 15, 10, 17, 8, 6, 7, 4, 1, 0, 2, 3, 5, 9, 19, 21, 29], [21, 19, 9, 5, 3, 2, 0, 1, 4, 7, 6, 8, 17, 10, 15, 12, 11, 13, 14, 16, 18, 20, 22], [31, 29, 21, 19, 9, 5, 3, 2, 0, 1, 4, 7, 6, 8, 17, 10, 15, 12, 11, 13, 14, 16, 18, 20, 22, 30], [30, 22, 20, 18, 16, 14, 13, 11, 12, 15, 10, 17, 8, 6, 7, 4, 1, 0, 2, 3, 5, 9, 19, 21, 29, 31, 32], [32, 31, 29, 30, 33, 27, 25, 26, 23, 21, 19, 9, 5, 3, 2, 0, 1, 4, 7, 6, 8, 17, 10, 15, 12, 11, 13, 14, 16, 18, 20, 22, 24, 28], [28, 24, 22, 20, 18, 16, 14, 13, 11, 12, 15, 10, 17, 8, 6, 7, 4, 1, 0, 2, 3, 5, 9, 19, 21, 23, 26, 25, 27, 33, 30, 29, 31, 32, 34], [34, 32, 31, 29, 30, 33, 27, 25, 26, 23, 24, 28, 35, 21, 19, 9, 5, 3, 2, 0, 1, 4, 7, 6, 8, 17, 10, 15, 12, 11, 13, 14, 16, 18, 20, 22], [22, 20, 21, 35, 28, 24, 23, 26, 25, 27, 33, 30, 29, 31, 32, 34, 36, 18, 16, 14, 13, 11, 12, 15, 10, 17, 8, 6, 7, 4, 1, 0, 2, 3, 5, 9, 19]] (by decide +kernel) rfl fun K R hK hR => ?_; simp only [List.filterMap_cons, List.filterMap_nil, List.getElem?_cons_zero, List.getElem?_cons_succ, List.cons_append, List.nil_append]; simp (maxSteps := 10000000) only [go_sem, h5, tups_get hx]; (try go_ints); (try simp only [go_sem, h5, tups_get hx]); (repeat refine And.intro side ?_); (first | refine hK _ ?_ | refine hR _ _ ?_); clear hK hR K R)
      refine D_callDg rfl (by simp only [go_sem] <;> exact rfl) (fun e => in_spec n x hxl) rfl rfl rfl (fun e => by (try simp only [go_sem] at e); simp only [go_sem, e] <;> (try simp only [go_sem]) <;> first | exact LeA.refl _ | exact Le.refl _) rfl rfl rfl rfl ?_
      (refine D_reg fun K R hK hR => ?_; simp (maxSteps := 10000000) only [go_sem, h5, e1, tups_get hx, tups_get hy]; (try go_ints); (try simp only [go_sem, h5, e1, tups_get hx, tups_get hy]); (repeat refine And.intro side ?_); (first | refine hK _ ?_ | refine hR _ _ ?_); clear hK hR K R)
      refine D_callDg rfl (by simp only [go_sem] <;> exact rfl) (fun e => less_spec y x hyl (by have := e; simp [bne] at this; have := hya (by omega); omega)) rfl rfl rfl (fun e => by (try simp only [go_sem] at e); simp only [go_sem, e] <;> (try simp only [go_sem]) <;> first | exact LeA.refl _ | exact Le.refl _) rfl rfl rfl rfl ?_
      (refine D_reg fun K R hK hR => ?_; simp (maxSteps := 10000000) only [go_sem]; (try go_ints); (repeat refine And.intro side ?_); (first | refine hK _ ?_ | refine hR _ _ ?_); clear hK hR K R)
      repeat (first | refine nav ?_ | refine bo ?_)
      refine W_cond (by simp only [go_sem] <;> exact rfl) (fun hc => ?_) (fun hc => ?_)
      · have hno : tupOk n r.arity r.tuples k = false := by
          rw [hspec]
          rw [hk0] at hc
          simp only [Bool.or_eq_true, Bool.and_eq_true, Bool.not_eq_true', Bool.not_eq_false', Bool.and_eq_false_iff, Bool.or_eq_false_iff, decide_eq_true_eq, decide_eq_false_iff_not, Bool.not_eq_eq_eq_not, Bool.not_true, Bool.not_false, bne_iff_ne, ne_eq] at hc
          rcases hc with (hc | hc) | ⟨hc1, hc2⟩
          · simp [hc]
          · simp [hc]
          · by_cases hxa : (x.length : Int) = r.arity
            · have hk1 : 0 < k := by first | omega | (simp at hc1; omega)
              rw [lessL_cmp y x (by have := hya hk1; omega)] at hc2
              rw [hc2, decide_eq_false (show ¬ k = 0 by omega)]
              simp
            · simp [hxa]
        repeat (first | refine nav ?_ | refine bo ?_)
        (refine wr fun K R hK hR => ?_; simp (maxSteps := 10000000) only [go_sem]; (try go_ints); (repeat refine And.intro side ?_); (first | refine hK _ ?_ | refine hR _ _ ?_); clear hK hR K R)
        repeat (first | refine nav ?_ | refine bo ?_)
        refine endQ_data (by simp only [go_sem] <;> exact rfl) (Le.of_eq ?_) rfl
        rw [hyes, AV.b.injEq, eq_comm, tuplesF, List.all_eq_false]
        exact ⟨k, by simpa using hb, by simp [hno]⟩
      · have hyes' : tupOk n r.arity r.tuples k = true := by
          rw [hspec]
          rw [hk0] at hc
          simp only [Bool.or_eq_true, Bool.and_eq_true, Bool.not_eq_true', Bool.not_eq_false', Bool.and_eq_false_iff, Bool.or_eq_false_iff, decide_eq_true_eq, decide_eq_false_iff_not, Bool.not_eq_eq_eq_not, Bool.not_true, Bool.not_false, bne_eq_false_iff_eq] at hc
          obtain ⟨⟨hc1, hc2⟩, hc3⟩ := hc
          rw [hc2, Bool.and_true]
          by_cases hk1 : k = 0
          · simp [hc1, hk1]
          · rw [← lessL_cmp y x (by have := hya (by omega); omega)]
            rcases hc3 with h | h
            · simp [hk1] at h
            · simp [hc1, h]
        repeat (first | refine nav ?_ | refine bo ?_)
        (refine wr fun K R hK hR => ?_; simp (maxSteps := 10000000) only [go_sem, h5]; (try go_ints); (try simp only [go_sem, h5]); (repeat refine And.intro side ?_); (first | refine hK _ ?_ | refine hR _ _ ?_); clear hK hR K R)
        refine forQ_normal (r.tuples.length - (k + 1)) (by omega) ⟨k + 1, ?_⟩
        ((try simp only [go_sem]); (repeat' refine And.intro ?_ ?_) <;> (try first | with_reducible rfl | omega | with_reducible assumption | (simp; done)))
        intro i hik
        rcases Nat.lt_succ_iff_lt_or_eq.1 hik with h | rfl
        · exact hi i h
        · exact hyes'
    · simp at hb
      have : k = r.tuples.length := by omega
      subst this
      repeat (first | refine nav ?_ | refine bo ?_)
      (refine wr fun K R hK hR => ?_; simp (maxSteps := 10000000) only [go_sem]; (try go_ints); (repeat refine And.intro side ?_); (first | refine hK _ ?_ | refine hR _ _ ?_); clear hK hR K R)
      repeat (first | refine nav ?_ | refine bo ?_)
      refine endQ_data (by simp only [go_sem] <;> exact rfl) (Le.of_eq ?_) rfl
      rw [hyes, AV.b.injEq, eq_comm, tuplesF, List.all_eq_true]
      exact fun i hi' => hi i (by simpa using hi')
def findF (s : StrD) (name : ByteArray) : Int := idxI (fun q : RelD => q.name.toList == name.toList) s.rels 0
theorem find_spec (s : StrD) (hs : s.Ok) (name : ByteArray) : ACallsD Try.prog 44 [.agg [.i .i64 s.size, .sl 3 (rels s.rels)], .s name] (.i .i64 (findF s name)) := by
  have hlen := hs.len
  refine ACalls_of' (n := 22) (rs := [.tmp 4]) (show Try.prog.funcs[44]? = some Try.f44 by kernel_rfl) rfl rfl rfl (by simp) (by decide +kernel) ?_
  repeat (first | refine nav ?_ | refine bo ?_)
  (refine wr fun K R hK hR => ?_; simp (maxSteps := 10000000) only [go_sem]; (try go_ints); (repeat refine And.intro side ?_); (first | refine hK _ ?_ | refine hR _ _ ?_); clear hK hR K R)
  repeat (first | refine nav ?_ | refine bo ?_)
  (refine wr fun K R hK hR => ?_; simp (maxSteps := 10000000) only [go_sem]; (try go_ints); (repeat refine And.intro side ?_); (first | refine hK _ ?_ | refine hR _ _ ?_); clear hK hR K R)
  repeat (first | refine nav ?_ | refine bo ?_)
  refine W_for 6 22 [5] (fun m t o => ∃ k : Nat, [Ob.cells 2 [[.i .i64 s.size, .sl 3 (rels s.rels)]]] = o ∧ t 5 = .i .i64 k ∧ m = s.rels.length - k ∧ k ≤ s.rels.length ∧ idxI (fun q : RelD => q.name.toList == name.toList) (s.rels.drop k) k = findF s name) s.rels.length ⟨0, rfl, by simp only [go_sem] <;> rfl, by omega, Nat.zero_le _, rfl⟩ ?_
  rintro m t o ⟨k, rfl, h5, rfl, hk, hi⟩
  repeat (first | refine nav ?_ | refine bo ?_)
  (refine wr fun K R hK hR => ?_; simp (maxSteps := 10000000) only [go_sem, h5]; (try go_ints); (try simp only [go_sem, h5]); (repeat refine And.intro side ?_); (first | refine hK _ ?_ | refine hR _ _ ?_); clear hK hR K R)
  repeat (first | refine nav ?_ | refine bo ?_)
  refine W_cond (by simp only [go_sem] <;> exact rfl) (fun hb => ?_) (fun hb => ?_)
  · simp at hb
    obtain ⟨r, hr⟩ : ∃ r, s.rels[k]? = some r := ⟨_, List.getElem?_eq_getElem hb⟩
    rw [drop_cons hr, idxI] at hi
    repeat (first | refine nav ?_ | refine bo ?_)
    (refine wr fun K R hK hR => ?_; simp (maxSteps := 10000000) only [go_sem, h5, rels_get hr]; (try go_ints); (try simp only [go_sem, h5, rels_get hr]); (repeat refine And.intro side ?_); (first | refine hK _ ?_ | refine hR _ _ ?_); clear hK hR K R)
    repeat (first | refine nav ?_ | refine bo ?_)
    refine W_cond (by simp only [go_sem] <;> exact rfl) (fun hd => ?_) (fun hd => ?_)
    · rw [if_pos hd] at hi
      repeat (first | refine nav ?_ | refine bo ?_)
      (refine wr fun K R hK hR => ?_; simp (maxSteps := 10000000) only [go_sem, h5]; (try go_ints); (try simp only [go_sem, h5]); (repeat refine And.intro side ?_); (first | refine hK _ ?_ | refine hR _ _ ?_); clear hK hR K R)
      repeat (first | refine nav ?_ | refine bo ?_)
      refine endQ_data (by simp only [go_sem] <;> exact rfl) (Le.of_eq ?_) rfl
      rw [hi]
    · rw [if_neg (by simp [hd])] at hi
      repeat (first | refine nav ?_ | refine bo ?_)
      (refine wr fun K R hK hR => ?_; simp (maxSteps := 10000000) only [go_sem, h5]; (try go_ints); (try simp only [go_sem, h5]); (repeat refine And.intro side ?_); (first | refine hK _ ?_ | refine hR _ _ ?_); clear hK hR K R)
      refine forQ_normal (s.rels.length - (k + 1)) (by omega) ⟨k + 1, ?_⟩
      ((try simp only [go_sem]); (repeat' refine And.intro ?_ ?_) <;> (try first | with_reducible rfl | omega | with_reducible assumption | (simp; done)))
      rw [Int.natCast_add, Int.natCast_one]; exact hi
  · simp at hb
    have : k = s.rels.length := by omega
    subst this
    rw [List.drop_length, idxI] at hi
    repeat (first | refine nav ?_ | refine bo ?_)
    (refine wr fun K R hK hR => ?_; simp (maxSteps := 10000000) only [go_sem]; (try go_ints); (repeat refine And.intro side ?_); (first | refine hK _ ?_ | refine hR _ _ ?_); clear hK hR K R)
    repeat (first | refine nav ?_ | refine bo ?_)
    refine endQ_data (by simp only [go_sem] <;> exact rfl) (Le.of_eq ?_) rfl
    rw [← hi]
theorem among_spec (l : List (List Int)) (hl : l.length ≤ 1099511627776) (h : ∀ x ∈ l, x.length ≤ 1099511627776) (u : List Int) : ACallsD Try.prog 70 [.sl 1 (tups l), .sl 1 (ints u)] (.b (decide (u ∈ l))) := by
  refine ACalls_of' (n := 18) (rs := [.tmp 4]) (show Try.prog.funcs[70]? = some Try.f70 by kernel_rfl) rfl rfl rfl (by simp) (by decide +kernel) ?_
  repeat (first | refine nav ?_ | refine bo ?_)
  (refine wr fun K R hK hR => ?_; simp (maxSteps := 10000000) only [go_sem]; (try go_ints); (repeat refine And.intro side ?_); (first | refine hK _ ?_ | refine hR _ _ ?_); clear hK hR K R)
  repeat (first | refine nav ?_ | refine bo ?_)
  (refine wr fun K R hK hR => ?_; simp (maxSteps := 10000000) only [go_sem]; (try go_ints); (repeat refine And.intro side ?_); (first | refine hK _ ?_ | refine hR _ _ ?_); clear hK hR K R)
  repeat (first | refine nav ?_ | refine bo ?_)
  refine W_for 6 18 [5] (fun m t o => ∃ k : Nat, [] = o ∧ t 5 = .i .i64 k ∧ m = l.length - k ∧ k ≤ l.length ∧ (u ∈ l.drop k ↔ u ∈ l)) l.length ⟨0, rfl, by simp only [go_sem] <;> rfl, by omega, Nat.zero_le _, Iff.rfl⟩ ?_
  rintro m t o ⟨k, rfl, h5, rfl, hk, hi⟩
  repeat (first | refine nav ?_ | refine bo ?_)
  (refine wr fun K R hK hR => ?_; simp (maxSteps := 10000000) only [go_sem, h5]; (try go_ints); (try simp only [go_sem, h5]); (repeat refine And.intro side ?_); (first | refine hK _ ?_ | refine hR _ _ ?_); clear hK hR K R)
  repeat (first | refine nav ?_ | refine bo ?_)
  refine W_cond (by simp only [go_sem] <;> exact rfl) (fun hb => ?_) (fun hb => ?_)
  · simp at hb
    obtain ⟨x, hx⟩ : ∃ x, l[k]? = some x := ⟨_, List.getElem?_eq_getElem hb⟩
    rw [drop_cons hx, List.mem_cons] at hi
    repeat (first | refine nav ?_ | refine bo ?_)
    (refine wr fun K R hK hR => ?_; simp (maxSteps := 10000000) only [go_sem, h5, tups_get hx]; (try go_ints); (try simp only [go_sem, h5, tups_get hx]); (repeat refine And.intro side ?_); (first | refine hK _ ?_ | refine hR _ _ ?_); clear hK hR K R)
    refine RL_callF (equal_spec x u (h x (List.mem_of_getElem? hx))) rfl rfl rfl (by first | (simp only [go_sem] <;> first | exact LeA.refl _ | exact Le.refl _) | exact LeA.refl _) rfl rfl ?_
    (refine rr fun K R hK hR => ?_; simp (maxSteps := 10000000) only [go_sem]; (try go_ints); (repeat refine And.intro side ?_); (first | refine hK _ ?_ | refine hR _ _ ?_); clear hK hR K R)
    repeat (first | refine nav ?_ | refine bo ?_)
    refine W_cond (by simp only [go_sem] <;> exact rfl) (fun hd => ?_) (fun hd => ?_)
    · have hd : x = u := by simpa using hd
      repeat (first | refine nav ?_ | refine bo ?_)
      (refine wr fun K R hK hR => ?_; simp (maxSteps := 10000000) only [go_sem]; (try go_ints); (repeat refine And.intro side ?_); (first | refine hK _ ?_ | refine hR _ _ ?_); clear hK hR K R)
      repeat (first | refine nav ?_ | refine bo ?_)
      refine endQ_data (by simp only [go_sem] <;> exact rfl) (Le.of_eq ?_) rfl
      rw [decide_eq_true (hi.1 (.inl hd.symm))]
    · have hd : ¬ x = u := by simpa using hd
      repeat (first | refine nav ?_ | refine bo ?_)
      (refine wr fun K R hK hR => ?_; simp (maxSteps := 10000000) only [go_sem, h5]; (try go_ints); (try simp only [go_sem, h5]); (repeat refine And.intro side ?_); (first | refine hK _ ?_ | refine hR _ _ ?_); clear hK hR K R)
      refine forQ_normal (l.length - (k + 1)) (by omega) ⟨k + 1, ?_⟩
      ((try simp only [go_sem]); (repeat' refine And.intro ?_ ?_) <;> (try first | with_reducible rfl | omega | with_reducible assumption | (simp; done)))
      exact ⟨fun h => hi.1 (.inr h), fun h => (hi.2 h).resolve_left fun e => hd e.symm⟩
  · simp at hb
    have : k = l.length := by omega
    subst this
    rw [List.drop_length] at hi
    repeat (first | refine nav ?_ | refine bo ?_)
    (refine wr fun K R hK hR => ?_; simp (maxSteps := 10000000) only [go_sem]; (try go_ints); (repeat refine And.intro side ?_); (first | refine hK _ ?_ | refine hR _ _ ?_); clear hK hR K R)
    repeat (first | refine nav ?_ | refine bo ?_)
    refine endQ_data (by simp only [go_sem] <;> exact rfl) (Le.of_eq ?_) rfl
    rw [decide_eq_false (fun h => by have := hi.2 h; simp at this)]
end Go.AW
/-
Contracts: the reference's structures, third part.
-/
namespace Go.AW
open Go Go.Proofs TyTry Go.IntWalk
set_option linter.unusedSimpArgs false
set_option linter.unusedVariables false
set_option maxRecDepth 10000

theorem rvalid_spec (s : StrD) (hs : s.Ok) : ACallsD Try.prog 32 [.agg [.i .i64 s.size, .sl 3 (rels s.rels)]] (.b (validF s)) := by
  refine ACalls_of' (n := 53) (rs := [.tmp 2]) (show Try.prog.funcs[32]? = some Try.f32 by kernel_rfl) rfl rfl rfl (by simp) (by decide +kernel) ?_
  repeat (first | refine nav ?_ | refine bo ?_)
  (refine wr fun K R hK hR => ?_; simp (maxSteps := 10000000) only [go_sem]; (try go_ints); (repeat refine And.intro side ?_); (first | refine hK _ ?_ | refine hR _ _ ?_); clear hK hR K R)
  repeat (first | refine nav ?_ | refine bo ?_)
  (refine wr fun K R hK hR => ?_; simp (maxSteps := 10000000) only [go_sem]; (try go_ints); (repeat refine And.intro side ?_); (first | refine hK _ ?_ | refine hR _ _ ?_); clear hK hR K R)
  repeat (first | refine nav ?_ | refine bo ?_)
  refine W_cond (by simp only [go_sem] <;> exact rfl) (fun hb => ?_) (fun hb => ?_)
  · simp only [Bool.or_eq_true, Bool.and_eq_true, Bool.not_eq_true', Bool.not_eq_false', Bool.and_eq_false_iff, Bool.or_eq_false_iff, decide_eq_true_eq, decide_eq_false_iff_not, Bool.not_eq_eq_eq_not, Bool.not_true, Bool.not_false] at hb
    repeat (first | refine nav ?_ | refine bo ?_)
    (refine wr fun K R hK hR => ?_; simp (maxSteps := 10000000) only [go_sem]; (try go_ints); (repeat refine And.intro side ?_); (first | refine hK _ ?_ | refine hR _ _ ?_); clear hK hR K R)
    repeat (first | refine nav ?_ | refine bo ?_)
    refine endQ_data (by simp only [go_sem] <;> exact rfl) (Le.of_eq ?_) rfl
    rw [AV.b.injEq, eq_comm, validF]
    rcases hb with (hb | hb) | hb
    · rw [decide_eq_false (show ¬ 1 ≤ s.size by omega)]; simp
    · rw [decide_eq_false (show ¬ s.size ≤ 64 by omega)]; simp
    · rw [decide_eq_false (show ¬ s.rels.length ≤ 8 by omega)]; simp
  · simp only [Bool.or_eq_true, Bool.and_eq_true, Bool.not_eq_true', Bool.not_eq_false', Bool.and_eq_false_iff, Bool.or_eq_false_iff, decide_eq_true_eq, decide_eq_false_iff_not, Bool.not_eq_eq_eq_not, Bool.not_true, Bool.not_false] at hb
    obtain ⟨⟨hb1, hb2⟩, hb3⟩ := hb
    repeat (first | refine nav ?_ | refine bo ?_)
    (refine wr fun K R hK hR => ?_; simp (maxSteps := 10000000) only [go_sem]; (try go_ints); (repeat refine And.intro side ?_); (first | refine hK _ ?_ | refine hR _ _ ?_); clear hK hR K R)
    repeat (first | refine nav ?_ | refine bo ?_)
    refine W_for 19 53 [3, 4] (fun m t o => ∃ k : Nat, [Ob.cells 2 [[.i .i64 s.size, .sl 3 (rels s.rels)]]] = o ∧ t 3 = .i .i64 k ∧ m = s.rels.length - k ∧ k ≤ s.rels.length ∧ ∀ i < k, ∀ r, s.rels[i]? = some r → (relOk s.size r && !(s.rels.take i).any fun q => q.name.toList == r.name.toList) = true) s.rels.length ⟨0, rfl, by simp only [go_sem] <;> rfl, by omega, Nat.zero_le _, by simp⟩ ?_
    rintro m t o ⟨k, rfl, h3, rfl, hk, hi⟩
    repeat (first | refine nav ?_ | refine bo ?_)
    (refine wr fun K R hK hR => ?_; simp (maxSteps := 10000000) only [go_sem, h3]; (try go_ints); (try simp only [go_sem, h3]); (repeat refine And.intro side ?_); (first | refine hK _ ?_ | refine hR _ _ ?_); clear hK hR K R)
    repeat (first | refine nav ?_ | refine bo ?_)
    refine W_cond (by simp only [go_sem] <;> exact rfl) (fun hb => ?_) (fun hb => ?_)
    · simp at hb
      obtain ⟨r, hr⟩ : ∃ r, s.rels[k]? = some r := ⟨_, List.getElem?_eq_getElem hb⟩
      have hro := hs.rel r (List.mem_of_getElem? hr)
      repeat (first | refine nav ?_ | refine bo ?_)
      (refine W_dreg (by decide +kernel) [] [0, 1, 2, 3, 4, 5, 6, 7, 8] [[], [0], [], [2], [], [4, 2, 3], [3, 2, 4, 5], [5, 4, 2, 3, 6, 0, 1], [1, 0, 6, 3, 2, 4, 5, 7]] (by decide +kernel) rfl fun K R hK hR => ?_; simp only [List.filterMap_cons, List.filterMap_nil, List.getElem?_cons_zero, List.getElem?_cons_succ, List.cons_append, List.nil_append]; simp (maxSteps := 10000000) only [go_sem, h3, rels_get hr]; (try go_ints); (try simp only [go_sem, h3, rels_get hr]); (repeat refine And.intro side ?_); (first | refine hK _ ?_ | refine hR _ _ ?_); clear hK hR K R)
      refine D_callD (rel_spec s.size (by omega) (by omega) r hro) rfl rfl rfl (by first | (simp only [go_sem] <;> first | exact LeA.refl _ | exact Le.refl _) | exact LeA.refl _) rfl rfl rfl rfl ?_
      (refine D_reg fun K R hK hR => ?_; simp (maxSteps := 10000000) only [go_sem]; (try go_ints); (repeat refine And.intro side ?_); (first | refine hK _ ?_ | refine hR _ _ ?_); clear hK hR K R)
      repeat (first | refine nav ?_ | refine bo ?_)
      refine W_cond (by simp only [go_sem] <;> exact rfl) (fun hc => ?_) (fun hc => ?_)
      · have hno : relOk s.size r = false := by simpa using hc
        repeat (first | refine nav ?_ | refine bo ?_)
        (refine wr fun K R hK hR => ?_; simp (maxSteps := 10000000) only [go_sem]; (try go_ints); (repeat refine And.intro side ?_); (first | refine hK _ ?_ | refine hR _ _ ?_); clear hK hR K R)
        repeat (first | refine nav ?_ | refine bo ?_)
        refine endQ_data (by simp only [go_sem] <;> exact rfl) (Le.of_eq ?_) rfl
        rw [AV.b.injEq, eq_comm, validF]
        simp only [Bool.and_eq_false_iff]
        right
        rw [List.all_eq_false]
        exact ⟨k, by simpa using hb, by simp [hr, hno]⟩
      · have hyes : relOk s.size r = true := by simpa using hc
        repeat (first | refine nav ?_ | refine bo ?_)
        (refine wr fun K R hK hR => ?_; simp (maxSteps := 10000000) only [go_sem]; (try go_ints); (repeat refine And.intro side ?_); (first | refine hK _ ?_ | refine hR _ _ ?_); clear hK hR K R)
        repeat (first | refine nav ?_ | refine bo ?_)
        refine W_for 35 53 [4] (fun m t o => ∃ j : Nat, [Ob.cells 2 [[.i .i64 s.size, .sl 3 (rels s.rels)]]] = o ∧ t 4 = .i .i64 j ∧ m = k - j ∧ j ≤ k ∧ ∀ i < j, ∀ q, s.rels[i]? = some q → (q.name.toList == r.name.toList) = false) k ⟨0, rfl, by simp only [go_sem] <;> rfl, by omega, Nat.zero_le _, by simp⟩ ?_
        rintro m t2 o ⟨j, rfl, h4, rfl, hj, hji⟩
        repeat (first | refine nav ?_ | refine bo ?_)
        (refine wr fun K R hK hR => ?_; simp (maxSteps := 10000000) only [go_sem, h3, h4]; (try go_ints); (try simp only [go_sem, h3, h4]); (repeat refine And.intro side ?_); (first | refine hK _ ?_ | refine hR _ _ ?_); clear hK hR K R)
        repeat (first | refine nav ?_ | refine bo ?_)
        refine W_cond (by simp only [go_sem] <;> exact rfl) (fun hb => ?_) (fun hb => ?_)
        · simp at hb
          obtain ⟨q, hq⟩ : ∃ q, s.rels[j]? = some q := ⟨_, List.getElem?_eq_getElem (by omega)⟩
          repeat (first | refine nav ?_ | refine bo ?_)
          (refine W_dreg (by decide +kernel) [] [0, 1, 2, 3, 4, 5, 6, 7, 8, 9, 10, 11, 12] [[], [0], [], [2, 0, 1], [1, 0, 2, 3], [3, 2, 0, 1, 4], [], [6], [], [8, 6, 7], [7, 6, 8, 9], [9, 8, 6, 7, 10], [10, 7, 6, 8, 9, 11, 4, 1, 0, 2, 3, 5]] (by decide +kernel) rfl fun K R hK hR => ?_; simp only [List.filterMap_cons, List.filterMap_nil, List.getElem?_cons_zero, List.getElem?_cons_succ, List.cons_append, List.nil_append]; simp (maxSteps := 10000000) only [go_sem, h3, h4, rels_get hr, rels_get hq]; (try go_ints); (try simp only [go_sem, h3, h4, rels_get hr, rels_get hq]); (repeat refine And.intro side ?_); (first | refine hK _ ?_ | refine hR _ _ ?_); clear hK hR K R)
          repeat (first | refine nav ?_ | refine bo ?_)
          refine W_cond (by simp only [go_sem] <;> exact rfl) (fun hd => ?_) (fun hd => ?_)
          · repeat (first | refine nav ?_ | refine bo ?_)
            (refine wr fun K R hK hR => ?_; simp (maxSteps := 10000000) only [go_sem]; (try go_ints); (repeat refine And.intro side ?_); (first | refine hK _ ?_ | refine hR _ _ ?_); clear hK hR K R)
            repeat (first | refine nav ?_ | refine bo ?_)
            refine endQ_data (by simp only [go_sem] <;> exact rfl) (Le.of_eq ?_) rfl
            rw [AV.b.injEq, eq_comm, validF]
            simp only [Bool.and_eq_false_iff]
            right
            rw [List.all_eq_false]
            refine ⟨k, by simp; omega, ?_⟩
            have : (s.rels.take k).any (fun q => q.name.toList == r.name.toList) = true := by
              rw [List.any_eq_true]
              exact ⟨q, List.mem_of_getElem? (i := j) (by rw [List.getElem?_take, if_pos hb]; exact hq), hd⟩
            simp only [hr, this]
            simp
          · repeat (first | refine nav ?_ | refine bo ?_)
            (refine wr fun K R hK hR => ?_; simp (maxSteps := 10000000) only [go_sem, h4]; (try go_ints); (try simp only [go_sem, h4]); (repeat refine And.intro side ?_); (first | refine hK _ ?_ | refine hR _ _ ?_); clear hK hR K R)
            refine forQ_normal (k - (j + 1)) (by omega) ⟨j + 1, ?_⟩
            ((try simp only [go_sem]); (repeat' refine And.intro ?_ ?_) <;> (try first | with_reducible rfl | omega | with_reducible assumption | (simp; done)))
            intro i hij q' hq'
            rcases Nat.lt_succ_iff_lt_or_eq.1 hij with h | rfl
            · exact hji i h q' hq'
            · rw [hq] at hq'
              obtain rfl := Option.some.inj hq'
              exact hd
        · simp at hb
          have : j = k := by omega
          subst this
          rw [mix_mix rfl]
          repeat (first | refine nav ?_ | refine bo ?_)
          (refine wr fun K R hK hR => ?_; simp (maxSteps := 10000000) only [go_sem, h3]; (try go_ints); (try simp only [go_sem, h3]); (repeat refine And.intro side ?_); (first | refine hK _ ?_ | refine hR _ _ ?_); clear hK hR K R)
          refine forQ_normal (s.rels.length - (j + 1)) (by omega) ⟨j + 1, ?_⟩
          ((try simp only [go_sem]); (repeat' refine And.intro ?_ ?_) <;> (try first | with_reducible rfl | omega | with_reducible assumption | (simp; done)))
          intro i hik r' hr'
          rcases Nat.lt_succ_iff_lt_or_eq.1 hik with h | rfl
          · exact hi i h r' hr'
          · rw [hr] at hr'
            obtain rfl := Option.some.inj hr'
            rw [hyes, Bool.true_and, Bool.not_eq_true', List.any_eq_false]
            intro q hq
            obtain ⟨i', hi'⟩ := List.getElem?_of_mem hq
            rw [List.getElem?_take] at hi'
            split at hi'
            · rename_i hlt
              rw [hji i' hlt q hi']; simp
            · cases hi'
    · simp at hb
      have : k = s.rels.length := by omega
      subst this
      repeat (first | refine nav ?_ | refine bo ?_)
      (refine wr fun K R hK hR => ?_; simp (maxSteps := 10000000) only [go_sem]; (try go_ints); (repeat refine And.intro side ?_); (first | refine hK _ ?_ | refine hR _ _ ?_); clear hK hR K R)
      repeat (first | refine nav ?_ | refine bo ?_)
      refine endQ_data (by simp only [go_sem] <;> exact rfl) (Le.of_eq ?_) rfl
      rw [AV.b.injEq, eq_comm, validF, decide_eq_true (show 1 ≤ s.size by omega), decide_eq_true (show s.size ≤ 64 by omega), decide_eq_true (show s.rels.length ≤ 8 by omega)]
      simp only [Bool.true_and]
      rw [List.all_eq_true]
      intro i hi'
      have hlt : i < s.rels.length := by simpa using hi'
      rw [List.getElem?_eq_getElem hlt]
      exact hi i hlt _ (List.getElem?_eq_getElem hlt)
theorem findF_cases (s : StrD) (name : ByteArray) : (findF s name = -1 ∧ ∀ q ∈ s.rels, (q.name.toList == name.toList) = false) ∨ ∃ (j : Nat) (q : RelD), findF s name = j ∧ s.rels[j]? = some q ∧ (q.name.toList == name.toList) = true := by
  have key : ∀ (l : List RelD) (k : Nat), (idxI (fun q : RelD => q.name.toList == name.toList) l k = -1 ∧ ∀ q ∈ l, (q.name.toList == name.toList) = false) ∨ ∃ (j : Nat) (q : RelD), idxI (fun q : RelD => q.name.toList == name.toList) l k = ((k + j : Nat) : Int) ∧ l[j]? = some q ∧ (q.name.toList == name.toList) = true := by
    intro l
    induction l with
    | nil => intro k; exact .inl ⟨rfl, fun q hq => by simp at hq⟩
    | cons x l ih =>
      intro k
      rw [idxI]
      by_cases hx : (x.name.toList == name.toList) = true
      · rw [if_pos hx]; exact .inr ⟨0, x, by simp, rfl, hx⟩
      · rw [if_neg hx]
        have := ih (k + 1)
        rw [Int.natCast_add, Int.natCast_one] at this
        rcases this with ⟨a, b⟩ | ⟨j, q, a, b, c⟩
        · refine .inl ⟨a, fun q hq => ?_⟩
          rcases List.mem_cons.1 hq with rfl | hq
          · simpa using hx
          · exact b q hq
        · refine .inr ⟨j + 1, q, ?_, by simpa using b, c⟩
          rw [a]; omega
  have := key s.rels 0
  simpa [findF] using this
def fitsR (l : List SymD) (s : StrD) : Bool := l.all fun x => match s.rels[(findF s x.name).toNat]? with | some q => decide (0 ≤ findF s x.name) && (q.arity == x.arity) | none => false
theorem fitsR_eq {s : StrD} (hv : validF s = true) (l : List SymD) : fitsR l s = fitsF l s := by
  unfold fitsR fitsF
  refine List.all_congr rfl fun x => ?_
  rcases findF_cases s x.name with ⟨a, b⟩ | ⟨j, q, a, b, c⟩
  · rw [a]
    have : (s.rels.any fun q => q.name.toList == x.name.toList && (q.arity == x.arity)) = false := by
      rw [List.any_eq_false]
      intro q hq
      rw [b q hq]; simp
    rw [this]
    split <;> simp
  · rw [a, Int.toNat_natCast, b]
    simp only [Int.natCast_nonneg, decide_true, Bool.true_and]
    rw [Bool.eq_iff_iff]
    constructor
    · intro h
      rw [List.any_eq_true]
      exact ⟨q, List.mem_of_getElem? b, by rw [c, h]; rfl⟩
    · intro h
      rw [List.any_eq_true] at h
      obtain ⟨q', hq', h⟩ := h
      rw [Bool.and_eq_true] at h
      obtain ⟨i, hi⟩ := List.getElem?_of_mem hq'
      have uniq : ∀ (i j : Nat) (p q : RelD), i < j → s.rels[i]? = some p → s.rels[j]? = some q → (p.name.toList == q.name.toList) = false := by
        intro i j p q hij hp hq
        simp only [validF, Bool.and_eq_true, List.all_eq_true, List.mem_range] at hv
        have h1 := hv.2 j (List.getElem?_eq_some_iff.1 hq).1
        rw [hq] at h1
        simp only [Bool.and_eq_true, Bool.not_eq_true', List.any_eq_false] at h1
        have := h1.2 p (List.mem_of_getElem? (i := i) (by rw [List.getElem?_take, if_pos hij]; exact hp))
        simpa using this
      have e1 : q'.name.toList = x.name.toList := by simpa using h.1
      have e2 : q.name.toList = x.name.toList := by simpa using c
      rcases Nat.lt_trichotomy i j with hl | rfl | hl
      · have := uniq i j q' q hl hi b
        rw [e1, e2] at this
        simp at this
      · rw [b] at hi
        obtain rfl := Option.some.inj hi
        exact h.2
      · have := uniq j i q q' hl b hi
        rw [e1, e2] at this
        simp at this
theorem rfits_spec (l : List SymD) (hl : l.length ≤ 1099511627776) (s : StrD) (hs : s.Ok) : ACallsD Try.prog 58 [.agg [.i .i64 s.size, .sl 3 (rels s.rels)], .sl 2 (syms l)] (.b (fitsR l s)) := by
  have hlen := hs.len
  refine ACalls_of' (n := 36) (rs := [.tmp 4]) (show Try.prog.funcs[58]? = some Try.f58 by kernel_rfl) rfl rfl rfl (by simp) (by decide +kernel) ?_
  repeat (first | refine nav ?_ | refine bo ?_)
  (refine wr fun K R hK hR => ?_; simp (maxSteps := 10000000) only [go_sem]; (try go_ints); (repeat refine And.intro side ?_); (first | refine hK _ ?_ | refine hR _ _ ?_); clear hK hR K R)
  repeat (first | refine nav ?_ | refine bo ?_)
  (refine wr fun K R hK hR => ?_; simp (maxSteps := 10000000) only [go_sem]; (try go_ints); (repeat refine And.intro side ?_); (first | refine hK _ ?_ | refine hR _ _ ?_); clear hK hR K R)
  repeat (first | refine nav ?_ | refine bo ?_)
  refine W_for 7 36 [5, 6] (fun m t o => ∃ k : Nat, [Ob.cells 2 [[.i .i64 s.size, .sl 3 (rels s.rels)]]] = o ∧ t 5 = .i .i64 k ∧ m = l.length - k ∧ k ≤ l.length ∧ fitsR (l.drop k) s = fitsR l s) l.length ⟨0, rfl, by simp only [go_sem] <;> rfl, by omega, Nat.zero_le _, rfl⟩ ?_
  rintro m t o ⟨k, rfl, h5, rfl, hk, hi⟩
  repeat (first | refine nav ?_ | refine bo ?_)
  (refine wr fun K R hK hR => ?_; simp (maxSteps := 10000000) only [go_sem, h5]; (try go_ints); (try simp only [go_sem, h5]); (repeat refine And.intro side ?_); (first | refine hK _ ?_ | refine hR _ _ ?_); clear hK hR K R)
  repeat (first | refine nav ?_ | refine bo ?_)
  refine W_cond (by simp only [go_sem] <;> exact rfl) (fun hb => ?_) (fun hb => ?_)
  · simp at hb
    obtain ⟨x, hx⟩ : ∃ x, l[k]? = some x := ⟨_, List.getElem?_eq_getElem hb⟩
    rw [drop_cons hx, show fitsR (x :: l.drop (k + 1)) s = ((match s.rels[(findF s x.name).toNat]? with | some q => decide (0 ≤ findF s x.name) && (q.arity == x.arity) | none => false) && fitsR (l.drop (k + 1)) s) from rfl] at hi
    repeat (first | refine nav ?_ | refine bo ?_)
    (refine W_dreg (by decide +kernel) [] [0, 1, 2, 3, 4, 5, 6, 7] [[], [], [], [2, 1], [1, 2, 3], [3, 2, 1, 4], [4, 1, 2, 3, 5, 0], [0, 5, 3, 2, 1, 4, 6]] (by decide +kernel) rfl fun K R hK hR => ?_; simp only [List.filterMap_cons, List.filterMap_nil, List.getElem?_cons_zero, List.getElem?_cons_succ, List.cons_append, List.nil_append]; simp (maxSteps := 10000000) only [go_sem, h5, syms_get hx]; (try go_ints); (try simp only [go_sem, h5, syms_get hx]); (repeat refine And.intro side ?_); (first | refine hK _ ?_ | refine hR _ _ ?_); clear hK hR K R)
    refine D_callD (find_spec s hs x.name) rfl rfl rfl (by first | (simp only [go_sem] <;> first | exact LeA.refl _ | exact Le.refl _) | exact LeA.refl _) rfl rfl rfl rfl ?_
    (refine D_reg fun K R hK hR => ?_; simp (maxSteps := 10000000) only [go_sem]; (try go_ints); (repeat refine And.intro side ?_); (first | refine hK _ ?_ | refine hR _ _ ?_); clear hK hR K R)
    rcases findF_cases s x.name with ⟨a, b⟩ | ⟨j, q, a, b, c⟩
    · rw [a] at hi
      repeat (first | refine nav ?_ | refine bo ?_)
      have h0 : (((rels s.rels).getD 0 []).getD 1 .any).dat = .any ∨ ∃ z, (((rels s.rels).getD 0 []).getD 1 .any).dat = .i .i64 z := by
        cases s.rels with
        | nil => exact .inl rfl
        | cons r l => exact .inr ⟨r.arity, rfl⟩
      have hno : fitsR l s = false := by
        rw [← hi]
        cases s.rels[((-1 : Int)).toNat]? <;> simp
      rcases h0 with h0 | ⟨z, h0⟩
      · (refine W_dreg (by decide +kernel) [] [0, 1, 2, 3, 4, 5, 6, 7, 8, 9, 10, 11, 12, 13, 14, 15] [[], [0], [0, 1], [1, 0, 2], [2, 0, 1, 3], [1, 0, 2], [5, 3, 1, 0, 2, 4], [4, 2, 0, 1, 3, 5, 6], [6, 5, 3, 1, 0, 2, 4, 7], [1, 0, 2], [1, 0, 2], [10, 2, 0, 1, 9], [9, 1, 0, 2, 10, 11], [11, 10, 2, 0, 1, 9, 12], [12, 9, 10, 11, 13, 7, 4, 2, 0, 1, 3, 5, 6, 8], [8, 6, 5, 3, 4, 7, 13, 11, 10, 9, 12, 14, 1, 0, 2]] (by decide +kernel) rfl fun K R hK hR => ?_; simp only [List.filterMap_cons, List.filterMap_nil, List.getElem?_cons_zero, List.getElem?_cons_succ, List.cons_append, List.nil_append]; simp (maxSteps := 10000000) only [go_sem, a, h5, syms_get hx, h0]; (try go_ints); (try simp only [go_sem, a, h5, syms_get hx, h0]); (repeat refine And.intro side ?_); (first | refine hK _ ?_ | refine hR _ _ ?_); clear hK hR K R)
        repeat (first | refine nav ?_ | refine bo ?_)
        refine W_cond (b := true) (by simp only [go_sem] <;> exact rfl) (fun _ => ?_) (fun hd => by cases hd)
        repeat (first | refine nav ?_ | refine bo ?_)
        (refine wr fun K R hK hR => ?_; simp (maxSteps := 10000000) only [go_sem]; (try go_ints); (repeat refine And.intro side ?_); (first | refine hK _ ?_ | refine hR _ _ ?_); clear hK hR K R)
        repeat (first | refine nav ?_ | refine bo ?_)
        refine endQ_data (by simp only [go_sem] <;> exact rfl) (Le.of_eq ?_) rfl
        rw [hno]
      · (refine W_dreg (by decide +kernel) [] [0, 1, 2, 3, 4, 5, 6, 7, 8, 9, 10, 11, 12, 13, 14, 15] [[], [0], [0, 1], [1, 0, 2], [2, 0, 1, 3], [1, 0, 2], [5, 3, 1, 0, 2, 4], [4, 2, 0, 1, 3, 5, 6], [6, 5, 3, 1, 0, 2, 4, 7], [1, 0, 2], [1, 0, 2], [10, 2, 0, 1, 9], [9, 1, 0, 2, 10, 11], [11, 10, 2, 0, 1, 9, 12], [12, 9, 10, 11, 13, 7, 4, 2, 0, 1, 3, 5, 6, 8], [8, 6, 5, 3, 4, 7, 13, 11, 10, 9, 12, 14, 1, 0, 2]] (by decide +kernel) rfl fun K R hK hR => ?_; simp only [List.filterMap_cons, List.filterMap_nil, List.getElem?_cons_zero, List.getElem?_cons_succ, List.cons_append, List.nil_append]; simp (maxSteps := 10000000) only [go_sem, a, h5, syms_get hx, h0]; (try go_ints); (try simp only [go_sem, a, h5, syms_get hx, h0]); (repeat refine And.intro side ?_); (first | refine hK _ ?_ | refine hR _ _ ?_); clear hK hR K R)
        repeat (first | refine nav ?_ | refine bo ?_)
        refine W_cond (b := true) (by simp only [go_sem] <;> exact rfl) (fun _ => ?_) (fun hd => by cases hd)
        repeat (first | refine nav ?_ | refine bo ?_)
        (refine wr fun K R hK hR => ?_; simp (maxSteps := 10000000) only [go_sem]; (try go_ints); (repeat refine And.intro side ?_); (first | refine hK _ ?_ | refine hR _ _ ?_); clear hK hR K R)
        repeat (first | refine nav ?_ | refine bo ?_)
        refine endQ_data (by simp only [go_sem] <;> exact rfl) (Le.of_eq ?_) rfl
        rw [hno]
    · rw [a, Int.toNat_natCast, b] at hi
      simp only [Int.natCast_nonneg, decide_true, Bool.true_and] at hi
      have hjl := (List.getElem?_eq_some_iff.1 b).1
      have hn0 : decide ((j : Int) < 0) = false := by simp
      repeat (first | refine nav ?_ | refine bo ?_)
      (refine W_dreg (by decide +kernel) [] [0, 1, 2, 3, 4, 5, 6, 7, 8, 9, 10, 11, 12, 13, 14, 15] [[], [0], [0, 1], [1, 0, 2], [2, 0, 1, 3], [1, 0, 2], [5, 3, 1, 0, 2, 4], [4, 2, 0, 1, 3, 5, 6], [6, 5, 3, 1, 0, 2, 4, 7], [1, 0, 2], [1, 0, 2], [10, 2, 0, 1, 9], [9, 1, 0, 2, 10, 11], [11, 10, 2, 0, 1, 9, 12], [12, 9, 10, 11, 13, 7, 4, 2, 0, 1, 3, 5, 6, 8], [8, 6, 5, 3, 4, 7, 13, 11, 10, 9, 12, 14, 1, 0, 2]] (by decide +kernel) rfl fun K R hK hR => ?_; simp only [List.filterMap_cons, List.filterMap_nil, List.getElem?_cons_zero, List.getElem?_cons_succ, List.cons_append, List.nil_append]; simp (maxSteps := 10000000) only [go_sem, a, h5, syms_get hx, rels_get b, hn0]; (try go_ints); (try simp only [go_sem, a, h5, syms_get hx, rels_get b, hn0]); (repeat refine And.intro side ?_); (first | refine hK _ ?_ | refine hR _ _ ?_); clear hK hR K R)
      repeat (first | refine nav ?_ | refine bo ?_)
      refine W_cond (by simp only [go_sem] <;> exact rfl) (fun hd => ?_) (fun hd => ?_)
      · have hd : (q.arity == x.arity) = false := by simpa using hd
        rw [hd, Bool.false_and] at hi
        repeat (first | refine nav ?_ | refine bo ?_)
        (refine wr fun K R hK hR => ?_; simp (maxSteps := 10000000) only [go_sem]; (try go_ints); (repeat refine And.intro side ?_); (first | refine hK _ ?_ | refine hR _ _ ?_); clear hK hR K R)
        repeat (first | refine nav ?_ | refine bo ?_)
        refine endQ_data (by simp only [go_sem] <;> exact rfl) (Le.of_eq ?_) rfl
        rw [← hi]
      · have hd : (q.arity == x.arity) = true := by simpa using hd
        rw [hd, Bool.true_and] at hi
        repeat (first | refine nav ?_ | refine bo ?_)
        (refine wr fun K R hK hR => ?_; simp (maxSteps := 10000000) only [go_sem, h5]; (try go_ints); (try simp only [go_sem, h5]); (repeat refine And.intro side ?_); (first | refine hK _ ?_ | refine hR _ _ ?_); clear hK hR K R)
        refine forQ_normal (l.length - (k + 1)) (by omega) ⟨k + 1, ?_⟩
        ((try simp only [go_sem]); (repeat' refine And.intro ?_ ?_) <;> (try first | with_reducible rfl | omega | with_reducible assumption | (simp; done)))
  · simp at hb
    have : k = l.length := by omega
    subst this
    rw [List.drop_length] at hi
    repeat (first | refine nav ?_ | refine bo ?_)
    (refine wr fun K R hK hR => ?_; simp (maxSteps := 10000000) only [go_sem]; (try go_ints); (repeat refine And.intro side ?_); (first | refine hK _ ?_ | refine hR _ _ ?_); clear hK hR K R)
    repeat (first | refine nav ?_ | refine bo ?_)
    refine endQ_data (by simp only [go_sem] <;> exact rfl) (Le.of_eq ?_) rfl
    rw [← hi]; rfl
end Go.AW
/-
Contracts: the code of an error; the edges.
-/
namespace Go.AW
open Go Go.Proofs TyTry Go.IntWalk
set_option linter.unusedSimpArgs false
set_option linter.unusedVariables false
set_option maxRecDepth 10000

theorem has_spec (l : List SymD) (hl : l.length ≤ 1099511627776) (s : StrD) (hs : s.Ok) : ACallsD Try.prog 33 [.agg [.i .i64 s.size, .sl 3 (rels s.rels)], .sl 2 (syms l)] (.b (fitsR l s)) := by
  refine ACalls_of' (n := 8) (rs := [.tmp 4]) (show Try.prog.funcs[33]? = some Try.f33 by kernel_rfl) rfl rfl rfl (by simp) (by decide +kernel) ?_
  repeat (first | refine nav ?_ | refine bo ?_)
  (refine wr fun K R hK hR => ?_; simp (maxSteps := 10000000) only [go_sem]; (try go_ints); (repeat refine And.intro side ?_); (first | refine hK _ ?_ | refine hR _ _ ?_); clear hK hR K R)
  repeat (first | refine nav ?_ | refine bo ?_)
  (refine wr fun K R hK hR => ?_; simp (maxSteps := 10000000) only [go_sem]; (try go_ints); (repeat refine And.intro side ?_); (first | refine hK _ ?_ | refine hR _ _ ?_); clear hK hR K R)
  refine RL_callF (rfits_spec l hl s hs) rfl rfl rfl (by first | (simp only [go_sem] <;> first | exact LeA.refl _ | exact Le.refl _) | exact LeA.refl _) rfl rfl ?_
  (refine rr fun K R hK hR => ?_; simp (maxSteps := 10000000) only [go_sem]; (try go_ints); (repeat refine And.intro side ?_); (first | refine hK _ ?_ | refine hR _ _ ?_); clear hK hR K R)
  repeat (first | refine nav ?_ | refine bo ?_)
  refine endQ_data (by simp only [go_sem] <;> exact rfl) (Le.of_eq ?_) rfl
  rfl
def symsE : List SymD := [⟨⟨#[69]⟩, 2⟩]
def symsA : List SymD := [⟨⟨#[65]⟩, 1⟩]
def codeF (s : StrD) (b : Bool) : Int := if validF s = false then 1 else if (!(fitsR symsE s) || (b && !(fitsR symsA s))) = true then 4 else 0
theorem code_spec (s : StrD) (hs : s.Ok) (b : Bool) : ACallsD Try.prog 10 [.agg [.i .i64 s.size, .sl 3 (rels s.rels)], .b b] (.i .i64 (codeF s b)) := by
  refine ACalls_of' (n := 25) (rs := [.tmp 4]) (show Try.prog.funcs[10]? = some Try.f10 by kernel_rfl) rfl rfl rfl (by simp) (by decide +kernel) ?_
  repeat (first | refine nav ?_ | refine bo ?_)
  (refine wr fun K R hK hR => ?_; simp (maxSteps := 10000000) only [go_sem]; (try go_ints); (repeat refine And.intro side ?_); (first | refine hK _ ?_ | refine hR _ _ ?_); clear hK hR K R)
  repeat (first | refine nav ?_ | refine bo ?_)
  (refine wr fun K R hK hR => ?_; simp (maxSteps := 10000000) only [go_sem]; (try go_ints); (repeat refine And.intro side ?_); (first | refine hK _ ?_ | refine hR _ _ ?_); clear hK hR K R)
  refine RL_callF (rvalid_spec s hs) rfl rfl rfl (by first | (simp only [go_sem] <;> first | exact LeA.refl _ | exact Le.refl _) | exact LeA.refl _) rfl rfl ?_
  (refine rr fun K R hK hR => ?_; simp (maxSteps := 10000000) only [go_sem]; (try go_ints); (repeat refine And.intro side ?_); (first | refine hK _ ?_ | refine hR _ _ ?_); clear hK hR K R)
  repeat (first | refine nav ?_ | refine bo ?_)
  refine W_cond (by simp only [go_sem] <;> exact rfl) (fun hb => ?_) (fun hb => ?_)
  · have hv : validF s = false := by simpa using hb
    repeat (first | refine nav ?_ | refine bo ?_)
    (refine wr fun K R hK hR => ?_; simp (maxSteps := 10000000) only [go_sem]; (try go_ints); (repeat refine And.intro side ?_); (first | refine hK _ ?_ | refine hR _ _ ?_); clear hK hR K R)
    repeat (first | refine nav ?_ | refine bo ?_)
    refine endQ_data (by simp only [go_sem] <;> exact rfl) (Le.of_eq ?_) rfl
    rw [codeF, if_pos hv]
  · have hv : validF s = true := by simpa using hb
    repeat (first | refine nav ?_ | refine bo ?_)
    (refine wr fun K R hK hR => ?_; simp (maxSteps := 10000000) only [go_sem]; (try go_ints); (repeat refine And.intro side ?_); (first | refine hK _ ?_ | refine hR _ _ ?_); clear hK hR K R)
    refine RL_callF (has_spec symsE (by decide) s hs) rfl rfl rfl (by first | (simp only [go_sem] <;> first | exact LeA.refl _ | exact Le.refl _) | exact LeA.refl _) rfl rfl ?_
    (refine rr fun K R hK hR => ?_; simp (maxSteps := 10000000) only [go_sem]; (try go_ints); (repeat refine And.intro side ?_); (first | refine hK _ ?_ | refine hR _ _ ?_); clear hK hR K R)
    refine RL_callDg rfl (by simp only [go_sem] <;> exact rfl) (fun e => has_spec symsA (by decide) s hs) rfl rfl rfl (fun e => by (try simp only [go_sem] at e); simp only [go_sem, e] <;> (try simp only [go_sem]) <;> first | exact LeA.refl _ | exact Le.refl _) rfl rfl ?_
    (refine rr fun K R hK hR => ?_; simp (maxSteps := 10000000) only [go_sem]; (try go_ints); (repeat refine And.intro side ?_); (first | refine hK _ ?_ | refine hR _ _ ?_); clear hK hR K R)
    repeat (first | refine nav ?_ | refine bo ?_)
    refine W_cond (by simp only [go_sem] <;> exact rfl) (fun hb => ?_) (fun hb => ?_)
    · repeat (first | refine nav ?_ | refine bo ?_)
      (refine wr fun K R hK hR => ?_; simp (maxSteps := 10000000) only [go_sem]; (try go_ints); (repeat refine And.intro side ?_); (first | refine hK _ ?_ | refine hR _ _ ?_); clear hK hR K R)
      repeat (first | refine nav ?_ | refine bo ?_)
      refine endQ_data (by simp only [go_sem] <;> exact rfl) (Le.of_eq ?_) rfl
      rw [codeF, if_neg (by simp [hv]), if_pos hb]
    · repeat (first | refine nav ?_ | refine bo ?_)
      (refine wr fun K R hK hR => ?_; simp (maxSteps := 10000000) only [go_sem]; (try go_ints); (repeat refine And.intro side ?_); (first | refine hK _ ?_ | refine hR _ _ ?_); clear hK hR K R)
      repeat (first | refine nav ?_ | refine bo ?_)
      refine endQ_data (by simp only [go_sem] <;> exact rfl) (Le.of_eq ?_) rfl
      rw [codeF, if_neg (by simp [hv]), if_neg (by simp [hb])]
/-- The tuples of a relation that is there. -/
def tupsOf (s : StrD) (name : ByteArray) : List (List Int) := match s.rels[(findF s name).toNat]? with | some q => q.tuples | none => []
theorem fitsR_one {x : SymD} {s : StrD} (h : fitsR [x] s = true) : ∃ (j : Nat) (q : RelD), findF s x.name = j ∧ s.rels[j]? = some q ∧ (q.name.toList == x.name.toList) = true ∧ q.arity = x.arity ∧ tupsOf s x.name = q.tuples := by
  rcases findF_cases s x.name with ⟨a, b⟩ | ⟨j, q, a, b, c⟩
  · simp only [fitsR, List.all_cons, List.all_nil, Bool.and_true, a] at h
    split at h
    · simp at h
    · cases h
  · refine ⟨j, q, a, b, c, ?_, by rw [tupsOf, a, Int.toNat_natCast, b]⟩
    simp only [fitsR, List.all_cons, List.all_nil, Bool.and_true, a, Int.toNat_natCast, b, Bool.and_eq_true, beq_iff_eq] at h
    exact h.2
theorem edge_spec (s : StrD) (hs : s.Ok) (hf : fitsR symsE s = true) (x y : Int) : ACallsD Try.prog 61 [.agg [.i .i64 s.size, .sl 3 (rels s.rels)], .i .i64 x, .i .i64 y] (.b (decide ([x, y] ∈ tupsOf s ⟨#[69]⟩))) := by
  obtain ⟨j, q, e1, e2, e3, e4, e5⟩ := fitsR_one hf
  simp only at e1 e5
  have hjl := (List.getElem?_eq_some_iff.1 e2).1
  have hq := hs.rel q (List.mem_of_getElem? e2)
  have hF := find_spec s hs ⟨#[69]⟩
  rw [e1] at hF
  rw [e5]
  refine ACalls_of' (n := 18) (rs := [.tmp 6]) (show Try.prog.funcs[61]? = some Try.f61 by kernel_rfl) rfl rfl rfl (by simp) (by decide +kernel) ?_
  repeat (first | refine nav ?_ | refine bo ?_)
  (refine wr fun K R hK hR => ?_; simp (maxSteps := 10000000) only [go_sem]; (try go_ints); (repeat refine And.intro side ?_); (first | refine hK _ ?_ | refine hR _ _ ?_); clear hK hR K R)
  repeat (first | refine nav ?_ | refine bo ?_)
  (refine W_dreg (by decide +kernel) [] [0, 1, 2, 3, 4, 5, 6, 7, 8, 9, 10, 11] [[], [0], [], [2], [2, 3, 0, 1], [1, 0, 3, 2, 4], [4, 2, 3, 0, 1, 5], [], [], [8, 7], [7, 8, 9, 5, 1, 0, 3, 2, 4, 6], [6, 4, 2, 3, 0, 1, 5, 9, 8, 7, 10]] (by decide +kernel) rfl fun K R hK hR => ?_; simp only [List.filterMap_cons, List.filterMap_nil, List.getElem?_cons_zero, List.getElem?_cons_succ, List.cons_append, List.nil_append]; simp (maxSteps := 10000000) only [go_sem]; (try go_ints); (repeat refine And.intro side ?_); (first | refine hK _ ?_ | refine hR _ _ ?_); clear hK hR K R)
  refine D_callD (hF) rfl rfl rfl (by first | (simp only [go_sem] <;> first | exact LeA.refl _ | exact Le.refl _) | exact LeA.refl _) rfl rfl rfl rfl ?_
  (refine D_reg fun K R hK hR => ?_; simp (maxSteps := 10000000) only [go_sem, rels_get e2]; (try go_ints); (try simp only [go_sem, rels_get e2]); (repeat refine And.intro side ?_); (first | refine hK _ ?_ | refine hR _ _ ?_); clear hK hR K R)
  refine D_callD (among_spec q.tuples hq.len hq.tup [x, y]) rfl rfl rfl (by first | (simp only [go_sem] <;> first | exact LeA.refl _ | exact Le.refl _) | exact LeA.refl _) rfl rfl rfl rfl ?_
  (refine D_reg fun K R hK hR => ?_; simp (maxSteps := 10000000) only [go_sem]; (try go_ints); (repeat refine And.intro side ?_); (first | refine hK _ ?_ | refine hR _ _ ?_); clear hK hR K R)
  repeat (first | refine nav ?_ | refine bo ?_)
  refine endQ_data (by simp only [go_sem] <;> exact rfl) (Le.of_eq ?_) rfl
  rfl
end Go.AW
/-
Contracts: the matrix of the edges.
-/
namespace Go.AW
open Go Go.Proofs TyTry Go.IntWalk
set_option linter.unusedSimpArgs false
set_option linter.unusedVariables false
set_option maxRecDepth 10000

/-- An object that came last becomes data: nothing else changes but the slots. -/
theorem frS_last {o : List Ob} {t : Nat → AV} {rows : List (List AV)} (ho : okO o = true) (hd : rows.map (fun r => r.map AV.dat) = rows) :
    frS o.length 1 rows ⟨t, o ++ [.cells 1 rows]⟩ = ⟨fun k => (t k).unref o.length 1 rows, o ++ [.frz 1 rows]⟩ := by
  simp only [frS, hd, app_set, List.map_append, List.map_cons, List.map_nil, Ob.unref, St.mk.injEq, true_and]
  congr 1
  conv => rhs; rw [← List.map_id o]
  refine List.map_congr_left fun x hx => ?_
  unfold okO at ho
  rw [List.all_eq_true] at ho
  exact Ob.unref_ltk (Nat.le_refl _) x (ho x hx)
theorem unref_mix (lo hi : Nat) (L : List Nat) (t t0 : Nat → AV) (id sz : Nat) (rows : List (List AV)) :
    (fun k => (mix lo hi L t t0 k).unref id sz rows) = mix lo hi L (fun k => (t k).unref id sz rows) (fun k => (t0 k).unref id sz rows) := by
  funext k
  simp only [mix]
  split <;> rfl
theorem unref_upd (t : Nat → AV) (j : Nat) (v : AV) (id sz : Nat) (rows : List (List AV)) :
    (fun k => (upd t j v k).unref id sz rows) = upd (fun k => (t k).unref id sz rows) j (v.unref id sz rows) := by
  funext k
  simp only [upd]
  split <;> rfl
/-- Slots, of which only some are known. -/
def tab (l : List (Nat × AV)) : Nat → AV := fun k => match l.find? (fun x => x.1 == k) with | some x => x.2 | none => .any
theorem tab_le {t : Nat → AV} {l : List (Nat × AV)} (h : ∀ x ∈ l, t x.1 = x.2) (k : Nat) : Le (t k) (tab l k) := by
  unfold tab
  cases hf : l.find? (fun x => x.1 == k) with
  | none => exact Le.any _
  | some x =>
    have h1 := List.find?_some hf
    have h2 := List.mem_of_find?_eq_some hf
    simp only [beq_iff_eq] at h1
    rw [← h1, h x h2]
    exact Le.refl _
theorem tab_unref {l : List (Nat × AV)} {id sz : Nat} {rows : List (List AV)} (h : ∀ x ∈ l, x.2.unref id sz rows = x.2) : (fun k => (tab l k).unref id sz rows) = tab l := by
  funext k
  unfold tab
  cases hf : l.find? (fun x => x.1 == k) with
  | none => rfl
  | some x => exact h x (List.mem_of_find?_eq_some hf)
@[go_sem] theorem tab_cons (j : Nat) (v : AV) (l : List (Nat × AV)) (k : Nat) : tab ((j, v) :: l) k = if j = k then v else tab l k := by
  unfold tab
  rw [List.find?_cons]
  by_cases h : j = k
  · simp [h]
  · have : (j == k) = false := by simpa using h
    simp [h, this]
@[go_sem] theorem tab_nil (k : Nat) : tab [] k = .any := rfl
theorem tab_mix {t : Nat → AV} {lo hi : Nat} {L : List Nat} {l l0 : List (Nat × AV)} (h : ∀ x ∈ l, t x.1 = x.2) (h0 : ∀ x ∈ l0, t x.1 = x.2) (k : Nat) : Le (t k) (mix lo hi L (tab l) (tab l0) k) := by
  simp only [mix]
  split
  · exact tab_le h k
  · exact tab_le h0 k
theorem W_forM {P : Program} {n : Nat} {Q : Exit → St → Prop} {c : Code} (lo hi : Nat) (L : List Nat) (I : Nat → (Nat → AV) → List Ob → Prop) (m : Nat) {t1 t0 : Nat → AV} {o0 : List Ob} (h0 : I m t1 o0)
    (round : ∀ m t o, I m t o → W P n c (forQ lo hi L t0 I m Q) ⟨mix lo hi L t t0, o⟩) : W P n (.loop c) Q ⟨mix lo hi L t1 t0, o0⟩ := by
  refine W_while (fun m s => ∃ t, s.t = mix lo hi L t t0 ∧ I m t s.o) m ⟨t1, rfl, h0⟩ ?_
  rintro m ⟨ts, o⟩ ⟨t, ht, hI⟩
  simp only at ht
  subst ht
  refine (round m t o hI).mono ?_
  intro e s h
  cases e with
  | normal =>
    obtain ⟨m', t', h1, h2, h3⟩ := h
    exact ⟨m', h1, t', h2, h3⟩
  | _ => exact h
def mat (l : List (List Bool)) : List (List AV) := l.map fun r => [.sl 1 (bools r)]
theorem mat_len (l : List (List Bool)) : (mat l).length = l.length := by simp [mat]
theorem mat_get {l : List (List Bool)} {i : Nat} {x : List Bool} (h : l[i]? = some x) : (mat l).getD i [] = [.sl 1 (bools x)] := by simp [mat, h]
attribute [go_sem] mat_len
def ownM (l : List (List Bool)) : AV := if l = [] then .nsl else .own 1 (mat l)
theorem mat_app (l : List (List Bool)) (r : List Bool) : mat l ++ [[.sl 1 (bools r)]] = mat (l ++ [r]) := by simp [mat]
def eB (s : StrD) (x y : Nat) : Bool := decide ([(x : Int), (y : Int)] ∈ tupsOf s ⟨#[69]⟩)
def eRow (s : StrD) (n x : Nat) : List Bool := (List.range n).map fun y => eB s x y
def eMat (s : StrD) (n : Nat) : List (List Bool) := (List.range n).map fun x => eRow s n x
def eRowP (s : StrD) (n x j : Nat) : List Bool := (List.range n).map fun y => decide (y < j) && eB s x y
theorem eRowP_zero (s : StrD) (n x : Nat) : eRowP s n x 0 = List.replicate n false := by
  apply List.ext_getElem?
  intro i
  by_cases h : i < n <;> simp [eRowP, h, List.getElem?_replicate]
theorem eRowP_full (s : StrD) (n x : Nat) : eRowP s n x n = eRow s n x := by
  unfold eRowP eRow
  refine List.map_congr_left fun y hy => ?_
  simp [List.mem_range.1 hy]
theorem eRowP_set (s : StrD) (n x j : Nat) (hj : j < n) : (eRowP s n x j).set j (eB s x j) = eRowP s n x (j + 1) := by
  apply List.ext_getElem?
  intro i
  rw [List.getElem?_set]
  by_cases hi : i < n
  · by_cases e : j = i
    · subst e; simp [eRowP, hi]
    · have : (i < j + 1) = (i < j) := by apply propext; omega
      simp [eRowP, hi, e, this]
  · have : j ≠ i := by omega
    simp [eRowP, hi, this]
theorem eRowP_len (s : StrD) (n x j : Nat) : (eRowP s n x j).length = n := by simp [eRowP]
theorem edgesM_spec (s : StrD) (hs : s.Ok) (hf : fitsR symsE s = true) (n : Nat) (hn : s.size = n) (h1 : 1 ≤ n) (h2 : n ≤ 64) :
    ACallsD Try.prog 41 [.agg [.i .i64 s.size, .sl 3 (rels s.rels)]] (.sl 1 (mat (eMat s n))) := by
  refine ACalls_of' (n := 34) (rs := [.tmp 2]) (show Try.prog.funcs[41]? = some Try.f41 by kernel_rfl) rfl rfl rfl (by simp) (by decide +kernel) ?_
  repeat (first | refine nav ?_ | refine bo ?_)
  (refine wr fun K R hK hR => ?_; simp (maxSteps := 10000000) only [go_sem]; (try go_ints); (repeat refine And.intro side ?_); (first | refine hK _ ?_ | refine hR _ _ ?_); clear hK hR K R)
  repeat (first | refine nav ?_ | refine bo ?_)
  (refine wr fun K R hK hR => ?_; simp (maxSteps := 10000000) only [go_sem]; (try go_ints); (repeat refine And.intro side ?_); (first | refine hK _ ?_ | refine hR _ _ ?_); clear hK hR K R)
  repeat (first | refine nav ?_ | refine bo ?_)
  (refine wr fun K R hK hR => ?_; simp (maxSteps := 10000000) only [go_sem]; (try go_ints); (repeat refine And.intro side ?_); (first | refine hK _ ?_ | refine hR _ _ ?_); clear hK hR K R)
  repeat (first | refine nav ?_ | refine bo ?_)
  refine W_weak (s' := ⟨mix 7 34 [3, 4, 5, 6] (tab [(3, .own 1 []), (4, .i .i64 0)]) (tab [(1, .ptr 0 0 0)]), [.cells 2 [[.i .i64 s.size, .sl 3 (rels s.rels)]]]⟩) (tab_mix (fun x hx => ?_) (fun x hx => ?_)) rfl ?_
  · simp only [List.mem_cons, List.not_mem_nil, or_false] at hx
    rcases hx with rfl | rfl <;> rfl
  · simp only [List.mem_cons, List.not_mem_nil, or_false] at hx
    subst hx; rfl
  refine W_forM 7 34 [3, 4, 5, 6] (fun m t o => ∃ x : Nat, okO o = true ∧ o[0]? = some (.cells 2 [[.i .i64 s.size, .sl 3 (rels s.rels)]]) ∧ t 3 = .own 1 (mat ((List.range x).map (eRow s n))) ∧ t 4 = .i .i64 x ∧ m = n - x ∧ x ≤ n) n
    ⟨0, rfl, rfl, rfl, rfl, by omega, Nat.zero_le _⟩ ?_
  rintro m t o ⟨x, hok, o0, h3, h4, rfl, hx⟩
  have hol : 0 < o.length := (List.getElem?_eq_some_iff.1 o0).1
  repeat (first | refine nav ?_ | refine bo ?_)
  (refine wr fun K R hK hR => ?_; simp (maxSteps := 10000000) only [go_sem, h4, o0, hn]; (try go_ints); (try simp only [go_sem, h4, o0, hn]); (repeat refine And.intro side ?_); (first | refine hK _ ?_ | refine hR _ _ ?_); clear hK hR K R)
  repeat (first | refine nav ?_ | refine bo ?_)
  refine W_cond (by simp only [go_sem] <;> exact rfl) (fun hb => ?_) (fun hb => ?_)
  · simp at hb
    have o0' := fun l => app_get l o0
    repeat (first | refine nav ?_ | refine bo ?_)
    (refine wr fun K R hK hR => ?_; simp (maxSteps := 10000000) only [go_sem, o0, hn]; (try go_ints); (try simp only [go_sem, o0, hn]); (repeat refine And.intro side ?_); (first | refine hK _ ?_ | refine hR _ _ ?_); clear hK hR K R)
    repeat (first | refine nav ?_ | refine bo ?_)
    (refine wr fun K R hK hR => ?_; simp (maxSteps := 10000000) only [go_sem]; (try go_ints); (repeat refine And.intro side ?_); (first | refine hK _ ?_ | refine hR _ _ ?_); clear hK hR K R)
    repeat (first | refine nav ?_ | refine bo ?_)
    refine W_weak (s' := ⟨tab [(1, .ptr 0 0 0), (3, .own 1 (mat ((List.range x).map (eRow s n)))), (4, .i .i64 x), (5, .ref o.length 0 n), (6, .i .i64 0)], o ++ [.cells 1 (bools (eRowP s n x 0))]⟩) (tab_le fun y hy => ?_) ?_ ?_
    · simp only [List.mem_cons, List.not_mem_nil, or_false] at hy
      rcases hy with rfl | rfl | rfl | rfl | rfl
      · rfl
      · exact h3
      · exact h4
      · rfl
      · rfl
    · simp only [eRowP_zero, bools, List.map_replicate]
    refine W_for 16 34 [6] (fun m t o2 => ∃ j : Nat, o2 = o ++ [.cells 1 (bools (eRowP s n x j))] ∧ t 6 = .i .i64 j ∧ m = n - j ∧ j ≤ n) n ⟨0, rfl, rfl, by omega, Nat.zero_le _⟩ ?_
    rintro m t2 o2 ⟨j, rfl, h6, rfl, hj⟩
    repeat (first | refine nav ?_ | refine bo ?_)
    (refine wr fun K R hK hR => ?_; simp (maxSteps := 10000000) only [go_sem, h6, o0', hn]; (try go_ints); (try simp only [go_sem, h6, o0', hn]); (repeat refine And.intro side ?_); (first | refine hK _ ?_ | refine hR _ _ ?_); clear hK hR K R)
    repeat (first | refine nav ?_ | refine bo ?_)
    refine W_cond (by simp only [go_sem] <;> exact rfl) (fun hb => ?_) (fun hb => ?_)
    · simp at hb
      repeat (first | refine nav ?_ | refine bo ?_)
      (refine wr fun K R hK hR => ?_; simp (maxSteps := 10000000) only [go_sem, h6, o0']; (try go_ints); (try simp only [go_sem, h6, o0']); (repeat refine And.intro side ?_); (first | refine hK _ ?_ | refine hR _ _ ?_); clear hK hR K R)
      refine RL_callF (edge_spec s hs hf x j) rfl rfl rfl (by first | (simp only [go_sem] <;> first | exact LeA.refl _ | exact Le.refl _) | exact LeA.refl _) rfl rfl ?_
      obtain ⟨v, hv⟩ : ∃ v, (eRowP s n x j)[j]? = some v := ⟨_, List.getElem?_eq_getElem (by rw [eRowP_len]; omega)⟩
      (refine rr fun K R hK hR => ?_; simp (maxSteps := 10000000) only [go_sem, h6, bools_get hv, eRowP_len, bools_set]; (try go_ints); (try simp only [go_sem, h6, bools_get hv, eRowP_len, bools_set]); (repeat refine And.intro side ?_); (first | refine hK _ ?_ | refine hR _ _ ?_); clear hK hR K R)
      have hset : (eRowP s n x j).set j (decide ([(x : Int), (j : Int)] ∈ tupsOf s ⟨#[69]⟩)) = eRowP s n x (j + 1) := eRowP_set s n x j hb
      rw [hset]
      repeat (first | refine nav ?_ | refine bo ?_)
      (refine wr fun K R hK hR => ?_; simp (maxSteps := 10000000) only [go_sem, h6]; (try go_ints); (try simp only [go_sem, h6]); (repeat refine And.intro side ?_); (first | refine hK _ ?_ | refine hR _ _ ?_); clear hK hR K R)
      refine forQ_normal (n - (j + 1)) (by omega) ⟨j + 1, rfl, ?_⟩
      ((try simp only [go_sem]); (repeat' refine And.intro ?_ ?_) <;> (try first | with_reducible rfl | omega | with_reducible assumption | (simp; done)))
    · simp at hb
      have : j = n := by omega
      subst this
      rw [eRowP_full]
      have hrl : (bools (eRow s j x)).length = j := by simp [bools, eRow]
      have htk : List.take j (bools (eRow s j x)) = bools (eRow s j x) := List.take_of_length_le (by omega)
      refine W_freeze o.length (sz := 1) (rows := bools (eRow s j x)) (by simp) (by simp [bools, AV.dat, AV.ltk, AV.plain]) ?_
      rw [frS_last hok (by simp [bools, Function.comp_def, AV.dat])]
      refine W_weak (s' := ⟨mix 7 34 [3, 4, 5, 6] (tab [(3, .own 1 (mat ((List.range x).map (eRow s j)))), (4, .i .i64 x), (5, .sl 1 (bools (eRow s j x)))]) (tab [(1, .ptr 0 0 0)]), o ++ [.frz 1 (bools (eRow s j x))]⟩) (tab_mix (fun y hy => ?_) (fun y hy => ?_)) rfl ?_
      · simp only [List.mem_cons, List.not_mem_nil, or_false] at hy
        rcases hy with rfl | rfl | rfl
        · rfl
        · rfl
        · simp [mix, inL, tab, upd, AV.unref, hrl, htk]
      · simp only [List.mem_cons, List.not_mem_nil, or_false] at hy
        subst hy; rfl
      repeat (first | refine nav ?_ | refine bo ?_)
      (refine W_reg [29] fun K R hK hR => ?_; simp (maxSteps := 10000000) only [go_sem, mat_len, List.length_map, List.length_range, mat_app]; (try go_ints); (try simp only [go_sem, mat_len, List.length_map, List.length_range, mat_app]); (repeat refine And.intro side ?_); (first | refine hK _ ?_ | refine hR _ _ ?_); clear hK hR K R)
      repeat (first | refine nav ?_ | refine bo ?_)
      (refine wr fun K R hK hR => ?_; simp (maxSteps := 10000000) only [go_sem]; (try go_ints); (repeat refine And.intro side ?_); (first | refine hK _ ?_ | refine hR _ _ ?_); clear hK hR K R)
      refine forQ_normal (j - (x + 1)) (by omega) ⟨x + 1, okO_app hok rfl, o0' _, ?_⟩
      ((try simp only [go_sem]); (repeat' refine And.intro ?_ ?_) <;> (try first | with_reducible rfl | omega | with_reducible assumption | (simp; done)))
  · simp at hb
    have : x = n := by omega
    subst this
    repeat (first | refine nav ?_ | refine bo ?_)
    (refine wr fun K R hK hR => ?_; simp (maxSteps := 10000000) only [go_sem, h3]; (try go_ints); (try simp only [go_sem, h3]); (repeat refine And.intro side ?_); (first | refine hK _ ?_ | refine hR _ _ ?_); clear hK hR K R)
    repeat (first | refine nav ?_ | refine bo ?_)
    refine endQ_data (by simp only [go_sem] <;> exact rfl) (Le.of_eq ?_) rfl
    rfl
end Go.AW
/-
Contracts: lists of choices, the reference's game.
-/
namespace Go.AW
open Go Go.Proofs TyTry Go.IntWalk
set_option linter.unusedSimpArgs false
set_option linter.unusedVariables false
set_option maxRecDepth 10000

theorem listed_spec (s : StrD) (l : List Int) (hl : l.length ≤ 1099511627776) :
    ACallsD Try.prog 30 [.agg [.i .i64 s.size, .sl 3 (rels s.rels)], .sl 1 (ints l)] (.b (!badOrd s l)) := by
  have hbo : badOrd s l = (!((l.length : Int) == s.size) || l.any fun x => decide (x < -1) || decide (x ≥ s.size)) := rfl
  refine ACalls_of' (n := 31) (rs := [.tmp 4]) (show Try.prog.funcs[30]? = some Try.f30 by kernel_rfl) rfl rfl rfl (by simp) (by decide +kernel) ?_
  repeat (first | refine nav ?_ | refine bo ?_)
  (refine wr fun K R hK hR => ?_; simp (maxSteps := 10000000) only [go_sem]; (try go_ints); (repeat refine And.intro side ?_); (first | refine hK _ ?_ | refine hR _ _ ?_); clear hK hR K R)
  repeat (first | refine nav ?_ | refine bo ?_)
  (refine wr fun K R hK hR => ?_; simp (maxSteps := 10000000) only [go_sem]; (try go_ints); (repeat refine And.intro side ?_); (first | refine hK _ ?_ | refine hR _ _ ?_); clear hK hR K R)
  repeat (first | refine nav ?_ | refine bo ?_)
  refine W_cond (by simp only [go_sem] <;> exact rfl) (fun hb => ?_) (fun hb => ?_)
  · have hb' : ((l.length : Int) == s.size) = false := by simpa using hb
    repeat (first | refine nav ?_ | refine bo ?_)
    (refine wr fun K R hK hR => ?_; simp (maxSteps := 10000000) only [go_sem]; (try go_ints); (repeat refine And.intro side ?_); (first | refine hK _ ?_ | refine hR _ _ ?_); clear hK hR K R)
    repeat (first | refine nav ?_ | refine bo ?_)
    refine endQ_data (by simp only [go_sem] <;> exact rfl) (Le.of_eq ?_) rfl
    rw [hbo, hb']; rfl
  · have hb' : ((l.length : Int) == s.size) = true := by simpa using hb
    rw [hb', Bool.not_true, Bool.false_or] at hbo
    repeat (first | refine nav ?_ | refine bo ?_)
    (refine wr fun K R hK hR => ?_; simp (maxSteps := 10000000) only [go_sem]; (try go_ints); (repeat refine And.intro side ?_); (first | refine hK _ ?_ | refine hR _ _ ?_); clear hK hR K R)
    repeat (first | refine nav ?_ | refine bo ?_)
    refine W_for 11 31 [5] (fun m t o => ∃ k : Nat, [Ob.cells 2 [[.i .i64 s.size, .sl 3 (rels s.rels)]]] = o ∧ t 5 = .i .i64 k ∧ m = l.length - k ∧ k ≤ l.length ∧ badOrd s l = (l.drop k).any fun x => decide (x < -1) || decide (x ≥ s.size)) l.length ⟨0, rfl, by simp only [go_sem] <;> rfl, by omega, Nat.zero_le _, hbo⟩ ?_
    rintro m t o ⟨k, rfl, h5, rfl, hk, hd⟩
    repeat (first | refine nav ?_ | refine bo ?_)
    (refine wr fun K R hK hR => ?_; simp (maxSteps := 10000000) only [go_sem, h5]; (try go_ints); (try simp only [go_sem, h5]); (repeat refine And.intro side ?_); (first | refine hK _ ?_ | refine hR _ _ ?_); clear hK hR K R)
    repeat (first | refine nav ?_ | refine bo ?_)
    refine W_cond (by simp only [go_sem] <;> exact rfl) (fun hb => ?_) (fun hb => ?_)
    · simp at hb
      obtain ⟨v, hv⟩ : ∃ v, l[k]? = some v := ⟨_, List.getElem?_eq_getElem hb⟩
      rw [drop_cons hv, List.any_cons] at hd
      repeat (first | refine nav ?_ | refine bo ?_)
      (refine W_dreg (by decide +kernel) [] [0, 1, 2, 3, 4, 5, 6, 7, 8, 9, 10, 11, 12, 13] [[], [], [1, 0], [0, 1, 2], [2, 1, 0, 3], [3, 0, 1, 2, 4], [4, 2, 1, 0, 3, 5], [4, 2, 1, 0, 3, 5], [7, 5, 3, 0, 1, 2, 4, 6], [6, 4, 2, 1, 0, 3, 5, 7, 8], [4, 2, 1, 0, 3, 5], [5, 3, 0, 1, 2, 4, 10], [10, 11, 8, 7, 5, 3, 0, 1, 2, 4, 6, 9], [9, 6, 7, 8, 11, 10, 12, 4, 2, 1, 0, 3, 5]] (by decide +kernel) rfl fun K R hK hR => ?_; simp only [List.filterMap_cons, List.filterMap_nil, List.getElem?_cons_zero, List.getElem?_cons_succ, List.cons_append, List.nil_append]; simp (maxSteps := 10000000) only [go_sem, h5, ints_get hv]; (try go_ints); (try simp only [go_sem, h5, ints_get hv]); (repeat refine And.intro side ?_); (first | refine hK _ ?_ | refine hR _ _ ?_); clear hK hR K R)
      repeat (first | refine nav ?_ | refine bo ?_)
      refine W_cond (by simp only [go_sem] <;> exact rfl) (fun hc => ?_) (fun hc => ?_)
      · have hc : (decide (v < -1) || decide (v ≥ s.size)) = true := hc
        rw [hd, hc]
        repeat (first | refine nav ?_ | refine bo ?_)
        (refine wr fun K R hK hR => ?_; simp (maxSteps := 10000000) only [go_sem]; (try go_ints); (repeat refine And.intro side ?_); (first | refine hK _ ?_ | refine hR _ _ ?_); clear hK hR K R)
        repeat (first | refine nav ?_ | refine bo ?_)
        refine endQ_data (by simp only [go_sem] <;> exact rfl) (Le.of_eq ?_) rfl
        rfl
      · have hc : (decide (v < -1) || decide (v ≥ s.size)) = false := hc
        rw [hc, Bool.false_or] at hd
        repeat (first | refine nav ?_ | refine bo ?_)
        (refine wr fun K R hK hR => ?_; simp (maxSteps := 10000000) only [go_sem, h5]; (try go_ints); (try simp only [go_sem, h5]); (repeat refine And.intro side ?_); (first | refine hK _ ?_ | refine hR _ _ ?_); clear hK hR K R)
        refine forQ_normal (l.length - (k + 1)) (by omega) ⟨k + 1, rfl, ?_⟩
        ((try simp only [go_sem]); (repeat' refine And.intro ?_ ?_) <;> (try first | with_reducible rfl | omega | with_reducible assumption | (simp; done)))
    · simp at hb
      have : k = l.length := by omega
      subst this
      rw [hd, List.drop_length]
      repeat (first | refine nav ?_ | refine bo ?_)
      (refine wr fun K R hK hR => ?_; simp (maxSteps := 10000000) only [go_sem]; (try go_ints); (repeat refine And.intro side ?_); (first | refine hK _ ?_ | refine hR _ _ ?_); clear hK hR K R)
      repeat (first | refine nav ?_ | refine bo ?_)
      refine endQ_data (by simp only [go_sem] <;> exact rfl) (Le.of_eq ?_) rfl
      rfl
def aB (s : StrD) (x : Nat) : Bool := decide ([(x : Int)] ∈ tupsOf s ⟨#[65]⟩)
def inA (s : StrD) (n : Nat) : List Bool := (List.range n).map (aB s)
def inAP (s : StrD) (n j : Nat) : List Bool := (List.range n).map fun y => decide (y < j) && aB s y
theorem inAP_zero (s : StrD) (n : Nat) : inAP s n 0 = List.replicate n false := by
  apply List.ext_getElem?
  intro i
  by_cases h : i < n <;> simp [inAP, h, List.getElem?_replicate]
theorem inAP_full (s : StrD) (n : Nat) : inAP s n n = inA s n := by
  unfold inAP inA
  refine List.map_congr_left fun y hy => ?_
  simp [List.mem_range.1 hy]
theorem inAP_set (s : StrD) (n j : Nat) (hj : j < n) : (inAP s n j).set j (aB s j) = inAP s n (j + 1) := by
  apply List.ext_getElem?
  intro i
  rw [List.getElem?_set]
  by_cases hi : i < n
  · by_cases e : j = i
    · subst e; simp [inAP, hi]
    · have : (i < j + 1) = (i < j) := by apply propext; omega
      simp [inAP, hi, e, this]
  · have : j ≠ i := by omega
    simp [inAP, hi, this]
theorem inAP_len (s : StrD) (n j : Nat) : (inAP s n j).length = n := by simp [inAP]
theorem inA_spec (s : StrD) (hs : s.Ok) (hf : fitsR symsA s = true) (n : Nat) (hn : s.size = n) (h1 : 1 ≤ n) (h2 : n ≤ 64) :
    ACallsD Try.prog 56 [.agg [.i .i64 s.size, .sl 3 (rels s.rels)]] (.sl 1 (bools (inA s n))) := by
  obtain ⟨jq, q, e1, e2, e3, e4, e5⟩ := fitsR_one hf
  simp only at e1 e5
  have hjl := (List.getElem?_eq_some_iff.1 e2).1
  have hq := hs.rel q (List.mem_of_getElem? e2)
  have hF := find_spec s hs ⟨#[65]⟩
  rw [e1] at hF
  refine ACalls_of' (n := 28) (rs := [.tmp 2]) (show Try.prog.funcs[56]? = some Try.f56 by kernel_rfl) rfl rfl rfl (by simp) (by decide +kernel) ?_
  repeat (first | refine nav ?_ | refine bo ?_)
  (refine wr fun K R hK hR => ?_; simp (maxSteps := 10000000) only [go_sem]; (try go_ints); (repeat refine And.intro side ?_); (first | refine hK _ ?_ | refine hR _ _ ?_); clear hK hR K R)
  repeat (first | refine nav ?_ | refine bo ?_)
  (refine wr fun K R hK hR => ?_; simp (maxSteps := 10000000) only [go_sem, hn]; (try go_ints); (try simp only [go_sem, hn]); (repeat refine And.intro side ?_); (first | refine hK _ ?_ | refine hR _ _ ?_); clear hK hR K R)
  repeat (first | refine nav ?_ | refine bo ?_)
  (refine wr fun K R hK hR => ?_; simp (maxSteps := 10000000) only [go_sem]; (try go_ints); (repeat refine And.intro side ?_); (first | refine hK _ ?_ | refine hR _ _ ?_); clear hK hR K R)
  repeat (first | refine nav ?_ | refine bo ?_)
  have hi0 : List.replicate n [AV.b false] = bools (inAP s n 0) := by rw [inAP_zero]; simp [bools]
  simp only [hi0]
  refine W_for 8 27 [4] (fun m t o => ∃ k : Nat, [Ob.cells 2 [[.i .i64 n, .sl 3 (rels s.rels)]], .cells 1 (bools (inAP s n k))] = o ∧ t 4 = .i .i64 k ∧ m = n - k ∧ k ≤ n) n ⟨0, rfl, by simp only [go_sem] <;> rfl, by omega, Nat.zero_le _⟩ ?_
  rintro m t o ⟨k, rfl, h4, rfl, hk⟩
  repeat (first | refine nav ?_ | refine bo ?_)
  (refine wr fun K R hK hR => ?_; simp (maxSteps := 10000000) only [go_sem, h4]; (try go_ints); (try simp only [go_sem, h4]); (repeat refine And.intro side ?_); (first | refine hK _ ?_ | refine hR _ _ ?_); clear hK hR K R)
  repeat (first | refine nav ?_ | refine bo ?_)
  refine W_cond (by simp only [go_sem] <;> exact rfl) (fun hb => ?_) (fun hb => ?_)
  · simp at hb
    obtain ⟨v, hv⟩ : ∃ v, (inAP s n k)[k]? = some v := ⟨_, List.getElem?_eq_getElem (by rw [inAP_len]; omega)⟩
    repeat (first | refine nav ?_ | refine bo ?_)
    (refine W_dreg (by decide +kernel) [] [0, 1, 2, 3, 4, 5, 6, 7, 8, 9, 10, 11, 12, 13] [[], [], [], [2], [], [4], [4, 5, 2, 3], [3, 2, 5, 4, 6], [6, 4, 5, 2, 3, 7], [], [9], [9, 10, 7, 3, 2, 5, 4, 6, 8], [11, 10, 9, 8, 7, 6, 5, 4, 3, 2, 1, 0], [0, 1, 2, 3, 4, 5, 6, 7, 8, 9, 10, 11, 12]] (by decide +kernel) rfl fun K R hK hR => ?_; simp only [List.filterMap_cons, List.filterMap_nil, List.getElem?_cons_zero, List.getElem?_cons_succ, List.cons_append, List.nil_append]; simp (maxSteps := 10000000) only [go_sem, h4]; (try go_ints); (try simp only [go_sem, h4]); (repeat refine And.intro side ?_); (first | refine hK _ ?_ | refine hR _ _ ?_); clear hK hR K R)
    refine D_callD (hF) rfl rfl rfl (by first | (simp only [go_sem, hn] <;> first | exact LeA.refl _ | exact Le.refl _) | exact LeA.refl _) rfl rfl rfl rfl ?_
    (refine D_reg fun K R hK hR => ?_; simp (maxSteps := 10000000) only [go_sem, h4, rels_get e2]; (try go_ints); (try simp only [go_sem, h4, rels_get e2]); (repeat refine And.intro side ?_); (first | refine hK _ ?_ | refine hR _ _ ?_); clear hK hR K R)
    refine D_callD (among_spec q.tuples hq.len hq.tup [k]) rfl rfl rfl (by first | (simp only [go_sem] <;> first | exact LeA.refl _ | exact Le.refl _) | exact LeA.refl _) rfl rfl rfl rfl ?_
    have hset : (inAP s n k).set k (decide ([(k : Int)] ∈ q.tuples)) = inAP s n (k + 1) := by
      rw [← e5]; exact inAP_set s n k hb
    (refine D_reg fun K R hK hR => ?_; simp (maxSteps := 10000000) only [go_sem, h4, bools_get hv, inAP_len, bools_set, hset]; (try go_ints); (try simp only [go_sem, h4, bools_get hv, inAP_len, bools_set, hset]); (repeat refine And.intro side ?_); (first | refine hK _ ?_ | refine hR _ _ ?_); clear hK hR K R)
    repeat (first | refine nav ?_ | refine bo ?_)
    (refine wr fun K R hK hR => ?_; simp (maxSteps := 10000000) only [go_sem, h4]; (try go_ints); (try simp only [go_sem, h4]); (repeat refine And.intro side ?_); (first | refine hK _ ?_ | refine hR _ _ ?_); clear hK hR K R)
    refine forQ_normal (n - (k + 1)) (by omega) ⟨k + 1, rfl, ?_⟩
    ((try simp only [go_sem]); (repeat' refine And.intro ?_ ?_) <;> (try first | with_reducible rfl | omega | with_reducible assumption | (simp; done)))
  · simp at hb
    have : k = n := by omega
    subst this
    rw [inAP_full]
    repeat (first | refine nav ?_ | refine bo ?_)
    (refine wr fun K R hK hR => ?_; simp (maxSteps := 10000000) only [go_sem]; (try go_ints); (repeat refine And.intro side ?_); (first | refine hK _ ?_ | refine hR _ _ ?_); clear hK hR K R)
    refine seqQ_normal ?_
    refine W_freeze 1 (sz := 1) (rows := bools (inA s k)) (by rfl) (by simp [bools, AV.dat, AV.ltk, AV.plain]) ?_
    have hlen : (bools (inA s k)).length = k := by simp [bools, inA]
    have htk : List.take k (bools (inA s k)) = bools (inA s k) := List.take_of_length_le (by omega)
    have hd0 : (bools (inA s k)).map (fun r => r.map AV.dat) = bools (inA s k) := by simp [bools, Function.comp_def, AV.dat]
    repeat (first | refine nav ?_ | refine bo ?_)
    refine endQ_data (by simp [resAV, resL, res1, frS, AV.unref, upd, mix_at, inL, hlen, htk, hd0, ung, AV.dat] <;> exact rfl) (Le.of_eq ?_) rfl
    rfl
end Go.AW
