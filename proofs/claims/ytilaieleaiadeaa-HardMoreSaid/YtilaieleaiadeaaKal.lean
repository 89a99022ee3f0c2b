/-
The law Awake: it returns true.
-/
import Derived.Test.YtilaieleaiadeaaKah
import Derived.Test.YtilaieleaiadeaaKai
import Derived.Test.YtilaieleaiadeaaKaj
import Derived.Test.YtilaieleaiadeaaKak
import Derived.SizedLaws
import Derived.Test.YtilaieleaiadeaaKag
import Derived.Test.YtilaieleaiadeaaKaf
import Derived.Sort.Row
import Derived.Sort.Grow
import Derived.Test.YtilaieleaiadeaaKae
namespace Go.AW
open Go Go.Proofs TyTry
set_option linter.unusedSimpArgs false
set_option maxRecDepth 100000
def tabAw : List (FuncId × List AV × AV) := [(11, [fourA], .tup [.sl 1 (ints [0, 3]), .i .i64 0]), (12, [fourA, .i .i64 2], .tup [.i .i64 3, .i .i64 0]),
 (22, [.agg [.i .i64 1, .sl 1 [[.sl 1 [[.i .i64 1]]], [.sl 1 [[.i .i64 (-1)]]]]]], .tup [.sl 1 [], .i .i64 6]), (20, [.agg [.i .i64 2, .sl 1 [[.sl 1 [[.i .i64 1], [.i .i64 2]]]]]], .tup [.i .i64 3, .i .i64 0])]
def envTab (f : FuncId) (ac : List AV) (oc : List Ob) : List (FuncId × List AV × AV) → Option (AV × List Ob)
 | [] => none
 | (g, bc, r) :: l => if f == g && eqAL ac bc then some (r, oc) else envTab f ac oc l
theorem envTab_mem {f : FuncId} {ac : List AV} {oc : List Ob} {x : AV × List Ob} : ∀ {l : List (FuncId × List AV × AV)}, envTab f ac oc l = some x → x.2 = oc ∧ (f, ac, x.1) ∈ l
 | [], h => by cases h
 | (g, bc, r) :: l, h => by
  rw [envTab] at h
  by_cases hc : (f == g && eqAL ac bc) = true
  ·rw [if_pos hc] at h
   simp only [Bool.and_eq_true, beq_iff_eq] at hc
   obtain ⟨rfl, h2⟩ := hc
   obtain rfl := eqAL_eq _ _ h2
   obtain rfl := Option.some.inj h
   exact ⟨rfl, by simp⟩
  ·rw [if_neg hc] at h
   obtain ⟨a, b⟩ := envTab_mem h
   exact ⟨a, List.mem_cons_of_mem _ b⟩
theorem tabAw_ok : ∀ x ∈ tabAw, ACallsD Try.prog x.1 x.2.1 x.2.2 ∧ x.2.1.all (AV.ltk 0) = true ∧ x.2.2.ltk 0 = true := by
 intro x hx
 simp only [tabAw, List.mem_cons, List.not_mem_nil, or_false] at hx
 rcases hx with rfl | rfl | rfl | rfl
 ·exact ⟨walk_run, by decide +kernel, by decide +kernel⟩
 ·exact ⟨walks_run, by decide +kernel, by decide +kernel⟩
 ·exact ⟨solve_run, by decide +kernel, by decide +kernel⟩
 ·exact ⟨models_run, by decide +kernel, by decide +kernel⟩
theorem awake_spec : ACallsD Try.prog 9 [] (.b true) :=
 ((x_sound (fun f ac oc => envTab f ac oc tabAw) flAw (by decide +kernel) (fun f ac oc r o' h => by
  obtain ⟨h1, h2⟩ := envTab_mem h
  simp only at h1 h2
  subst h1
  obtain ⟨a, b, c⟩ := tabAw_ok _ h2
  exact ⟨a.frame b c _, Nat.le_refl _⟩) 500).2.2.2.1 9 [] [] (.b true) [] (by kernel_rfl)).1
end Go.AW
namespace Go.AW
open Go Go.Proofs TyTry
set_option linter.unusedSimpArgs false
set_option linter.unusedVariables false
set_option maxRecDepth 100000
def fldsOf (P : Program) (t : TypeId) : Array Field := match P.underlying t with | some (.struct fs) => fs | _ => #[]
theorem undInt : Try.prog.underlying 3 = some (.int .i64) := by kernel_rfl
theorem undStr : Try.prog.underlying 9 = some .string := by kernel_rfl
theorem undInts : Try.prog.underlying 29 = some (.slice 3) := by kernel_rfl
theorem undTups : Try.prog.underlying 40 = some (.slice 29) := by kernel_rfl
theorem undRels : Try.prog.underlying 22 = some (.slice 64) := by kernel_rfl
theorem undRel : Try.prog.underlying 64 = some (.struct (fldsOf Try.prog 64)) := by kernel_rfl
theorem undStru : Try.prog.underlying 24 = some (.struct (fldsOf Try.prog 24)) := by kernel_rfl
theorem fldsRel : (fldsOf Try.prog 64).toList.map (·.type) = [9, 3, 40] := by kernel_rfl
theorem fldsStru : (fldsOf Try.prog 24).toList.map (·.type) = [3, 22] := by kernel_rfl
section
variable {H : Type} {w : World} {enc : TypeId × Value → H} {base : Nat} {spare : Nat → Bool} {held : Bool}
def Lite (t : TypeId) (d : DataW H) : Prop := ∀ n ∈ d.weights Try.prog t, n ≤ reachBytes
theorem weightsAll_in {P : Program} {e : TypeId} : ∀ {l : List (DataW H)} {d : DataW H}, d ∈ l → ∀ n ∈ d.weights P e, n ∈ DataW.weightsAll P e l
 | x :: l, d, h, n, hn => by
  simp only [DataW.weightsAll, List.mem_append]
  rcases List.mem_cons.1 h with rfl | h
  ·exact .inl hn
  ·exact .inr (weightsAll_in h n hn)
theorem read_int {k : Nat} {cs : List Value} {d : DataW H} {ps : List MemPlace} (h : DataW.trod enc Try.prog w base spare held k 3 cs = some (d, ps)) : ∃ n, cellsAV Try.prog k 3 d = [.i .i64 n] := by
 cases k with
 | zero => simp [DataW.trod] at h
 | succ k =>
  unfold DataW.trod at h
  rw [undInt] at h
  rcases cs with _ | ⟨v, _ | ⟨v2, r⟩⟩
  ·simp at h
  ·cases v <;> simp at h
   obtain ⟨⟨rfl, _⟩, rfl, _⟩ := h
   exact ⟨_, by simp only [cellsAV, undInt]; exact rfl⟩
  ·simp at h
theorem read_str {k : Nat} {cs : List Value} {d : DataW H} {ps : List MemPlace} (h : DataW.trod enc Try.prog w base spare held k 9 cs = some (d, ps)) (hw : Lite 9 d) : ∃ x : ByteArray, cellsAV Try.prog k 9 d = [.s x] ∧ x.size ≤ reachBytes := by
 cases k with
 | zero => simp [DataW.trod] at h
 | succ k =>
  unfold DataW.trod at h
  rw [undStr] at h
  rcases cs with _ | ⟨v, _ | ⟨v2, r⟩⟩
  ·simp at h
  ·cases v with
   | string x =>
    simp only at h
    split at h
    ·simp only [Option.some.injEq, Prod.mk.injEq] at h
     obtain ⟨rfl, _⟩ := h
     refine ⟨x, by simp only [cellsAV, undStr], ?_⟩
     have := hw x.data.toList.length (by simp [DataW.weights])
     have e : x.size = x.data.toList.length := by rw [Array.length_toList]; rfl
     omega
    ·cases h
   | _ => simp at h
  ·simp at h
theorem read_sl {k : Nat} {t e : TypeId} {cs : List Value} {d : DataW H} {ps : List MemPlace} (hu : Try.prog.underlying t = some (.slice e)) (hb : 0 < Try.prog.bytesOf e)
  (h : DataW.trod enc Try.prog w base spare held (k + 1) t cs = some (d, ps)) (hw : Lite t d) :
  ∃ elems : List (DataW H), cellsAV Try.prog (k + 1) t d = [.sl (szOf Try.prog e) (elems.map fun x => cellsAV Try.prog k e x)] ∧ elems.length ≤ reachBytes ∧
   ∀ x ∈ elems, (∃ cells q, DataW.trod enc Try.prog w base spare held k e cells = some (x, q)) ∧ Lite e x := by
 obtain ⟨elems, h1, h2, h3⟩ := read_slice hu h
 rcases h2 with ⟨rfl, rfl⟩ | ⟨sp, rfl⟩
 ·exact ⟨[], h1, Nat.zero_le _, fun x hx => by simp at hx⟩
 ·refine ⟨elems, h1, ?_, fun x hx => ⟨h3 x hx, fun n hn => hw n ?_⟩⟩
  ·have := hw ((elems.length + sp.length) * Try.prog.bytesOf e) (by simp [DataW.weights, hu])
   have h4 : elems.length ≤ (elems.length + sp.length) * Try.prog.bytesOf e :=
    Nat.le_trans (Nat.le_add_right _ _) (Nat.le_mul_of_pos_right _ hb)
   omega
  ·simp only [DataW.weights, hu, List.mem_cons, List.mem_append]
   exact .inr (.inl (weightsAll_in hx n hn))
theorem read_map {α β γ : Type} {F : α → γ} {G : β → γ} {Pr : β → Prop} : ∀ {l : List α}, (∀ x ∈ l, ∃ y, F x = G y ∧ Pr y) → ∃ r : List β, l.map F = r.map G ∧ r.length = l.length ∧ ∀ y ∈ r, Pr y
 | [], _ => ⟨[], rfl, rfl, fun y hy => by simp at hy⟩
 | x :: l, h => by
  obtain ⟨r, h1, h2, h3⟩ := read_map (l := l) fun x hx => h x (by simp [hx])
  obtain ⟨y, e1, e2⟩ := h x (by simp)
  refine ⟨y :: r, by simp [h1, e1], by simp [h2], fun z hz => ?_⟩
  rcases List.mem_cons.1 hz with rfl | hz
  ·exact e2
  ·exact h3 z hz
theorem read_ints {k : Nat} {cs : List Value} {d : DataW H} {ps : List MemPlace} (h : DataW.trod enc Try.prog w base spare held k 29 cs = some (d, ps)) (hw : Lite 29 d) : ∃ l : List Int, cellsAV Try.prog k 29 d = [.sl 1 (ints l)] ∧ l.length ≤ reachBytes := by
 cases k with
 | zero => simp [DataW.trod] at h
 | succ k =>
  obtain ⟨elems, h1, h2, h3⟩ := read_sl undInts (by decide +kernel) h hw
  obtain ⟨r, e1, e2, _⟩ := read_map (F := fun x => cellsAV Try.prog k 3 x) (G := fun n : Int => [AV.i .i64 n]) (Pr := fun _ => True) (l := elems) fun x hx => by
   obtain ⟨⟨cells, q, hq⟩, _⟩ := h3 x hx
   obtain ⟨n, hn⟩ := read_int hq
   exact ⟨n, hn, trivial⟩
  exact ⟨r, by rw [h1, e1, sz3]; rfl, by omega⟩
theorem read_tups {k : Nat} {cs : List Value} {d : DataW H} {ps : List MemPlace} (h : DataW.trod enc Try.prog w base spare held k 40 cs = some (d, ps)) (hw : Lite 40 d) :
  ∃ l : List (List Int), cellsAV Try.prog k 40 d = [.sl 1 (tups l)] ∧ l.length ≤ reachBytes ∧ ∀ t ∈ l, t.length ≤ reachBytes := by
 cases k with
 | zero => simp [DataW.trod] at h
 | succ k =>
  obtain ⟨elems, h1, h2, h3⟩ := read_sl undTups (by decide +kernel) h hw
  obtain ⟨r, e1, e2, e3⟩ := read_map (F := fun x => cellsAV Try.prog k 29 x) (G := fun l : List Int => [AV.sl 1 (ints l)]) (Pr := fun l => l.length ≤ reachBytes) (l := elems) fun x hx => by
   obtain ⟨⟨cells, q, hq⟩, hl⟩ := h3 x hx
   exact read_ints hq hl
  exact ⟨r, by rw [h1, e1, sz29]; rfl, by omega, e3⟩
theorem read_fields {k : Nat} {t : TypeId} {fs : Array Field} {cs : List Value} {d : DataW H} {ps : List MemPlace} (hu : Try.prog.underlying t = some (.struct fs)) (h : DataW.trod enc Try.prog w base spare held (k + 1) t cs = some (d, ps)) (hw : Lite t d) :
  ∃ parts : List (DataW H), cellsAV Try.prog (k + 1) t d = ((fs.toList.map (·.type)).zip parts).flatMap (fun x => cellsAV Try.prog k x.1 x.2) ∧ parts.length = (fs.toList.map (·.type)).length ∧
   ∀ (i : Nat) (e : TypeId) x, (fs.toList.map (·.type))[i]? = some e → parts[i]? = some x → (∃ cells q, DataW.trod enc Try.prog w base spare held k e cells = some (x, q)) ∧ Lite e x := by
 obtain ⟨parts, rfl, h1, h2, h3⟩ := read_struct hu h
 refine ⟨parts, ?_, by simpa using h2, fun i e x hi hx => ?_⟩
 ·rw [h1, List.zip_map_left, List.flatMap_map]; rfl
 ·have hi' := hi
  rw [List.getElem?_map] at hi
  cases hf : fs.toList[i]? with
  | none => rw [hf] at hi; cases hi
  | some f =>
   rw [hf] at hi
   obtain rfl := Option.some.inj hi
   refine ⟨h3 i f x hf hx, fun n hn => hw n ?_⟩
   simp only [DataW.weights, hu]
   exact DataW.weights_mem_each hi' hx n hn
structure RelD.Wide (r : RelD) : Prop where
 name : r.name.size ≤ reachBytes
 len : r.tuples.length ≤ reachBytes
 tup : ∀ t ∈ r.tuples, t.length ≤ reachBytes
theorem read_rel {k : Nat} {cs : List Value} {d : DataW H} {ps : List MemPlace} (h : DataW.trod enc Try.prog w base spare held k 64 cs = some (d, ps)) (hw : Lite 64 d) : ∃ r : RelD, cellsAV Try.prog k 64 d = r.cells ∧ r.Wide := by
 cases k with
 | zero => simp [DataW.trod] at h
 | succ k =>
  obtain ⟨parts, h1, h2, h3⟩ := read_fields undRel h hw
  rw [fldsRel] at h1 h2 h3
  match parts, h2 with
  | [a, b, c], _ =>
   obtain ⟨⟨_, _, q0⟩, w0⟩ := h3 0 9 a rfl rfl
   obtain ⟨⟨_, _, q1⟩, w1⟩ := h3 1 3 b rfl rfl
   obtain ⟨⟨_, _, q2⟩, w2⟩ := h3 2 40 c rfl rfl
   obtain ⟨x, ex, bx⟩ := read_str q0 w0
   obtain ⟨n, en⟩ := read_int q1
   obtain ⟨l, el, bl, bt⟩ := read_tups q2 w2
   refine ⟨⟨x, n, l⟩, ?_, ⟨bx, bl, bt⟩⟩
   rw [h1]
   simp only [List.zip_cons_cons, List.zip_nil_right, List.flatMap_cons, List.flatMap_nil, ex, en, el]
   rfl
theorem read_stru {k : Nat} {cs : List Value} {d : DataW H} {ps : List MemPlace} (h : DataW.trod enc Try.prog w base spare held k 24 cs = some (d, ps)) (hw : Lite 24 d) :
  ∃ s : StrD, cellsAV Try.prog k 24 d = [.i .i64 s.size, .sl 3 (rels s.rels)] ∧ s.Wide := by
 cases k with
 | zero => simp [DataW.trod] at h
 | succ k =>
  obtain ⟨parts, h1, h2, h3⟩ := read_fields undStru h hw
  rw [fldsStru] at h1 h2 h3
  match parts, h2 with
  | [a, b], _ =>
   obtain ⟨⟨_, _, q0⟩, w0⟩ := h3 0 3 a rfl rfl
   obtain ⟨⟨_, _, q1⟩, w1⟩ := h3 1 22 b rfl rfl
   obtain ⟨n, en⟩ := read_int q0
   cases k with
   | zero => simp [DataW.trod] at q1
   | succ k =>
    obtain ⟨elems, g1, g2, g3⟩ := read_sl undRels (by decide +kernel) q1 w1
    obtain ⟨r, e1, e2, e3⟩ := read_map (F := fun x => cellsAV Try.prog k 64 x) (G := RelD.cells) (Pr := RelD.Wide) (l := elems) fun x hx => by
     obtain ⟨⟨cells, q, hq⟩, hl⟩ := g3 x hx
     exact read_rel hq hl
    have hrb : reachBytes ≤ 1125899906842624 := by decide
    refine ⟨⟨n, r⟩, ?_, ⟨by simp only; omega, fun q hq => ?_⟩⟩
    ·rw [h1]
     simp only [List.zip_cons_cons, List.zip_nil_right, List.flatMap_cons, List.flatMap_nil, en, g1, e1, sz64]
     rfl
    ·have := e3 q hq
     exact ⟨Nat.le_trans this.name hrb, Nat.le_trans this.len (by omega), fun t ht => Nat.le_trans (this.tup t ht) hrb⟩
end
theorem plainInt (k : Nat) : plainT Try.prog k 3 = true := by
 cases k with
 | zero => rfl
 | succ k => unfold plainT; rw [undInt]; exact (by decide +kernel : decide (Try.prog.cellsOf 3 = 1) = true)
theorem plainStr (k : Nat) : plainT Try.prog k 9 = true := by
 cases k with
 | zero => rfl
 | succ k => unfold plainT; rw [undStr]; exact (by decide +kernel : decide (Try.prog.cellsOf 9 = 1) = true)
theorem plainSl {t e : TypeId} (hu : Try.prog.underlying t = some (.slice e)) (h1 : Try.prog.cellsOf t = 1) (h2 : 0 < Try.prog.cellsOf e) (h : ∀ k, plainT Try.prog k e = true) (k : Nat) : plainT Try.prog k t = true := by
 cases k with
 | zero => rfl
 | succ k => unfold plainT; rw [hu]; simp [h1, h2, h k]
theorem plainStruct {t : TypeId} {fs : Array Field} (hu : Try.prog.underlying t = some (.struct fs)) (h1 : laidF Try.prog 0 fs.toList = some (Try.prog.cellsOf t)) (h : ∀ k, ∀ e ∈ fs.toList.map (·.type), plainT Try.prog k e = true) (k : Nat) : plainT Try.prog k t = true := by
 cases k with
 | zero => rfl
 | succ k =>
  unfold plainT
  rw [hu]
  simp only [Bool.and_eq_true, List.all_eq_true, decide_eq_true_eq]
  exact ⟨fun f hf => h k _ (List.mem_map_of_mem hf), h1⟩
theorem plainInts (k : Nat) : plainT Try.prog k 29 = true := plainSl undInts (by decide +kernel) (by decide +kernel) plainInt k
theorem plainTups (k : Nat) : plainT Try.prog k 40 = true := plainSl undTups (by decide +kernel) (by decide +kernel) plainInts k
theorem plainRel (k : Nat) : plainT Try.prog k 64 = true := plainStruct undRel (by decide +kernel) (fun k e he => by
 rw [fldsRel] at he
 simp only [List.mem_cons, List.not_mem_nil, or_false] at he
 rcases he with rfl | rfl | rfl
 ·exact plainStr k
 ·exact plainInt k
 ·exact plainTups k) k
theorem plainRels (k : Nat) : plainT Try.prog k 22 = true := plainSl undRels (by decide +kernel) (by decide +kernel) plainRel k
theorem plainStru (k : Nat) : plainT Try.prog k 24 = true := plainStruct undStru (by decide +kernel) (fun k e he => by
 rw [fldsStru] at he
 simp only [List.mem_cons, List.not_mem_nil, or_false] at he
 rcases he with rfl | rfl
 ·exact plainInt k
 ·exact plainRels k) k
end Go.AW
namespace Go.AW
open Go Go.Proofs TyTry Go.IntWalk
set_option linter.unusedSimpArgs false
set_option linter.unusedVariables false
set_option maxRecDepth 10000
theorem rletter_spec (c : Int) : ACallsD Try.prog 87 [.i .u8 c] (.b (letterF c)) := by
 refine ACalls_of' (n := 17) (rs := [.tmp 2]) (show Try.prog.funcs[87]? = some Try.f87 by kernel_rfl) rfl rfl rfl (by simp) (by decide +kernel) ?_
 repeat' (first | refine nav ?_ | refine bo ?_ | (refine wr fun K R hK hR => ?_; simp (maxSteps := 10000000) only [go_sem]; (try go_ints); (repeat refine And.intro side ?_); (first | refine hK _ ?_ | refine hR _ _ ?_); clear hK hR K R) | ((refine W_cond (by simp only [go_sem, *] <;> exact rfl) (fun hb => ?_) (fun hb => ?_)) <;> (try exact Bool.noConfusion hb)))
 refine endQ_data (by simp only [go_sem] <;> exact rfl) (Le.of_eq ?_) rfl
 try rfl
theorem rdigit_spec (c : Int) : ACallsD Try.prog 89 [.i .u8 c] (.b (digitF c)) := by
 refine ACalls_of' (n := 9) (rs := [.tmp 2]) (show Try.prog.funcs[89]? = some Try.f89 by kernel_rfl) rfl rfl rfl (by simp) (by decide +kernel) ?_
 repeat' (first | refine nav ?_ | refine bo ?_ | (refine wr fun K R hK hR => ?_; simp (maxSteps := 10000000) only [go_sem]; (try go_ints); (repeat refine And.intro side ?_); (first | refine hK _ ?_ | refine hR _ _ ?_); clear hK hR K R) | ((refine W_cond (by simp only [go_sem, *] <;> exact rfl) (fun hb => ?_) (fun hb => ?_)) <;> (try exact Bool.noConfusion hb)))
 refine endQ_data (by simp only [go_sem] <;> exact rfl) (Le.of_eq ?_) rfl
 try rfl
theorem rword_spec (x : ByteArray) : ACallsD Try.prog 88 [.s x] (.b (wordF x)) := by
 refine ACalls_of' (n := 16) (rs := [.tmp 2]) (show Try.prog.funcs[88]? = some Try.f88 by kernel_rfl) rfl rfl rfl (by simp) (by decide +kernel) ?_
 repeat' (first | refine nav ?_ | refine bo ?_ | (refine wr fun K R hK hR => ?_; simp (maxSteps := 10000000) only [go_sem]; (try go_ints); (repeat refine And.intro side ?_); (first | refine hK _ ?_ | refine hR _ _ ?_); clear hK hR K R) | ((refine W_cond (by simp only [go_sem, *] <;> exact rfl) (fun hb => ?_) (fun hb => ?_)) <;> (try exact Bool.noConfusion hb)))
 all_goals refine endQ_data (by simp only [go_sem] <;> exact rfl) (Le.of_eq ?_) rfl
 all_goals simp only [wordF, wordsL, List.any_cons, List.any_nil, Bool.or_true, Bool.true_or, Bool.or_false, Bool.false_or, *]
theorem rname_spec (x : ByteArray) (hx : x.size ≤ 1099511627776) : ACallsD Try.prog 71 [.s x] (.b (nameF x)) := by
 refine ACalls_of' (n := 40) (rs := [.tmp 2]) (show Try.prog.funcs[71]? = some Try.f71 by kernel_rfl) rfl rfl rfl (by simp) (by decide +kernel) ?_
 repeat (first | refine nav ?_ | refine bo ?_)
 (refine wr fun K R hK hR => ?_; simp (maxSteps := 10000000) only [go_sem]; (try go_ints); (repeat refine And.intro side ?_); (first | refine hK _ ?_ | refine hR _ _ ?_); clear hK hR K R)
 repeat (first | refine nav ?_ | refine bo ?_)
 (refine wr fun K R hK hR => ?_; simp (maxSteps := 10000000) only [go_sem]; (try go_ints); (repeat refine And.intro side ?_); (first | refine hK _ ?_ | refine hR _ _ ?_); clear hK hR K R)
 refine RL_callDg rfl (by simp only [go_sem] <;> exact rfl) (fun e => rletter_spec (chF x 0)) rfl rfl rfl (fun e => by (try simp only [go_sem] at e); simp only [go_sem, e] <;> (try simp only [go_sem, chF]) <;> first | exact LeA.refl _ | exact Le.refl _) rfl rfl ?_
 (refine rr fun K R hK hR => ?_; simp (maxSteps := 10000000) only [go_sem]; (try go_ints); (repeat refine And.intro side ?_); (first | refine hK _ ?_ | refine hR _ _ ?_); clear hK hR K R)
 refine RL_callDg rfl (by simp only [go_sem] <;> exact rfl) (fun e => rword_spec x) rfl rfl rfl (fun e => by (try simp only [go_sem] at e); simp only [go_sem, e] <;> (try simp only [go_sem]) <;> first | exact LeA.refl _ | exact Le.refl _) rfl rfl ?_
 (refine rr fun K R hK hR => ?_; simp (maxSteps := 10000000) only [go_sem]; (try go_ints); (repeat refine And.intro side ?_); (first | refine hK _ ?_ | refine hR _ _ ?_); clear hK hR K R)
 repeat (first | refine nav ?_ | refine bo ?_)
 refine W_cond (by simp only [go_sem] <;> exact rfl) (fun hb => ?_) (fun hb => ?_)
 ·simp only [Bool.or_eq_true, Bool.and_eq_true, Bool.not_eq_true', Bool.not_eq_false', Bool.and_eq_false_iff, Bool.or_eq_false_iff, decide_eq_true_eq, decide_eq_false_iff_not, Bool.not_eq_eq_eq_not, Bool.not_true, Bool.not_false] at hb
  repeat (first | refine nav ?_ | refine bo ?_)
  (refine wr fun K R hK hR => ?_; simp (maxSteps := 10000000) only [go_sem]; (try go_ints); (repeat refine And.intro side ?_); (first | refine hK _ ?_ | refine hR _ _ ?_); clear hK hR K R)
  repeat (first | refine nav ?_ | refine bo ?_)
  refine endQ_data (by simp only [go_sem] <;> exact rfl) (Le.of_eq ?_) rfl
  rcases hb with ((hb | hb) | hb) | hb
  ·simp only [nameF, decide_eq_false (show ¬ 1 ≤ x.size by omega), Bool.false_and]
  ·simp only [nameF, decide_eq_false (show ¬ x.size ≤ 12 by omega), Bool.false_and, Bool.and_false]
  ·simp only [nameF, hb, Bool.false_and, Bool.and_false]
  ·simp only [nameF, hb, Bool.not_true, Bool.false_and, Bool.and_false]
 ·simp only [Bool.or_eq_true, Bool.and_eq_true, Bool.not_eq_true', Bool.not_eq_false', Bool.and_eq_false_iff, Bool.or_eq_false_iff, decide_eq_true_eq, decide_eq_false_iff_not, Bool.not_eq_eq_eq_not, Bool.not_true, Bool.not_false] at hb
  obtain ⟨⟨⟨h1, h2⟩, h3⟩, h4⟩ := hb
  repeat (first | refine nav ?_ | refine bo ?_)
  (refine wr fun K R hK hR => ?_; simp (maxSteps := 10000000) only [go_sem]; (try go_ints); (repeat refine And.intro side ?_); (first | refine hK _ ?_ | refine hR _ _ ?_); clear hK hR K R)
  repeat (first | refine nav ?_ | refine bo ?_)
  refine W_for 22 40 [3] (fun m t o => ∃ k : Nat, [] = o ∧ t 3 = .i .i64 k ∧ m = x.size - k ∧ 1 ≤ k ∧ k ≤ x.size ∧ ∀ i < k, (letterF (chF x i) || digitF (chF x i)) = true) (x.size - 1) ⟨1, rfl, by simp only [go_sem] <;> rfl, by omega, by omega, by omega, fun i hi => by obtain rfl : i = 0 := (by omega); rw [h3]; rfl⟩ ?_
  rintro m t o ⟨k, rfl, h3', rfl, hk1, hk, hi⟩
  repeat (first | refine nav ?_ | refine bo ?_)
  (refine wr fun K R hK hR => ?_; simp (maxSteps := 10000000) only [go_sem, h3']; (try go_ints); (try simp only [go_sem, h3']); (repeat refine And.intro side ?_); (first | refine hK _ ?_ | refine hR _ _ ?_); clear hK hR K R)
  repeat (first | refine nav ?_ | refine bo ?_)
  refine W_cond (by simp only [go_sem] <;> exact rfl) (fun hb => ?_) (fun hb => ?_)
  ·simp at hb
   repeat (first | refine nav ?_ | refine bo ?_)
   (refine wr fun K R hK hR => ?_; simp (maxSteps := 10000000) only [go_sem, h3']; (try go_ints); (try simp only [go_sem, h3']); (repeat refine And.intro side ?_); (first | refine hK _ ?_ | refine hR _ _ ?_); clear hK hR K R)
   refine RL_callF (rletter_spec (chF x k)) rfl rfl rfl (by first | (simp only [go_sem, chF] <;> first | exact LeA.refl _ | exact Le.refl _) | exact LeA.refl _) rfl rfl ?_
   (refine rr fun K R hK hR => ?_; simp (maxSteps := 10000000) only [go_sem, h3']; (try go_ints); (try simp only [go_sem, h3']); (repeat refine And.intro side ?_); (first | refine hK _ ?_ | refine hR _ _ ?_); clear hK hR K R)
   refine RL_callDg rfl (by simp only [go_sem] <;> exact rfl) (fun e => rdigit_spec (chF x k)) rfl rfl rfl (fun e => by (try simp only [go_sem] at e); simp only [go_sem, e] <;> (try simp only [go_sem, chF]) <;> first | exact LeA.refl _ | exact Le.refl _) rfl rfl ?_
   (refine rr fun K R hK hR => ?_; simp (maxSteps := 10000000) only [go_sem]; (try go_ints); (repeat refine And.intro side ?_); (first | refine hK _ ?_ | refine hR _ _ ?_); clear hK hR K R)
   repeat (first | refine nav ?_ | refine bo ?_)
   refine W_cond (by simp only [go_sem] <;> exact rfl) (fun hc => ?_) (fun hc => ?_)
   ·simp only [Bool.or_eq_true, Bool.and_eq_true, Bool.not_eq_true', Bool.not_eq_false', Bool.and_eq_false_iff, Bool.or_eq_false_iff, decide_eq_true_eq, decide_eq_false_iff_not, Bool.not_eq_eq_eq_not, Bool.not_true, Bool.not_false] at hc
    repeat (first | refine nav ?_ | refine bo ?_)
    (refine wr fun K R hK hR => ?_; simp (maxSteps := 10000000) only [go_sem]; (try go_ints); (repeat refine And.intro side ?_); (first | refine hK _ ?_ | refine hR _ _ ?_); clear hK hR K R)
    repeat (first | refine nav ?_ | refine bo ?_)
    refine endQ_data (by simp only [go_sem] <;> exact rfl) (Le.of_eq ?_) rfl
    rw [AV.b.injEq, eq_comm]
    simp only [nameF, Bool.and_eq_false_iff]
    right
    rw [List.all_eq_false]
    exact ⟨k, by simpa using hb, by simp [hc]⟩
   ·repeat (first | refine nav ?_ | refine bo ?_)
    (refine wr fun K R hK hR => ?_; simp (maxSteps := 10000000) only [go_sem, h3']; (try go_ints); (try simp only [go_sem, h3']); (repeat refine And.intro side ?_); (first | refine hK _ ?_ | refine hR _ _ ?_); clear hK hR K R)
    refine forQ_normal (x.size - (k + 1)) (by omega) ⟨k + 1, ?_⟩
    ((try simp only [go_sem]); (repeat' refine And.intro ?_ ?_) <;> (try first | with_reducible rfl | omega | with_reducible assumption | (simp; done)))
    intro i hik
    rcases Nat.lt_succ_iff_lt_or_eq.1 hik with h | rfl
    ·exact hi i h
    ·simp at hc
     cases h : letterF (chF x i) <;> simp_all
  ·simp at hb
   have : k = x.size := by omega
   subst this
   repeat (first | refine nav ?_ | refine bo ?_)
   (refine wr fun K R hK hR => ?_; simp (maxSteps := 10000000) only [go_sem]; (try go_ints); (repeat refine And.intro side ?_); (first | refine hK _ ?_ | refine hR _ _ ?_); clear hK hR K R)
   repeat (first | refine nav ?_ | refine bo ?_)
   refine endQ_data (by simp only [go_sem] <;> exact rfl) (Le.of_eq ?_) rfl
   rw [AV.b.injEq, eq_comm]
   simp only [nameF, h3, h4, decide_eq_true (show 1 ≤ x.size by omega), decide_eq_true (show x.size ≤ 12 by omega), Bool.true_and, Bool.not_false]
   rw [List.all_eq_true]
   exact fun i hi' => hi i (by simpa using hi')
def lessL : List Int → List Int → Bool
 | a :: l, b :: r => if a = b then lessL l r else decide (a < b)
 | _, _ => false
theorem less_spec (a b : List Int) (ha : a.length ≤ 1099511627776) (hab : a.length = b.length) : ACallsD Try.prog 63 [.sl 1 (ints a), .sl 1 (ints b)] (.b (lessL a b)) := by
 refine ACalls_of' (n := 30) (rs := [.tmp 4]) (show Try.prog.funcs[63]? = some Try.f63 by kernel_rfl) rfl rfl rfl (by simp) (by decide +kernel) ?_
 repeat (first | refine nav ?_ | refine bo ?_)
 (refine wr fun K R hK hR => ?_; simp (maxSteps := 10000000) only [go_sem]; (try go_ints); (repeat refine And.intro side ?_); (first | refine hK _ ?_ | refine hR _ _ ?_); clear hK hR K R)
 repeat (first | refine nav ?_ | refine bo ?_)
 (refine wr fun K R hK hR => ?_; simp (maxSteps := 10000000) only [go_sem]; (try go_ints); (repeat refine And.intro side ?_); (first | refine hK _ ?_ | refine hR _ _ ?_); clear hK hR K R)
 repeat (first | refine nav ?_ | refine bo ?_)
 refine W_for 6 30 [5] (fun m t o => ∃ k : Nat, [] = o ∧ t 5 = .i .i64 k ∧ m = a.length - k ∧ k ≤ a.length ∧ lessL (a.drop k) (b.drop k) = lessL a b) a.length ⟨0, rfl, by simp only [go_sem] <;> rfl, by omega, Nat.zero_le _, rfl⟩ ?_
 rintro m t o ⟨k, rfl, h5, rfl, hk, hi⟩
 repeat (first | refine nav ?_ | refine bo ?_)
 (refine wr fun K R hK hR => ?_; simp (maxSteps := 10000000) only [go_sem, h5]; (try go_ints); (try simp only [go_sem, h5]); (repeat refine And.intro side ?_); (first | refine hK _ ?_ | refine hR _ _ ?_); clear hK hR K R)
 repeat (first | refine nav ?_ | refine bo ?_)
 refine W_cond (by simp only [go_sem] <;> exact rfl) (fun hb => ?_) (fun hb => ?_)
 ·simp at hb
  obtain ⟨x, hx⟩ : ∃ x, a[k]? = some x := ⟨_, List.getElem?_eq_getElem hb⟩
  obtain ⟨y, hy⟩ : ∃ y, b[k]? = some y := ⟨_, List.getElem?_eq_getElem (by omega)⟩
  rw [drop_cons hx, drop_cons hy, lessL] at hi
  repeat (first | refine nav ?_ | refine bo ?_)
  (refine W_dreg (by decide +kernel) [] [0, 1, 2, 3, 4, 5, 6, 7, 8] [[], [], [1, 0], [0, 1, 2], [], [], [5, 4], [4, 5, 6], [6, 5, 4, 7, 2, 1, 0, 3]] (by decide +kernel) rfl fun K R hK hR => ?_; simp only [List.filterMap_cons, List.filterMap_nil, List.getElem?_cons_zero, List.getElem?_cons_succ, List.cons_append, List.nil_append]; simp (maxSteps := 10000000) only [go_sem, h5, ints_get hx, ints_get hy]; (try go_ints); (try simp only [go_sem, h5, ints_get hx, ints_get hy]); (repeat refine And.intro side ?_); (first | refine hK _ ?_ | refine hR _ _ ?_); clear hK hR K R)
  repeat (first | refine nav ?_ | refine bo ?_)
  refine W_cond (by simp only [go_sem] <;> exact rfl) (fun hd => ?_) (fun hd => ?_)
  ·rw [if_neg (by simpa using hd)] at hi
   repeat (first | refine nav ?_ | refine bo ?_)
   (refine W_dreg (by decide +kernel) [] [0, 1, 2, 3, 4, 5, 6, 7, 8, 9] [[], [], [1, 0], [0, 1, 2], [], [], [5, 4], [4, 5, 6], [6, 5, 4, 7, 2, 1, 0, 3], [3, 0, 1, 2, 7, 4, 5, 6, 8]] (by decide +kernel) rfl fun K R hK hR => ?_; simp only [List.filterMap_cons, List.filterMap_nil, List.getElem?_cons_zero, List.getElem?_cons_succ, List.cons_append, List.nil_append]; simp (maxSteps := 10000000) only [go_sem, h5, ints_get hx, ints_get hy]; (try go_ints); (try simp only [go_sem, h5, ints_get hx, ints_get hy]); (repeat refine And.intro side ?_); (first | refine hK _ ?_ | refine hR _ _ ?_); clear hK hR K R)
   repeat (first | refine nav ?_ | refine bo ?_)
   refine endQ_data (by simp only [go_sem] <;> exact rfl) (Le.of_eq ?_) rfl
   rw [hi]
  ·rw [if_pos (by simpa using hd)] at hi
   repeat (first | refine nav ?_ | refine bo ?_)
   (refine wr fun K R hK hR => ?_; simp (maxSteps := 10000000) only [go_sem, h5]; (try go_ints); (try simp only [go_sem, h5]); (repeat refine And.intro side ?_); (first | refine hK _ ?_ | refine hR _ _ ?_); clear hK hR K R)
   refine forQ_normal (a.length - (k + 1)) (by omega) ⟨k + 1, ?_⟩
   ((try simp only [go_sem]); (repeat' refine And.intro ?_ ?_) <;> (try first | with_reducible rfl | omega | with_reducible assumption | (simp; done)))
 ·simp at hb
  have : k = a.length := by omega
  subst this
  rw [List.drop_length, lessL] at hi
  ·repeat (first | refine nav ?_ | refine bo ?_)
   (refine wr fun K R hK hR => ?_; simp (maxSteps := 10000000) only [go_sem]; (try go_ints); (repeat refine And.intro side ?_); (first | refine hK _ ?_ | refine hR _ _ ?_); clear hK hR K R)
   repeat (first | refine nav ?_ | refine bo ?_)
   refine endQ_data (by simp only [go_sem] <;> exact rfl) (Le.of_eq ?_) rfl
   rw [← hi]
  ·intro a l b r h; cases h
theorem lessL_cmp : ∀ (a b : List Int), a.length = b.length → lessL a b = decide (cmpL a b < 0)
 | [], [], _ => rfl
 | a :: l, b :: r, h => by
  rw [lessL, cmpL]
  have ih := lessL_cmp l r (by simpa using h)
  by_cases hab : a = b
  ·rw [if_pos hab, ih, if_neg (by subst hab; simp [cmpF])]
  ·rw [if_neg hab, if_pos (by simp [cmpF]; omega)]
   simp only [cmpF]
   by_cases h1 : a < b
   ·simp [h1]
   ·simp [h1]; split <;> omega
theorem equal_spec (a b : List Int) (ha : a.length ≤ 1099511627776) : ACallsD Try.prog 14 [.sl 1 (ints a), .sl 1 (ints b)] (.b (decide (a = b))) := by
 refine ACalls_of' (n := 26) (rs := [.tmp 4]) (show Try.prog.funcs[14]? = some Try.f14 by kernel_rfl) rfl rfl rfl (by simp) (by decide +kernel) ?_
 repeat (first | refine nav ?_ | refine bo ?_)
 (refine wr fun K R hK hR => ?_; simp (maxSteps := 10000000) only [go_sem]; (try go_ints); (repeat refine And.intro side ?_); (first | refine hK _ ?_ | refine hR _ _ ?_); clear hK hR K R)
 repeat (first | refine nav ?_ | refine bo ?_)
 (refine wr fun K R hK hR => ?_; simp (maxSteps := 10000000) only [go_sem]; (try go_ints); (repeat refine And.intro side ?_); (first | refine hK _ ?_ | refine hR _ _ ?_); clear hK hR K R)
 repeat (first | refine nav ?_ | refine bo ?_)
 refine W_cond (by simp only [go_sem] <;> exact rfl) (fun hb => ?_) (fun hb => ?_)
 ·repeat (first | refine nav ?_ | refine bo ?_)
  (refine wr fun K R hK hR => ?_; simp (maxSteps := 10000000) only [go_sem]; (try go_ints); (repeat refine And.intro side ?_); (first | refine hK _ ?_ | refine hR _ _ ?_); clear hK hR K R)
  repeat (first | refine nav ?_ | refine bo ?_)
  refine endQ_data (by simp only [go_sem] <;> exact rfl) (Le.of_eq ?_) rfl
  rw [decide_eq_false]
  rintro rfl
  simp at hb
 ·have hl : a.length = b.length := by simp at hb; omega
  repeat (first | refine nav ?_ | refine bo ?_)
  (refine wr fun K R hK hR => ?_; simp (maxSteps := 10000000) only [go_sem]; (try go_ints); (repeat refine And.intro side ?_); (first | refine hK _ ?_ | refine hR _ _ ?_); clear hK hR K R)
  repeat (first | refine nav ?_ | refine bo ?_)
  refine W_for 11 26 [5] (fun m t o => ∃ k : Nat, [] = o ∧ t 5 = .i .i64 k ∧ m = a.length - k ∧ k ≤ a.length ∧ (a.drop k = b.drop k ↔ a = b)) a.length ⟨0, rfl, by simp only [go_sem] <;> rfl, by omega, Nat.zero_le _, Iff.rfl⟩ ?_
  rintro m t o ⟨k, rfl, h5, rfl, hk, hi⟩
  repeat (first | refine nav ?_ | refine bo ?_)
  (refine wr fun K R hK hR => ?_; simp (maxSteps := 10000000) only [go_sem, h5]; (try go_ints); (try simp only [go_sem, h5]); (repeat refine And.intro side ?_); (first | refine hK _ ?_ | refine hR _ _ ?_); clear hK hR K R)
  repeat (first | refine nav ?_ | refine bo ?_)
  refine W_cond (by simp only [go_sem] <;> exact rfl) (fun hb => ?_) (fun hb => ?_)
  ·simp at hb
   obtain ⟨x, hx⟩ : ∃ x, a[k]? = some x := ⟨_, List.getElem?_eq_getElem hb⟩
   obtain ⟨y, hy⟩ : ∃ y, b[k]? = some y := ⟨_, List.getElem?_eq_getElem (by omega)⟩
   rw [drop_cons hx, drop_cons hy, List.cons.injEq] at hi
   repeat (first | refine nav ?_ | refine bo ?_)
   (refine W_dreg (by decide +kernel) [] [0, 1, 2, 3, 4, 5, 6, 7, 8] [[], [], [1, 0], [0, 1, 2], [], [], [5, 4], [4, 5, 6], [6, 5, 4, 7, 2, 1, 0, 3]] (by decide +kernel) rfl fun K R hK hR => ?_; simp only [List.filterMap_cons, List.filterMap_nil, List.getElem?_cons_zero, List.getElem?_cons_succ, List.cons_append, List.nil_append]; simp (maxSteps := 10000000) only [go_sem, h5, ints_get hx, ints_get hy]; (try go_ints); (try simp only [go_sem, h5, ints_get hx, ints_get hy]); (repeat refine And.intro side ?_); (first | refine hK _ ?_ | refine hR _ _ ?_); clear hK hR K R)
   repeat (first | refine nav ?_ | refine bo ?_)
   refine W_cond (by simp only [go_sem] <;> exact rfl) (fun hd => ?_) (fun hd => ?_)
   ·repeat (first | refine nav ?_ | refine bo ?_)
    (refine wr fun K R hK hR => ?_; simp (maxSteps := 10000000) only [go_sem]; (try go_ints); (repeat refine And.intro side ?_); (first | refine hK _ ?_ | refine hR _ _ ?_); clear hK hR K R)
    repeat (first | refine nav ?_ | refine bo ?_)
    refine endQ_data (by simp only [go_sem] <;> exact rfl) (Le.of_eq ?_) rfl
    have hd : x ≠ y := by simpa using hd
    rw [decide_eq_false]
    exact fun h => hd (hi.2 h).1
   ·have hd : x = y := by simpa using hd
    repeat (first | refine nav ?_ | refine bo ?_)
    (refine wr fun K R hK hR => ?_; simp (maxSteps := 10000000) only [go_sem, h5]; (try go_ints); (try simp only [go_sem, h5]); (repeat refine And.intro side ?_); (first | refine hK _ ?_ | refine hR _ _ ?_); clear hK hR K R)
    refine forQ_normal (a.length - (k + 1)) (by omega) ⟨k + 1, ?_⟩
    ((try simp only [go_sem]); (repeat' refine And.intro ?_ ?_) <;> (try first | with_reducible rfl | omega | with_reducible assumption | (simp; done)))
    exact ⟨fun h => hi.1 ⟨hd, h⟩, fun h => (hi.2 h).2⟩
  ·simp at hb
   have : k = a.length := by omega
   subst this
   rw [List.drop_length, List.drop_eq_nil_of_le (by omega)] at hi
   repeat (first | refine nav ?_ | refine bo ?_)
   (refine wr fun K R hK hR => ?_; simp (maxSteps := 10000000) only [go_sem]; (try go_ints); (repeat refine And.intro side ?_); (first | refine hK _ ?_ | refine hR _ _ ?_); clear hK hR K R)
   repeat (first | refine nav ?_ | refine bo ?_)
   refine endQ_data (by simp only [go_sem] <;> exact rfl) (Le.of_eq ?_) rfl
   rw [decide_eq_true (hi.1 rfl)]
def inT (n : Int) (t : List Int) : Bool := !(t.any fun x => decide (x < 0) || decide (x ≥ n))
theorem in_spec (n : Int) (t : List Int) (ht : t.length ≤ 1099511627776) : ACallsD Try.prog 17 [.i .i64 n, .sl 1 (ints t)] (.b (inT n t)) := by
 refine ACalls_of' (n := 25) (rs := [.tmp 4]) (show Try.prog.funcs[17]? = some Try.f17 by kernel_rfl) rfl rfl rfl (by simp) (by decide +kernel) ?_
 repeat (first | refine nav ?_ | refine bo ?_)
 (refine wr fun K R hK hR => ?_; simp (maxSteps := 10000000) only [go_sem]; (try go_ints); (repeat refine And.intro side ?_); (first | refine hK _ ?_ | refine hR _ _ ?_); clear hK hR K R)
 repeat (first | refine nav ?_ | refine bo ?_)
 (refine wr fun K R hK hR => ?_; simp (maxSteps := 10000000) only [go_sem]; (try go_ints); (repeat refine And.intro side ?_); (first | refine hK _ ?_ | refine hR _ _ ?_); clear hK hR K R)
 repeat (first | refine nav ?_ | refine bo ?_)
 refine W_for 6 25 [5] (fun m t' o => ∃ k : Nat, [] = o ∧ t' 5 = .i .i64 k ∧ m = t.length - k ∧ k ≤ t.length ∧ inT n (t.drop k) = inT n t) t.length ⟨0, rfl, by simp only [go_sem] <;> rfl, by omega, Nat.zero_le _, rfl⟩ ?_
 rintro m t' o ⟨k, rfl, h5, rfl, hk, hi⟩
 repeat (first | refine nav ?_ | refine bo ?_)
 (refine wr fun K R hK hR => ?_; simp (maxSteps := 10000000) only [go_sem, h5]; (try go_ints); (try simp only [go_sem, h5]); (repeat refine And.intro side ?_); (first | refine hK _ ?_ | refine hR _ _ ?_); clear hK hR K R)
 repeat (first | refine nav ?_ | refine bo ?_)
 refine W_cond (by simp only [go_sem] <;> exact rfl) (fun hb => ?_) (fun hb => ?_)
 ·simp at hb
  obtain ⟨x, hx⟩ : ∃ x, t[k]? = some x := ⟨_, List.getElem?_eq_getElem hb⟩
  have hstep : inT n (x :: t.drop (k + 1)) = (!(decide (x < 0) || decide (x ≥ n)) && inT n (t.drop (k + 1))) := by simp [inT]
  rw [drop_cons hx, hstep] at hi
  have hlt : decide (k < t.length) = true := by simpa using hb
  repeat (first | refine nav ?_ | refine bo ?_)
  (refine wr fun K R hK hR => ?_; simp (maxSteps := 10000000) only [go_sem, h5, ints_get hx, hlt, Bool.or_true]; (try go_ints); (try simp only [go_sem, h5, ints_get hx, hlt, Bool.or_true]); (repeat refine And.intro side ?_); (first | refine hK _ ?_ | refine hR _ _ ?_); clear hK hR K R)
  repeat (first | refine nav ?_ | refine bo ?_)
  refine W_cond (by simp only [go_sem] <;> exact rfl) (fun hd => ?_) (fun hd => ?_)
  ·rw [hd] at hi
   repeat (first | refine nav ?_ | refine bo ?_)
   (refine wr fun K R hK hR => ?_; simp (maxSteps := 10000000) only [go_sem]; (try go_ints); (repeat refine And.intro side ?_); (first | refine hK _ ?_ | refine hR _ _ ?_); clear hK hR K R)
   repeat (first | refine nav ?_ | refine bo ?_)
   refine endQ_data (by simp only [go_sem] <;> exact rfl) (Le.of_eq ?_) rfl
   rw [← hi]; rfl
  ·rw [hd] at hi
   repeat (first | refine nav ?_ | refine bo ?_)
   (refine wr fun K R hK hR => ?_; simp (maxSteps := 10000000) only [go_sem, h5]; (try go_ints); (try simp only [go_sem, h5]); (repeat refine And.intro side ?_); (first | refine hK _ ?_ | refine hR _ _ ?_); clear hK hR K R)
   refine forQ_normal (t.length - (k + 1)) (by omega) ⟨k + 1, ?_⟩
   ((try simp only [go_sem]); (repeat' refine And.intro ?_ ?_) <;> (try first | with_reducible rfl | omega | with_reducible assumption | (simp; done)))
   simpa using hi
 ·simp at hb
  have : k = t.length := by omega
  subst this
  rw [List.drop_length] at hi
  repeat (first | refine nav ?_ | refine bo ?_)
  (refine wr fun K R hK hR => ?_; simp (maxSteps := 10000000) only [go_sem]; (try go_ints); (repeat refine And.intro side ?_); (first | refine hK _ ?_ | refine hR _ _ ?_); clear hK hR K R)
  repeat (first | refine nav ?_ | refine bo ?_)
  refine endQ_data (by simp only [go_sem] <;> exact rfl) (Le.of_eq ?_) rfl
  rw [← hi]; rfl
def pow2 (n : Int) : Nat → Int → Int
 | 0, p => p
 | k + 1, p => if p ≤ 4096 then pow2 n k (p * n) else p
theorem pow2_big (n : Int) : ∀ (k : Nat) (p : Int), 4096 < p → pow2 n k p = p
 | 0, _, _ => rfl
 | k + 1, p, h => by rw [pow2, if_neg (by omega)]
theorem pow2_spec (n : Int) (hn : 1 ≤ n) : ∀ (k : Nat) (p : Int), 1 ≤ p → p ≤ 4096 → decide (pow2 n k p > 4096) = !decide (powL n 4096 k p ≥ 0)
 | 0, p, h1, h2 => by
  rw [pow2, powL, decide_eq_false (by omega), decide_eq_true (by omega)]; rfl
 | k + 1, p, h1, h2 => by
  rw [pow2, if_pos h2, powL]
  have hp : 1 ≤ p * n := by
   have := Int.mul_le_mul h1 hn (by omega) (by omega); simpa using this
  split
  ·rename_i h
   rw [pow2_big n k _ h, decide_eq_true h]
   rfl
  ·rename_i h
   exact pow2_spec n hn k _ hp (by omega)
theorem pow_spec (n k : Int) (hn : 1 ≤ n) (hn2 : n ≤ 64) (hk : 0 ≤ k) (hk2 : k ≤ 12) : ACallsD Try.prog 72 [.i .i64 n, .i .i64 k] (.i .i64 (pow2 n k.toNat 1)) := by
 obtain ⟨k, rfl⟩ := Int.eq_ofNat_of_zero_le hk
 rw [Int.toNat_natCast]
 refine ACalls_of' (n := 20) (rs := [.tmp 4]) (show Try.prog.funcs[72]? = some Try.f72 by kernel_rfl) rfl rfl rfl (by simp) (by decide +kernel) ?_
 repeat (first | refine nav ?_ | refine bo ?_)
 (refine wr fun K R hK hR => ?_; simp (maxSteps := 10000000) only [go_sem]; (try go_ints); (repeat refine And.intro side ?_); (first | refine hK _ ?_ | refine hR _ _ ?_); clear hK hR K R)
 repeat (first | refine nav ?_ | refine bo ?_)
 (refine wr fun K R hK hR => ?_; simp (maxSteps := 10000000) only [go_sem]; (try go_ints); (repeat refine And.intro side ?_); (first | refine hK _ ?_ | refine hR _ _ ?_); clear hK hR K R)
 repeat (first | refine nav ?_ | refine bo ?_)
 (refine wr fun K R hK hR => ?_; simp (maxSteps := 10000000) only [go_sem]; (try go_ints); (repeat refine And.intro side ?_); (first | refine hK _ ?_ | refine hR _ _ ?_); clear hK hR K R)
 repeat (first | refine nav ?_ | refine bo ?_)
 refine W_for 7 19 [5, 6] (fun m t o => ∃ (i : Nat) (p : Int), [] = o ∧ t 6 = .i .i64 i ∧ t 5 = .i .i64 p ∧ m = k - i ∧ i ≤ k ∧ 1 ≤ p ∧ p ≤ 262144 ∧ pow2 n (k - i) p = pow2 n k 1) k ⟨0, 1, rfl, by simp only [go_sem] <;> rfl, by simp only [go_sem] <;> rfl, by omega, Nat.zero_le _, by omega, by omega, by simp⟩ ?_
 rintro m t o ⟨i, p, rfl, h6, h5, rfl, hik, hp1, hp2, hi⟩
 repeat (first | refine nav ?_ | refine bo ?_)
 (refine wr fun K R hK hR => ?_; simp (maxSteps := 10000000) only [go_sem, h6, h5]; (try go_ints); (try simp only [go_sem, h6, h5]); (repeat refine And.intro side ?_); (first | refine hK _ ?_ | refine hR _ _ ?_); clear hK hR K R)
 repeat (first | refine nav ?_ | refine bo ?_)
 refine W_cond (by simp only [go_sem] <;> exact rfl) (fun hb => ?_) (fun hb => ?_)
 ·simp only [Bool.or_eq_true, Bool.and_eq_true, Bool.not_eq_true', Bool.not_eq_false', Bool.and_eq_false_iff, Bool.or_eq_false_iff, decide_eq_true_eq, decide_eq_false_iff_not, Bool.not_eq_eq_eq_not, Bool.not_true, Bool.not_false] at hb
  obtain ⟨hb1, hb2⟩ := hb
  have hpn : 1 ≤ p * n ∧ p * n ≤ 262144 := by
   constructor
   ·have := Int.mul_le_mul hp1 hn (by omega) (by omega); simpa using this
   ·have := Int.mul_le_mul hb2 hn2 (by omega) (by omega); simpa using this
  rw [show k - i = (k - (i + 1)) + 1 by omega, pow2, if_pos hb2] at hi
  repeat (first | refine nav ?_ | refine bo ?_)
  (refine wr fun K R hK hR => ?_; simp (maxSteps := 10000000) only [go_sem, h5]; (try go_ints); (try simp only [go_sem, h5]); (repeat refine And.intro side ?_); (first | refine hK _ ?_ | refine hR _ _ ?_); clear hK hR K R)
  repeat (first | refine nav ?_ | refine bo ?_)
  (refine wr fun K R hK hR => ?_; simp (maxSteps := 10000000) only [go_sem, h6]; (try go_ints); (try simp only [go_sem, h6]); (repeat refine And.intro side ?_); (first | refine hK _ ?_ | refine hR _ _ ?_); clear hK hR K R)
  refine forQ_normal (k - (i + 1)) (by omega) ⟨i + 1, p * n, ?_⟩
  ((try simp only [go_sem]); (repeat' refine And.intro ?_ ?_) <;> (try first | with_reducible rfl | omega | with_reducible assumption | (simp; done)))
 ·simp only [Bool.or_eq_true, Bool.and_eq_true, Bool.not_eq_true', Bool.not_eq_false', Bool.and_eq_false_iff, Bool.or_eq_false_iff, decide_eq_true_eq, decide_eq_false_iff_not, Bool.not_eq_eq_eq_not, Bool.not_true, Bool.not_false] at hb
  have hres : p = pow2 n k 1 := by
   rw [← hi]
   rcases hb with h | h
   ·rw [show k - i = 0 by omega]; rfl
   ·rw [pow2_big n _ _ (by omega)]
  repeat (first | refine nav ?_ | refine bo ?_)
  (refine wr fun K R hK hR => ?_; simp (maxSteps := 10000000) only [go_sem, h5]; (try go_ints); (try simp only [go_sem, h5]); (repeat refine And.intro side ?_); (first | refine hK _ ?_ | refine hR _ _ ?_); clear hK hR K R)
  repeat (first | refine nav ?_ | refine bo ?_)
  refine endQ_data (by simp only [go_sem] <;> exact rfl) (Le.of_eq ?_) rfl
  rw [hres]
end Go.AW
namespace Go.AW
open Go Go.Proofs TyTry Go.IntWalk
set_option linter.unusedSimpArgs false
set_option linter.unusedVariables false
set_option maxRecDepth 10000
theorem rel_spec (n : Int) (hn : 1 ≤ n) (hn2 : n ≤ 64) (r : RelD) (hr : r.Ok) : ACallsD Try.prog 57 [.i .i64 n, .agg [.s r.name, .i .i64 r.arity, .sl 1 (tups r.tuples)]] (.b (relOk n r)) := by
 refine ACalls_of' (n := 72) (rs := [.tmp 4]) (show Try.prog.funcs[57]? = some Try.f57 by kernel_rfl) rfl rfl rfl (by simp) (by decide +kernel) ?_
 repeat (first | refine nav ?_ | refine bo ?_)
 (refine wr fun K R hK hR => ?_; simp (maxSteps := 10000000) only [go_sem]; (try go_ints); (repeat refine And.intro side ?_); (first | refine hK _ ?_ | refine hR _ _ ?_); clear hK hR K R)
 repeat (first | refine nav ?_ | refine bo ?_)
 (refine wr fun K R hK hR => ?_; simp (maxSteps := 10000000) only [go_sem]; (try go_ints); (repeat refine And.intro side ?_); (first | refine hK _ ?_ | refine hR _ _ ?_); clear hK hR K R)
 refine RL_callF (rname_spec r.name hr.name) rfl rfl rfl (by first | (simp only [go_sem] <;> first | exact LeA.refl _ | exact Le.refl _) | exact LeA.refl _) rfl rfl ?_
 (refine rr fun K R hK hR => ?_; simp (maxSteps := 10000000) only [go_sem]; (try go_ints); (repeat refine And.intro side ?_); (first | refine hK _ ?_ | refine hR _ _ ?_); clear hK hR K R)
 refine RL_callDg rfl (by simp only [go_sem] <;> exact rfl) (fun e => pow_spec n r.arity hn hn2 (by have := e; simp at this; omega) (by have := e; simp at this; omega)) rfl rfl rfl (fun e => by (try simp only [go_sem] at e); simp only [go_sem, e] <;> (try simp only [go_sem]) <;> first | exact LeA.refl _ | exact Le.refl _) rfl rfl ?_
 (refine rr fun K R hK hR => ?_; simp (maxSteps := 10000000) only [go_sem]; (try go_ints); (repeat refine And.intro side ?_); (first | refine hK _ ?_ | refine hR _ _ ?_); clear hK hR K R)
 repeat (first | refine nav ?_ | refine bo ?_)
 have hc1 : decide (r.arity < 0) = !decide (0 ≤ r.arity) := by
  by_cases h : r.arity < 0
  ·simp [h]
  ·simp [h]; omega
 have hc2 : decide (r.arity > 12) = !decide (r.arity ≤ 12) := by
  by_cases h : r.arity > 12
  ·simp [h]
  ·simp [h]; omega
 have hcm : decide (pow2 n r.arity.toNat 1 > 4096) = !decide (powL n 4096 r.arity.toNat 1 ≥ 0) := pow2_spec n hn _ 1 (by omega) (by omega)
 refine W_cond (by simp only [go_sem, hcm, hc1, hc2] <;> exact rfl) (fun hc => ?_) (fun hc => ?_)
 ·have hno : relOk n r = false := by
   rw [relOk]
   revert hc
   cases nameF r.name <;> cases decide (0 ≤ r.arity) <;> cases decide (r.arity ≤ 12) <;> cases decide (powL n 4096 r.arity.toNat 1 ≥ 0) <;> simp
  repeat (first | refine nav ?_ | refine bo ?_)
  (refine wr fun K R hK hR => ?_; simp (maxSteps := 10000000) only [go_sem]; (try go_ints); (repeat refine And.intro side ?_); (first | refine hK _ ?_ | refine hR _ _ ?_); clear hK hR K R)
  repeat (first | refine nav ?_ | refine bo ?_)
  refine endQ_data (by simp only [go_sem] <;> exact rfl) (Le.of_eq ?_) rfl
  rw [hno]
 ·have hyes : relOk n r = tuplesF n r.arity r.tuples := by
   rw [relOk]
   revert hc
   cases nameF r.name <;> cases decide (0 ≤ r.arity) <;> cases decide (r.arity ≤ 12) <;> cases decide (powL n 4096 r.arity.toNat 1 ≥ 0) <;> simp
  have hlen := hr.len
  repeat (first | refine nav ?_ | refine bo ?_)
  (refine wr fun K R hK hR => ?_; simp (maxSteps := 10000000) only [go_sem]; (try go_ints); (repeat refine And.intro side ?_); (first | refine hK _ ?_ | refine hR _ _ ?_); clear hK hR K R)
  repeat (first | refine nav ?_ | refine bo ?_)
  refine W_for 27 72 [5] (fun m t o => ∃ k : Nat, [Ob.cells 3 [[.s r.name, .i .i64 r.arity, .sl 1 (tups r.tuples)]]] = o ∧ t 5 = .i .i64 k ∧ m = r.tuples.length - k ∧ k ≤ r.tuples.length ∧ ∀ i < k, tupOk n r.arity r.tuples i = true) r.tuples.length ⟨0, rfl, by simp only [go_sem] <;> rfl, by omega, Nat.zero_le _, by simp⟩ ?_
  rintro m t o ⟨k, rfl, h5, rfl, hk, hi⟩
  repeat (first | refine nav ?_ | refine bo ?_)
  (refine wr fun K R hK hR => ?_; simp (maxSteps := 10000000) only [go_sem, h5]; (try go_ints); (try simp only [go_sem, h5]); (repeat refine And.intro side ?_); (first | refine hK _ ?_ | refine hR _ _ ?_); clear hK hR K R)
  repeat (first | refine nav ?_ | refine bo ?_)
  refine W_cond (by simp only [go_sem] <;> exact rfl) (fun hb => ?_) (fun hb => ?_)
  ·simp at hb
   obtain ⟨x, hx⟩ : ∃ x, r.tuples[k]? = some x := ⟨_, List.getElem?_eq_getElem hb⟩
   have hxl := hr.tup x (List.mem_of_getElem? hx)
   have e1 : ((k : Int) - 1).toNat = k - 1 := by omega
   obtain ⟨y, hy⟩ : ∃ y, r.tuples[k - 1]? = some y := ⟨_, List.getElem?_eq_getElem (by omega)⟩
   have hyl := hr.tup y (List.mem_of_getElem? hy)
   have hya : 0 < k → (y.length : Int) = r.arity := by
    intro h0
    have := hi (k - 1) (by omega)
    simp only [tupOk, List.getD_eq_getElem?_getD, hy, Option.getD_some, Bool.and_eq_true, beq_iff_eq] at this
    exact this.1.1
   have hspec : tupOk n r.arity r.tuples k = (((x.length : Int) == r.arity) && inT n x && (decide (k = 0) || decide (cmpL y x < 0))) := by
    simp only [tupOk, List.getD_eq_getElem?_getD, hx, hy, Option.getD_some, inT]
   have hk0 : decide ((k : Int) > 0) = !decide (k = 0) := by
    by_cases h : k = 0
    ·simp [h]
    ·simp [h]; omega
   repeat (first | refine nav ?_ | refine bo ?_)
   (refine W_dreg (by decide +kernel) [] [0, 1, 2, 3, 4, 5, 6, 7, 8, 9, 10, 11, 12, 13, 14, 15, 16, 17, 18, 19, 20, 21, 22, 23, 24, 25, 26, 27, 28, 29, 30, 31, 32, 33, 34, 35, 36, 37] [[], [0], [], [2, 0, 1], [1, 0, 2, 3], [3, 2, 0, 1, 4], [], [6], [6, 7, 4, 1, 0, 2, 3, 5], [5, 3, 2, 0, 1, 4, 7, 6, 8], [8, 6, 7, 4, 1, 0, 2, 3, 5, 9], [8, 6, 7, 4, 1, 0, 2, 3, 5, 9], [9, 5, 3, 2, 0, 1, 4, 7, 6, 8, 11], [8, 6, 7, 4, 1, 0, 2, 3, 5, 9], [13, 11, 8, 6, 7, 4, 1, 0, 2, 3, 5, 9, 12], [12, 9, 5, 3, 2, 0, 1, 4, 7, 6, 8, 11, 13, 14], [14, 13, 11, 12, 15, 9, 5, 3, 2, 0, 1, 4, 7, 6, 8, 10], [10, 8, 6, 7, 4, 1, 0, 2, 3, 5, 9, 15, 12, 11, 13, 14, 16], [16, 14, 13, 11, 12, 15, 10, 17, 8, 6, 7, 4, 1, 0, 2, 3, 5, 9], [9, 5, 3, 2, 0, 1, 4, 7, 6, 8, 17, 10, 15, 12, 11, 13, 14, 16, 18], [18, 16, 14, 13, 11, 12, 15, 10, 17, 8, 6, 7, 4, 1, 0, 2, 3, 5, 9, 19], [19, 9, 5, 3, 2, 0, 1, 4, 7, 6, 8, 17, 10, 15, 12, 11, 13, 14, 16, 18, 20], [20, 18, 16, 14, 13, 11, 12, 15, 10, 17, 8, 6, 7, 4, 1, 0, 2, 3, 5, 9, 19, 21], [21, 19, 9, 5, 3, 2, 0, 1, 4, 7, 6, 8, 17, 10, 15, 12, 11, 13, 14, 16, 18, 20, 22], [22, 20, 18, 16, 14, 13, 11, 12, 15, 10, 17, 8, 6, 7, 4, 1, 0, 2, 3, 5, 9, 19, 21, 23], [21, 19, 9, 5, 3, 2, 0, 1, 4, 7, 6, 8, 17, 10, 15, 12, 11, 13, 14, 16, 18, 20, 22], [22, 20, 18, 16, 14, 13, 11, 12, 15, 10, 17, 8, 6, 7, 4, 1, 0, 2, 3, 5, 9, 19, 21, 25], [25, 26, 23, 21, 19, 9, 5, 3, 2, 0, 1, 4, 7, 6, 8, 17, 10, 15, 12, 11, 13, 14, 16, 18, 20, 22, 24], [24, 22, 20, 18, 16, 14, 13, 11, 12, 15, 10, 17, 8, 6, 7, 4, 1, 0, 2, 3, 5, 9, 19, 21, 23, 26, 25, 27], [21, 19, 9, 5, 3, 2, 0, 1, 4, 7, 6, 8, 17, 10, 15, 12, 11, 13, 14, 16, 18, 20, 22], [22, 20, 18, 16, 14, 13, 11, 12, 15, 10, 17, 8, 6, 7, 4, 1, 0, 2, 3, 5, 9, 19, 21, 29], [21, 19, 9, 5, 3, 2, 0, 1, 4, 7, 6, 8, 17, 10, 15, 12, 11, 13, 14, 16, 18, 20, 22], [31, 29, 21, 19, 9, 5, 3, 2, 0, 1, 4, 7, 6, 8, 17, 10, 15, 12, 11, 13, 14, 16, 18, 20, 22, 30], [30, 22, 20, 18, 16, 14, 13, 11, 12, 15, 10, 17, 8, 6, 7, 4, 1, 0, 2, 3, 5, 9, 19, 21, 29, 31, 32], [32, 31, 29, 30, 33, 27, 25, 26, 23, 21, 19, 9, 5, 3, 2, 0, 1, 4, 7, 6, 8, 17, 10, 15, 12, 11, 13, 14, 16, 18, 20, 22, 24, 28], [28, 24, 22, 20, 18, 16, 14, 13, 11, 12, 15, 10, 17, 8, 6, 7, 4, 1, 0, 2, 3, 5, 9, 19, 21, 23, 26, 25, 27, 33, 30, 29, 31, 32, 34], [34, 32, 31, 29, 30, 33, 27, 25, 26, 23, 24, 28, 35, 21, 19, 9, 5, 3, 2, 0, 1, 4, 7, 6, 8, 17, 10, 15, 12, 11, 13, 14, 16, 18, 20, 22], [22, 20, 21, 35, 28, 24, 23, 26, 25, 27, 33, 30, 29, 31, 32, 34, 36, 18, 16, 14, 13, 11, 12, 15, 10, 17, 8, 6, 7, 4, 1, 0, 2, 3, 5, 9, 19]] (by decide +kernel) rfl fun K R hK hR => ?_; simp only [List.filterMap_cons, List.filterMap_nil, List.getElem?_cons_zero, List.getElem?_cons_succ, List.cons_append, List.nil_append]; simp (maxSteps := 10000000) only [go_sem, h5, tups_get hx]; (try go_ints); (try simp only [go_sem, h5, tups_get hx]); (repeat refine And.intro side ?_); (first | refine hK _ ?_ | refine hR _ _ ?_); clear hK hR K R)
   refine D_callDg rfl (by simp only [go_sem] <;> exact rfl) (fun e => in_spec n x hxl) rfl rfl rfl (fun e => by (try simp only [go_sem] at e); simp only [go_sem, e] <;> (try simp only [go_sem]) <;> first | exact LeA.refl _ | exact Le.refl _) rfl rfl rfl rfl ?_
   (refine D_reg fun K R hK hR => ?_; simp (maxSteps := 10000000) only [go_sem, h5, e1, tups_get hx, tups_get hy]; (try go_ints); (try simp only [go_sem, h5, e1, tups_get hx, tups_get hy]); (repeat refine And.intro side ?_); (first | refine hK _ ?_ | refine hR _ _ ?_); clear hK hR K R)
   refine D_callDg rfl (by simp only [go_sem] <;> exact rfl) (fun e => less_spec y x hyl (by have := e; simp [bne] at this; have := hya (by omega); omega)) rfl rfl rfl (fun e => by (try simp only [go_sem] at e); simp only [go_sem, e] <;> (try simp only [go_sem]) <;> first | exact LeA.refl _ | exact Le.refl _) rfl rfl rfl rfl ?_
   (refine D_reg fun K R hK hR => ?_; simp (maxSteps := 10000000) only [go_sem]; (try go_ints); (repeat refine And.intro side ?_); (first | refine hK _ ?_ | refine hR _ _ ?_); clear hK hR K R)
   repeat (first | refine nav ?_ | refine bo ?_)
   refine W_cond (by simp only [go_sem] <;> exact rfl) (fun hc => ?_) (fun hc => ?_)
   ·have hno : tupOk n r.arity r.tuples k = false := by
     rw [hspec]
     rw [hk0] at hc
     simp only [Bool.or_eq_true, Bool.and_eq_true, Bool.not_eq_true', Bool.not_eq_false', Bool.and_eq_false_iff, Bool.or_eq_false_iff, decide_eq_true_eq, decide_eq_false_iff_not, Bool.not_eq_eq_eq_not, Bool.not_true, Bool.not_false, bne_iff_ne, ne_eq] at hc
     rcases hc with (hc | hc) | ⟨hc1, hc2⟩
     ·simp [hc]
     ·simp [hc]
     ·by_cases hxa : (x.length : Int) = r.arity
      ·have hk1 : 0 < k := by first | omega | (simp at hc1; omega)
       rw [lessL_cmp y x (by have := hya hk1; omega)] at hc2
       rw [hc2, decide_eq_false (show ¬ k = 0 by omega)]
       simp
      ·simp [hxa]
    repeat (first | refine nav ?_ | refine bo ?_)
    (refine wr fun K R hK hR => ?_; simp (maxSteps := 10000000) only [go_sem]; (try go_ints); (repeat refine And.intro side ?_); (first | refine hK _ ?_ | refine hR _ _ ?_); clear hK hR K R)
    repeat (first | refine nav ?_ | refine bo ?_)
    refine endQ_data (by simp only [go_sem] <;> exact rfl) (Le.of_eq ?_) rfl
    rw [hyes, AV.b.injEq, eq_comm, tuplesF, List.all_eq_false]
    exact ⟨k, by simpa using hb, by simp [hno]⟩
   ·have hyes' : tupOk n r.arity r.tuples k = true := by
     rw [hspec]
     rw [hk0] at hc
     simp only [Bool.or_eq_true, Bool.and_eq_true, Bool.not_eq_true', Bool.not_eq_false', Bool.and_eq_false_iff, Bool.or_eq_false_iff, decide_eq_true_eq, decide_eq_false_iff_not, Bool.not_eq_eq_eq_not, Bool.not_true, Bool.not_false, bne_eq_false_iff_eq] at hc
     obtain ⟨⟨hc1, hc2⟩, hc3⟩ := hc
     rw [hc2, Bool.and_true]
     by_cases hk1 : k = 0
     ·simp [hc1, hk1]
     ·rw [← lessL_cmp y x (by have := hya (by omega); omega)]
      rcases hc3 with h | h
      ·simp [hk1] at h
      ·simp [hc1, h]
    repeat (first | refine nav ?_ | refine bo ?_)
    (refine wr fun K R hK hR => ?_; simp (maxSteps := 10000000) only [go_sem, h5]; (try go_ints); (try simp only [go_sem, h5]); (repeat refine And.intro side ?_); (first | refine hK _ ?_ | refine hR _ _ ?_); clear hK hR K R)
    refine forQ_normal (r.tuples.length - (k + 1)) (by omega) ⟨k + 1, ?_⟩
    ((try simp only [go_sem]); (repeat' refine And.intro ?_ ?_) <;> (try first | with_reducible rfl | omega | with_reducible assumption | (simp; done)))
    intro i hik
    rcases Nat.lt_succ_iff_lt_or_eq.1 hik with h | rfl
    ·exact hi i h
    ·exact hyes'
  ·simp at hb
   have : k = r.tuples.length := by omega
   subst this
   repeat (first | refine nav ?_ | refine bo ?_)
   (refine wr fun K R hK hR => ?_; simp (maxSteps := 10000000) only [go_sem]; (try go_ints); (repeat refine And.intro side ?_); (first | refine hK _ ?_ | refine hR _ _ ?_); clear hK hR K R)
   repeat (first | refine nav ?_ | refine bo ?_)
   refine endQ_data (by simp only [go_sem] <;> exact rfl) (Le.of_eq ?_) rfl
   rw [hyes, AV.b.injEq, eq_comm, tuplesF, List.all_eq_true]
   exact fun i hi' => hi i (by simpa using hi')
def findF (s : StrD) (name : ByteArray) : Int := idxI (fun q : RelD => q.name.toList == name.toList) s.rels 0
theorem find_spec (s : StrD) (hs : s.Ok) (name : ByteArray) : ACallsD Try.prog 44 [.agg [.i .i64 s.size, .sl 3 (rels s.rels)], .s name] (.i .i64 (findF s name)) := by
 have hlen := hs.len
 refine ACalls_of' (n := 22) (rs := [.tmp 4]) (show Try.prog.funcs[44]? = some Try.f44 by kernel_rfl) rfl rfl rfl (by simp) (by decide +kernel) ?_
 repeat (first | refine nav ?_ | refine bo ?_)
 (refine wr fun K R hK hR => ?_; simp (maxSteps := 10000000) only [go_sem]; (try go_ints); (repeat refine And.intro side ?_); (first | refine hK _ ?_ | refine hR _ _ ?_); clear hK hR K R)
 repeat (first | refine nav ?_ | refine bo ?_)
 (refine wr fun K R hK hR => ?_; simp (maxSteps := 10000000) only [go_sem]; (try go_ints); (repeat refine And.intro side ?_); (first | refine hK _ ?_ | refine hR _ _ ?_); clear hK hR K R)
 repeat (first | refine nav ?_ | refine bo ?_)
 refine W_for 6 22 [5] (fun m t o => ∃ k : Nat, [Ob.cells 2 [[.i .i64 s.size, .sl 3 (rels s.rels)]]] = o ∧ t 5 = .i .i64 k ∧ m = s.rels.length - k ∧ k ≤ s.rels.length ∧ idxI (fun q : RelD => q.name.toList == name.toList) (s.rels.drop k) k = findF s name) s.rels.length ⟨0, rfl, by simp only [go_sem] <;> rfl, by omega, Nat.zero_le _, rfl⟩ ?_
 rintro m t o ⟨k, rfl, h5, rfl, hk, hi⟩
 repeat (first | refine nav ?_ | refine bo ?_)
 (refine wr fun K R hK hR => ?_; simp (maxSteps := 10000000) only [go_sem, h5]; (try go_ints); (try simp only [go_sem, h5]); (repeat refine And.intro side ?_); (first | refine hK _ ?_ | refine hR _ _ ?_); clear hK hR K R)
 repeat (first | refine nav ?_ | refine bo ?_)
 refine W_cond (by simp only [go_sem] <;> exact rfl) (fun hb => ?_) (fun hb => ?_)
 ·simp at hb
  obtain ⟨r, hr⟩ : ∃ r, s.rels[k]? = some r := ⟨_, List.getElem?_eq_getElem hb⟩
  rw [drop_cons hr, idxI] at hi
  repeat (first | refine nav ?_ | refine bo ?_)
  (refine wr fun K R hK hR => ?_; simp (maxSteps := 10000000) only [go_sem, h5, rels_get hr]; (try go_ints); (try simp only [go_sem, h5, rels_get hr]); (repeat refine And.intro side ?_); (first | refine hK _ ?_ | refine hR _ _ ?_); clear hK hR K R)
  repeat (first | refine nav ?_ | refine bo ?_)
  refine W_cond (by simp only [go_sem] <;> exact rfl) (fun hd => ?_) (fun hd => ?_)
  ·rw [if_pos hd] at hi
   repeat (first | refine nav ?_ | refine bo ?_)
   (refine wr fun K R hK hR => ?_; simp (maxSteps := 10000000) only [go_sem, h5]; (try go_ints); (try simp only [go_sem, h5]); (repeat refine And.intro side ?_); (first | refine hK _ ?_ | refine hR _ _ ?_); clear hK hR K R)
   repeat (first | refine nav ?_ | refine bo ?_)
   refine endQ_data (by simp only [go_sem] <;> exact rfl) (Le.of_eq ?_) rfl
   rw [hi]
  ·rw [if_neg (by simp [hd])] at hi
   repeat (first | refine nav ?_ | refine bo ?_)
   (refine wr fun K R hK hR => ?_; simp (maxSteps := 10000000) only [go_sem, h5]; (try go_ints); (try simp only [go_sem, h5]); (repeat refine And.intro side ?_); (first | refine hK _ ?_ | refine hR _ _ ?_); clear hK hR K R)
   refine forQ_normal (s.rels.length - (k + 1)) (by omega) ⟨k + 1, ?_⟩
   ((try simp only [go_sem]); (repeat' refine And.intro ?_ ?_) <;> (try first | with_reducible rfl | omega | with_reducible assumption | (simp; done)))
   rw [Int.natCast_add, Int.natCast_one]; exact hi
 ·simp at hb
  have : k = s.rels.length := by omega
  subst this
  rw [List.drop_length, idxI] at hi
  repeat (first | refine nav ?_ | refine bo ?_)
  (refine wr fun K R hK hR => ?_; simp (maxSteps := 10000000) only [go_sem]; (try go_ints); (repeat refine And.intro side ?_); (first | refine hK _ ?_ | refine hR _ _ ?_); clear hK hR K R)
  repeat (first | refine nav ?_ | refine bo ?_)
  refine endQ_data (by simp only [go_sem] <;> exact rfl) (Le.of_eq ?_) rfl
  rw [← hi]
end Go.AW
namespace Go.AW
open Go Go.Proofs TyTry Go.IntWalk
set_option linter.unusedSimpArgs false
set_option linter.unusedVariables false
set_option maxRecDepth 10000
theorem rvalid_spec (s : StrD) (hs : s.Ok) : ACallsD Try.prog 32 [.agg [.i .i64 s.size, .sl 3 (rels s.rels)]] (.b (validF s)) := by
 refine ACalls_of' (n := 53) (rs := [.tmp 2]) (show Try.prog.funcs[32]? = some Try.f32 by kernel_rfl) rfl rfl rfl (by simp) (by decide +kernel) ?_
 repeat (first | refine nav ?_ | refine bo ?_)
 (refine wr fun K R hK hR => ?_; simp (maxSteps := 10000000) only [go_sem]; (try go_ints); (repeat refine And.intro side ?_); (first | refine hK _ ?_ | refine hR _ _ ?_); clear hK hR K R)
 repeat (first | refine nav ?_ | refine bo ?_)
 (refine wr fun K R hK hR => ?_; simp (maxSteps := 10000000) only [go_sem]; (try go_ints); (repeat refine And.intro side ?_); (first | refine hK _ ?_ | refine hR _ _ ?_); clear hK hR K R)
 repeat (first | refine nav ?_ | refine bo ?_)
 refine W_cond (by simp only [go_sem] <;> exact rfl) (fun hb => ?_) (fun hb => ?_)
 ·simp only [Bool.or_eq_true, Bool.and_eq_true, Bool.not_eq_true', Bool.not_eq_false', Bool.and_eq_false_iff, Bool.or_eq_false_iff, decide_eq_true_eq, decide_eq_false_iff_not, Bool.not_eq_eq_eq_not, Bool.not_true, Bool.not_false] at hb
  repeat (first | refine nav ?_ | refine bo ?_)
  (refine wr fun K R hK hR => ?_; simp (maxSteps := 10000000) only [go_sem]; (try go_ints); (repeat refine And.intro side ?_); (first | refine hK _ ?_ | refine hR _ _ ?_); clear hK hR K R)
  repeat (first | refine nav ?_ | refine bo ?_)
  refine endQ_data (by simp only [go_sem] <;> exact rfl) (Le.of_eq ?_) rfl
  rw [AV.b.injEq, eq_comm, validF]
  rcases hb with (hb | hb) | hb
  ·rw [decide_eq_false (show ¬ 1 ≤ s.size by omega)]; simp
  ·rw [decide_eq_false (show ¬ s.size ≤ 64 by omega)]; simp
  ·rw [decide_eq_false (show ¬ s.rels.length ≤ 8 by omega)]; simp
 ·simp only [Bool.or_eq_true, Bool.and_eq_true, Bool.not_eq_true', Bool.not_eq_false', Bool.and_eq_false_iff, Bool.or_eq_false_iff, decide_eq_true_eq, decide_eq_false_iff_not, Bool.not_eq_eq_eq_not, Bool.not_true, Bool.not_false] at hb
  obtain ⟨⟨hb1, hb2⟩, hb3⟩ := hb
  repeat (first | refine nav ?_ | refine bo ?_)
  (refine wr fun K R hK hR => ?_; simp (maxSteps := 10000000) only [go_sem]; (try go_ints); (repeat refine And.intro side ?_); (first | refine hK _ ?_ | refine hR _ _ ?_); clear hK hR K R)
  repeat (first | refine nav ?_ | refine bo ?_)
  refine W_for 19 53 [3, 4] (fun m t o => ∃ k : Nat, [Ob.cells 2 [[.i .i64 s.size, .sl 3 (rels s.rels)]]] = o ∧ t 3 = .i .i64 k ∧ m = s.rels.length - k ∧ k ≤ s.rels.length ∧ ∀ i < k, ∀ r, s.rels[i]? = some r → (relOk s.size r && !(s.rels.take i).any fun q => q.name.toList == r.name.toList) = true) s.rels.length ⟨0, rfl, by simp only [go_sem] <;> rfl, by omega, Nat.zero_le _, by simp⟩ ?_
  rintro m t o ⟨k, rfl, h3, rfl, hk, hi⟩
  repeat (first | refine nav ?_ | refine bo ?_)
  (refine wr fun K R hK hR => ?_; simp (maxSteps := 10000000) only [go_sem, h3]; (try go_ints); (try simp only [go_sem, h3]); (repeat refine And.intro side ?_); (first | refine hK _ ?_ | refine hR _ _ ?_); clear hK hR K R)
  repeat (first | refine nav ?_ | refine bo ?_)
  refine W_cond (by simp only [go_sem] <;> exact rfl) (fun hb => ?_) (fun hb => ?_)
  ·simp at hb
   obtain ⟨r, hr⟩ : ∃ r, s.rels[k]? = some r := ⟨_, List.getElem?_eq_getElem hb⟩
   have hro := hs.rel r (List.mem_of_getElem? hr)
   repeat (first | refine nav ?_ | refine bo ?_)
   (refine W_dreg (by decide +kernel) [] [0, 1, 2, 3, 4, 5, 6, 7, 8] [[], [0], [], [2], [], [4, 2, 3], [3, 2, 4, 5], [5, 4, 2, 3, 6, 0, 1], [1, 0, 6, 3, 2, 4, 5, 7]] (by decide +kernel) rfl fun K R hK hR => ?_; simp only [List.filterMap_cons, List.filterMap_nil, List.getElem?_cons_zero, List.getElem?_cons_succ, List.cons_append, List.nil_append]; simp (maxSteps := 10000000) only [go_sem, h3, rels_get hr]; (try go_ints); (try simp only [go_sem, h3, rels_get hr]); (repeat refine And.intro side ?_); (first | refine hK _ ?_ | refine hR _ _ ?_); clear hK hR K R)
   refine D_callD (rel_spec s.size (by omega) (by omega) r hro) rfl rfl rfl (by first | (simp only [go_sem] <;> first | exact LeA.refl _ | exact Le.refl _) | exact LeA.refl _) rfl rfl rfl rfl ?_
   (refine D_reg fun K R hK hR => ?_; simp (maxSteps := 10000000) only [go_sem]; (try go_ints); (repeat refine And.intro side ?_); (first | refine hK _ ?_ | refine hR _ _ ?_); clear hK hR K R)
   repeat (first | refine nav ?_ | refine bo ?_)
   refine W_cond (by simp only [go_sem] <;> exact rfl) (fun hc => ?_) (fun hc => ?_)
   ·have hno : relOk s.size r = false := by simpa using hc
    repeat (first | refine nav ?_ | refine bo ?_)
    (refine wr fun K R hK hR => ?_; simp (maxSteps := 10000000) only [go_sem]; (try go_ints); (repeat refine And.intro side ?_); (first | refine hK _ ?_ | refine hR _ _ ?_); clear hK hR K R)
    repeat (first | refine nav ?_ | refine bo ?_)
    refine endQ_data (by simp only [go_sem] <;> exact rfl) (Le.of_eq ?_) rfl
    rw [AV.b.injEq, eq_comm, validF]
    simp only [Bool.and_eq_false_iff]
    right
    rw [List.all_eq_false]
    exact ⟨k, by simpa using hb, by simp [hr, hno]⟩
   ·have hyes : relOk s.size r = true := by simpa using hc
    repeat (first | refine nav ?_ | refine bo ?_)
    (refine wr fun K R hK hR => ?_; simp (maxSteps := 10000000) only [go_sem]; (try go_ints); (repeat refine And.intro side ?_); (first | refine hK _ ?_ | refine hR _ _ ?_); clear hK hR K R)
    repeat (first | refine nav ?_ | refine bo ?_)
    refine W_for 35 53 [4] (fun m t o => ∃ j : Nat, [Ob.cells 2 [[.i .i64 s.size, .sl 3 (rels s.rels)]]] = o ∧ t 4 = .i .i64 j ∧ m = k - j ∧ j ≤ k ∧ ∀ i < j, ∀ q, s.rels[i]? = some q → (q.name.toList == r.name.toList) = false) k ⟨0, rfl, by simp only [go_sem] <;> rfl, by omega, Nat.zero_le _, by simp⟩ ?_
    rintro m t2 o ⟨j, rfl, h4, rfl, hj, hji⟩
    repeat (first | refine nav ?_ | refine bo ?_)
    (refine wr fun K R hK hR => ?_; simp (maxSteps := 10000000) only [go_sem, h3, h4]; (try go_ints); (try simp only [go_sem, h3, h4]); (repeat refine And.intro side ?_); (first | refine hK _ ?_ | refine hR _ _ ?_); clear hK hR K R)
    repeat (first | refine nav ?_ | refine bo ?_)
    refine W_cond (by simp only [go_sem] <;> exact rfl) (fun hb => ?_) (fun hb => ?_)
    ·simp at hb
     obtain ⟨q, hq⟩ : ∃ q, s.rels[j]? = some q := ⟨_, List.getElem?_eq_getElem (by omega)⟩
     repeat (first | refine nav ?_ | refine bo ?_)
     (refine W_dreg (by decide +kernel) [] [0, 1, 2, 3, 4, 5, 6, 7, 8, 9, 10, 11, 12] [[], [0], [], [2, 0, 1], [1, 0, 2, 3], [3, 2, 0, 1, 4], [], [6], [], [8, 6, 7], [7, 6, 8, 9], [9, 8, 6, 7, 10], [10, 7, 6, 8, 9, 11, 4, 1, 0, 2, 3, 5]] (by decide +kernel) rfl fun K R hK hR => ?_; simp only [List.filterMap_cons, List.filterMap_nil, List.getElem?_cons_zero, List.getElem?_cons_succ, List.cons_append, List.nil_append]; simp (maxSteps := 10000000) only [go_sem, h3, h4, rels_get hr, rels_get hq]; (try go_ints); (try simp only [go_sem, h3, h4, rels_get hr, rels_get hq]); (repeat refine And.intro side ?_); (first | refine hK _ ?_ | refine hR _ _ ?_); clear hK hR K R)
     repeat (first | refine nav ?_ | refine bo ?_)
     refine W_cond (by simp only [go_sem] <;> exact rfl) (fun hd => ?_) (fun hd => ?_)
     ·repeat (first | refine nav ?_ | refine bo ?_)
      (refine wr fun K R hK hR => ?_; simp (maxSteps := 10000000) only [go_sem]; (try go_ints); (repeat refine And.intro side ?_); (first | refine hK _ ?_ | refine hR _ _ ?_); clear hK hR K R)
      repeat (first | refine nav ?_ | refine bo ?_)
      refine endQ_data (by simp only [go_sem] <;> exact rfl) (Le.of_eq ?_) rfl
      rw [AV.b.injEq, eq_comm, validF]
      simp only [Bool.and_eq_false_iff]
      right
      rw [List.all_eq_false]
      refine ⟨k, by simp; omega, ?_⟩
      have : (s.rels.take k).any (fun q => q.name.toList == r.name.toList) = true := by
       rw [List.any_eq_true]
       exact ⟨q, List.mem_of_getElem? (i := j) (by rw [List.getElem?_take, if_pos hb]; exact hq), hd⟩
      simp only [hr, this]
      simp
     ·repeat (first | refine nav ?_ | refine bo ?_)
      (refine wr fun K R hK hR => ?_; simp (maxSteps := 10000000) only [go_sem, h4]; (try go_ints); (try simp only [go_sem, h4]); (repeat refine And.intro side ?_); (first | refine hK _ ?_ | refine hR _ _ ?_); clear hK hR K R)
      refine forQ_normal (k - (j + 1)) (by omega) ⟨j + 1, ?_⟩
      ((try simp only [go_sem]); (repeat' refine And.intro ?_ ?_) <;> (try first | with_reducible rfl | omega | with_reducible assumption | (simp; done)))
      intro i hij q' hq'
      rcases Nat.lt_succ_iff_lt_or_eq.1 hij with h | rfl
      ·exact hji i h q' hq'
      ·rw [hq] at hq'
       obtain rfl := Option.some.inj hq'
       exact hd
    ·simp at hb
     have : j = k := by omega
     subst this
     rw [mix_mix rfl]
     repeat (first | refine nav ?_ | refine bo ?_)
     (refine wr fun K R hK hR => ?_; simp (maxSteps := 10000000) only [go_sem, h3]; (try go_ints); (try simp only [go_sem, h3]); (repeat refine And.intro side ?_); (first | refine hK _ ?_ | refine hR _ _ ?_); clear hK hR K R)
     refine forQ_normal (s.rels.length - (j + 1)) (by omega) ⟨j + 1, ?_⟩
     ((try simp only [go_sem]); (repeat' refine And.intro ?_ ?_) <;> (try first | with_reducible rfl | omega | with_reducible assumption | (simp; done)))
     intro i hik r' hr'
     rcases Nat.lt_succ_iff_lt_or_eq.1 hik with h | rfl
     ·exact hi i h r' hr'
     ·rw [hr] at hr'
      obtain rfl := Option.some.inj hr'
      rw [hyes, Bool.true_and, Bool.not_eq_true', List.any_eq_false]
      intro q hq
      obtain ⟨i', hi'⟩ := List.getElem?_of_mem hq
      rw [List.getElem?_take] at hi'
      split at hi'
      ·rename_i hlt
       rw [hji i' hlt q hi']; simp
      ·cases hi'
  ·simp at hb
   have : k = s.rels.length := by omega
   subst this
   repeat (first | refine nav ?_ | refine bo ?_)
   (refine wr fun K R hK hR => ?_; simp (maxSteps := 10000000) only [go_sem]; (try go_ints); (repeat refine And.intro side ?_); (first | refine hK _ ?_ | refine hR _ _ ?_); clear hK hR K R)
   repeat (first | refine nav ?_ | refine bo ?_)
   refine endQ_data (by simp only [go_sem] <;> exact rfl) (Le.of_eq ?_) rfl
   rw [AV.b.injEq, eq_comm, validF, decide_eq_true (show 1 ≤ s.size by omega), decide_eq_true (show s.size ≤ 64 by omega), decide_eq_true (show s.rels.length ≤ 8 by omega)]
   simp only [Bool.true_and]
   rw [List.all_eq_true]
   intro i hi'
   have hlt : i < s.rels.length := by simpa using hi'
   rw [List.getElem?_eq_getElem hlt]
   exact hi i hlt _ (List.getElem?_eq_getElem hlt)
theorem findF_cases (s : StrD) (name : ByteArray) : (findF s name = -1 ∧ ∀ q ∈ s.rels, (q.name.toList == name.toList) = false) ∨ ∃ (j : Nat) (q : RelD), findF s name = j ∧ s.rels[j]? = some q ∧ (q.name.toList == name.toList) = true := by
 have key : ∀ (l : List RelD) (k : Nat), (idxI (fun q : RelD => q.name.toList == name.toList) l k = -1 ∧ ∀ q ∈ l, (q.name.toList == name.toList) = false) ∨ ∃ (j : Nat) (q : RelD), idxI (fun q : RelD => q.name.toList == name.toList) l k = ((k + j : Nat) : Int) ∧ l[j]? = some q ∧ (q.name.toList == name.toList) = true := by
  intro l
  induction l with
  | nil => intro k; exact .inl ⟨rfl, fun q hq => by simp at hq⟩
  | cons x l ih =>
   intro k
   rw [idxI]
   by_cases hx : (x.name.toList == name.toList) = true
   ·rw [if_pos hx]; exact .inr ⟨0, x, by simp, rfl, hx⟩
   ·rw [if_neg hx]
    have := ih (k + 1)
    rw [Int.natCast_add, Int.natCast_one] at this
    rcases this with ⟨a, b⟩ | ⟨j, q, a, b, c⟩
    ·refine .inl ⟨a, fun q hq => ?_⟩
     rcases List.mem_cons.1 hq with rfl | hq
     ·simpa using hx
     ·exact b q hq
    ·refine .inr ⟨j + 1, q, ?_, by simpa using b, c⟩
     rw [a]; omega
 have := key s.rels 0
 simpa [findF] using this
def fitsR (l : List SymD) (s : StrD) : Bool := l.all fun x => match s.rels[(findF s x.name).toNat]? with | some q => decide (0 ≤ findF s x.name) && (q.arity == x.arity) | none => false
theorem fitsR_eq {s : StrD} (hv : validF s = true) (l : List SymD) : fitsR l s = fitsF l s := by
 unfold fitsR fitsF
 refine List.all_congr rfl fun x => ?_
 rcases findF_cases s x.name with ⟨a, b⟩ | ⟨j, q, a, b, c⟩
 ·rw [a]
  have : (s.rels.any fun q => q.name.toList == x.name.toList && (q.arity == x.arity)) = false := by
   rw [List.any_eq_false]
   intro q hq
   rw [b q hq]; simp
  rw [this]
  split <;> simp
 ·rw [a, Int.toNat_natCast, b]
  simp only [Int.natCast_nonneg, decide_true, Bool.true_and]
  rw [Bool.eq_iff_iff]
  constructor
  ·intro h
   rw [List.any_eq_true]
   exact ⟨q, List.mem_of_getElem? b, by rw [c, h]; rfl⟩
  ·intro h
   rw [List.any_eq_true] at h
   obtain ⟨q', hq', h⟩ := h
   rw [Bool.and_eq_true] at h
   obtain ⟨i, hi⟩ := List.getElem?_of_mem hq'
   have uniq : ∀ (i j : Nat) (p q : RelD), i < j → s.rels[i]? = some p → s.rels[j]? = some q → (p.name.toList == q.name.toList) = false := by
    intro i j p q hij hp hq
    simp only [validF, Bool.and_eq_true, List.all_eq_true, List.mem_range] at hv
    have h1 := hv.2 j (List.getElem?_eq_some_iff.1 hq).1
    rw [hq] at h1
    simp only [Bool.and_eq_true, Bool.not_eq_true', List.any_eq_false] at h1
    have := h1.2 p (List.mem_of_getElem? (i := i) (by rw [List.getElem?_take, if_pos hij]; exact hp))
    simpa using this
   have e1 : q'.name.toList = x.name.toList := by simpa using h.1
   have e2 : q.name.toList = x.name.toList := by simpa using c
   rcases Nat.lt_trichotomy i j with hl | rfl | hl
   ·have := uniq i j q' q hl hi b
    rw [e1, e2] at this
    simp at this
   ·rw [b] at hi
    obtain rfl := Option.some.inj hi
    exact h.2
   ·have := uniq j i q q' hl b hi
    rw [e1, e2] at this
    simp at this
theorem rfits_spec (l : List SymD) (hl : l.length ≤ 1099511627776) (s : StrD) (hs : s.Ok) : ACallsD Try.prog 58 [.agg [.i .i64 s.size, .sl 3 (rels s.rels)], .sl 2 (syms l)] (.b (fitsR l s)) := by
 have hlen := hs.len
 refine ACalls_of' (n := 36) (rs := [.tmp 4]) (show Try.prog.funcs[58]? = some Try.f58 by kernel_rfl) rfl rfl rfl (by simp) (by decide +kernel) ?_
 repeat (first | refine nav ?_ | refine bo ?_)
 (refine wr fun K R hK hR => ?_; simp (maxSteps := 10000000) only [go_sem]; (try go_ints); (repeat refine And.intro side ?_); (first | refine hK _ ?_ | refine hR _ _ ?_); clear hK hR K R)
 repeat (first | refine nav ?_ | refine bo ?_)
 (refine wr fun K R hK hR => ?_; simp (maxSteps := 10000000) only [go_sem]; (try go_ints); (repeat refine And.intro side ?_); (first | refine hK _ ?_ | refine hR _ _ ?_); clear hK hR K R)
 repeat (first | refine nav ?_ | refine bo ?_)
 refine W_for 7 36 [5, 6] (fun m t o => ∃ k : Nat, [Ob.cells 2 [[.i .i64 s.size, .sl 3 (rels s.rels)]]] = o ∧ t 5 = .i .i64 k ∧ m = l.length - k ∧ k ≤ l.length ∧ fitsR (l.drop k) s = fitsR l s) l.length ⟨0, rfl, by simp only [go_sem] <;> rfl, by omega, Nat.zero_le _, rfl⟩ ?_
 rintro m t o ⟨k, rfl, h5, rfl, hk, hi⟩
 repeat (first | refine nav ?_ | refine bo ?_)
 (refine wr fun K R hK hR => ?_; simp (maxSteps := 10000000) only [go_sem, h5]; (try go_ints); (try simp only [go_sem, h5]); (repeat refine And.intro side ?_); (first | refine hK _ ?_ | refine hR _ _ ?_); clear hK hR K R)
 repeat (first | refine nav ?_ | refine bo ?_)
 refine W_cond (by simp only [go_sem] <;> exact rfl) (fun hb => ?_) (fun hb => ?_)
 ·simp at hb
  obtain ⟨x, hx⟩ : ∃ x, l[k]? = some x := ⟨_, List.getElem?_eq_getElem hb⟩
  rw [drop_cons hx, show fitsR (x :: l.drop (k + 1)) s = ((match s.rels[(findF s x.name).toNat]? with | some q => decide (0 ≤ findF s x.name) && (q.arity == x.arity) | none => false) && fitsR (l.drop (k + 1)) s) from rfl] at hi
  repeat (first | refine nav ?_ | refine bo ?_)
  (refine W_dreg (by decide +kernel) [] [0, 1, 2, 3, 4, 5, 6, 7] [[], [], [], [2, 1], [1, 2, 3], [3, 2, 1, 4], [4, 1, 2, 3, 5, 0], [0, 5, 3, 2, 1, 4, 6]] (by decide +kernel) rfl fun K R hK hR => ?_; simp only [List.filterMap_cons, List.filterMap_nil, List.getElem?_cons_zero, List.getElem?_cons_succ, List.cons_append, List.nil_append]; simp (maxSteps := 10000000) only [go_sem, h5, syms_get hx]; (try go_ints); (try simp only [go_sem, h5, syms_get hx]); (repeat refine And.intro side ?_); (first | refine hK _ ?_ | refine hR _ _ ?_); clear hK hR K R)
  refine D_callD (find_spec s hs x.name) rfl rfl rfl (by first | (simp only [go_sem] <;> first | exact LeA.refl _ | exact Le.refl _) | exact LeA.refl _) rfl rfl rfl rfl ?_
  (refine D_reg fun K R hK hR => ?_; simp (maxSteps := 10000000) only [go_sem]; (try go_ints); (repeat refine And.intro side ?_); (first | refine hK _ ?_ | refine hR _ _ ?_); clear hK hR K R)
  rcases findF_cases s x.name with ⟨a, b⟩ | ⟨j, q, a, b, c⟩
  ·rw [a] at hi
   repeat (first | refine nav ?_ | refine bo ?_)
   have h0 : (((rels s.rels).getD 0 []).getD 1 .any).dat = .any ∨ ∃ z, (((rels s.rels).getD 0 []).getD 1 .any).dat = .i .i64 z := by
    cases s.rels with
    | nil => exact .inl rfl
    | cons r l => exact .inr ⟨r.arity, rfl⟩
   have hno : fitsR l s = false := by
    rw [← hi]
    cases s.rels[((-1 : Int)).toNat]? <;> simp
   rcases h0 with h0 | ⟨z, h0⟩
   ·(refine W_dreg (by decide +kernel) [] [0, 1, 2, 3, 4, 5, 6, 7, 8, 9, 10, 11, 12, 13, 14, 15] [[], [0], [0, 1], [1, 0, 2], [2, 0, 1, 3], [1, 0, 2], [5, 3, 1, 0, 2, 4], [4, 2, 0, 1, 3, 5, 6], [6, 5, 3, 1, 0, 2, 4, 7], [1, 0, 2], [1, 0, 2], [10, 2, 0, 1, 9], [9, 1, 0, 2, 10, 11], [11, 10, 2, 0, 1, 9, 12], [12, 9, 10, 11, 13, 7, 4, 2, 0, 1, 3, 5, 6, 8], [8, 6, 5, 3, 4, 7, 13, 11, 10, 9, 12, 14, 1, 0, 2]] (by decide +kernel) rfl fun K R hK hR => ?_; simp only [List.filterMap_cons, List.filterMap_nil, List.getElem?_cons_zero, List.getElem?_cons_succ, List.cons_append, List.nil_append]; simp (maxSteps := 10000000) only [go_sem, a, h5, syms_get hx, h0]; (try go_ints); (try simp only [go_sem, a, h5, syms_get hx, h0]); (repeat refine And.intro side ?_); (first | refine hK _ ?_ | refine hR _ _ ?_); clear hK hR K R)
    repeat (first | refine nav ?_ | refine bo ?_)
    refine W_cond (b := true) (by simp only [go_sem] <;> exact rfl) (fun _ => ?_) (fun hd => by cases hd)
    repeat (first | refine nav ?_ | refine bo ?_)
    (refine wr fun K R hK hR => ?_; simp (maxSteps := 10000000) only [go_sem]; (try go_ints); (repeat refine And.intro side ?_); (first | refine hK _ ?_ | refine hR _ _ ?_); clear hK hR K R)
    repeat (first | refine nav ?_ | refine bo ?_)
    refine endQ_data (by simp only [go_sem] <;> exact rfl) (Le.of_eq ?_) rfl
    rw [hno]
   ·(refine W_dreg (by decide +kernel) [] [0, 1, 2, 3, 4, 5, 6, 7, 8, 9, 10, 11, 12, 13, 14, 15] [[], [0], [0, 1], [1, 0, 2], [2, 0, 1, 3], [1, 0, 2], [5, 3, 1, 0, 2, 4], [4, 2, 0, 1, 3, 5, 6], [6, 5, 3, 1, 0, 2, 4, 7], [1, 0, 2], [1, 0, 2], [10, 2, 0, 1, 9], [9, 1, 0, 2, 10, 11], [11, 10, 2, 0, 1, 9, 12], [12, 9, 10, 11, 13, 7, 4, 2, 0, 1, 3, 5, 6, 8], [8, 6, 5, 3, 4, 7, 13, 11, 10, 9, 12, 14, 1, 0, 2]] (by decide +kernel) rfl fun K R hK hR => ?_; simp only [List.filterMap_cons, List.filterMap_nil, List.getElem?_cons_zero, List.getElem?_cons_succ, List.cons_append, List.nil_append]; simp (maxSteps := 10000000) only [go_sem, a, h5, syms_get hx, h0]; (try go_ints); (try simp only [go_sem, a, h5, syms_get hx, h0]); (repeat refine And.intro side ?_); (first | refine hK _ ?_ | refine hR _ _ ?_); clear hK hR K R)
    repeat (first | refine nav ?_ | refine bo ?_)
    refine W_cond (b := true) (by simp only [go_sem] <;> exact rfl) (fun _ => ?_) (fun hd => by cases hd)
    repeat (first | refine nav ?_ | refine bo ?_)
    (refine wr fun K R hK hR => ?_; simp (maxSteps := 10000000) only [go_sem]; (try go_ints); (repeat refine And.intro side ?_); (first | refine hK _ ?_ | refine hR _ _ ?_); clear hK hR K R)
    repeat (first | refine nav ?_ | refine bo ?_)
    refine endQ_data (by simp only [go_sem] <;> exact rfl) (Le.of_eq ?_) rfl
    rw [hno]
  ·rw [a, Int.toNat_natCast, b] at hi
   simp only [Int.natCast_nonneg, decide_true, Bool.true_and] at hi
   have hjl := (List.getElem?_eq_some_iff.1 b).1
   have hn0 : decide ((j : Int) < 0) = false := by simp
   repeat (first | refine nav ?_ | refine bo ?_)
   (refine W_dreg (by decide +kernel) [] [0, 1, 2, 3, 4, 5, 6, 7, 8, 9, 10, 11, 12, 13, 14, 15] [[], [0], [0, 1], [1, 0, 2], [2, 0, 1, 3], [1, 0, 2], [5, 3, 1, 0, 2, 4], [4, 2, 0, 1, 3, 5, 6], [6, 5, 3, 1, 0, 2, 4, 7], [1, 0, 2], [1, 0, 2], [10, 2, 0, 1, 9], [9, 1, 0, 2, 10, 11], [11, 10, 2, 0, 1, 9, 12], [12, 9, 10, 11, 13, 7, 4, 2, 0, 1, 3, 5, 6, 8], [8, 6, 5, 3, 4, 7, 13, 11, 10, 9, 12, 14, 1, 0, 2]] (by decide +kernel) rfl fun K R hK hR => ?_; simp only [List.filterMap_cons, List.filterMap_nil, List.getElem?_cons_zero, List.getElem?_cons_succ, List.cons_append, List.nil_append]; simp (maxSteps := 10000000) only [go_sem, a, h5, syms_get hx, rels_get b, hn0]; (try go_ints); (try simp only [go_sem, a, h5, syms_get hx, rels_get b, hn0]); (repeat refine And.intro side ?_); (first | refine hK _ ?_ | refine hR _ _ ?_); clear hK hR K R)
   repeat (first | refine nav ?_ | refine bo ?_)
   refine W_cond (by simp only [go_sem] <;> exact rfl) (fun hd => ?_) (fun hd => ?_)
   ·have hd : (q.arity == x.arity) = false := by simpa using hd
    rw [hd, Bool.false_and] at hi
    repeat (first | refine nav ?_ | refine bo ?_)
    (refine wr fun K R hK hR => ?_; simp (maxSteps := 10000000) only [go_sem]; (try go_ints); (repeat refine And.intro side ?_); (first | refine hK _ ?_ | refine hR _ _ ?_); clear hK hR K R)
    repeat (first | refine nav ?_ | refine bo ?_)
    refine endQ_data (by simp only [go_sem] <;> exact rfl) (Le.of_eq ?_) rfl
    rw [← hi]
   ·have hd : (q.arity == x.arity) = true := by simpa using hd
    rw [hd, Bool.true_and] at hi
    repeat (first | refine nav ?_ | refine bo ?_)
    (refine wr fun K R hK hR => ?_; simp (maxSteps := 10000000) only [go_sem, h5]; (try go_ints); (try simp only [go_sem, h5]); (repeat refine And.intro side ?_); (first | refine hK _ ?_ | refine hR _ _ ?_); clear hK hR K R)
    refine forQ_normal (l.length - (k + 1)) (by omega) ⟨k + 1, ?_⟩
    ((try simp only [go_sem]); (repeat' refine And.intro ?_ ?_) <;> (try first | with_reducible rfl | omega | with_reducible assumption | (simp; done)))
 ·simp at hb
  have : k = l.length := by omega
  subst this
  rw [List.drop_length] at hi
  repeat (first | refine nav ?_ | refine bo ?_)
  (refine wr fun K R hK hR => ?_; simp (maxSteps := 10000000) only [go_sem]; (try go_ints); (repeat refine And.intro side ?_); (first | refine hK _ ?_ | refine hR _ _ ?_); clear hK hR K R)
  repeat (first | refine nav ?_ | refine bo ?_)
  refine endQ_data (by simp only [go_sem] <;> exact rfl) (Le.of_eq ?_) rfl
  rw [← hi]; rfl
end Go.AW
namespace Go.AW
open Go Go.Proofs TyTry Go.IntWalk
set_option linter.unusedSimpArgs false
set_option linter.unusedVariables false
set_option maxRecDepth 10000
theorem has_spec (l : List SymD) (hl : l.length ≤ 1099511627776) (s : StrD) (hs : s.Ok) : ACallsD Try.prog 33 [.agg [.i .i64 s.size, .sl 3 (rels s.rels)], .sl 2 (syms l)] (.b (fitsR l s)) := by
 refine ACalls_of' (n := 8) (rs := [.tmp 4]) (show Try.prog.funcs[33]? = some Try.f33 by kernel_rfl) rfl rfl rfl (by simp) (by decide +kernel) ?_
 repeat (first | refine nav ?_ | refine bo ?_)
 (refine wr fun K R hK hR => ?_; simp (maxSteps := 10000000) only [go_sem]; (try go_ints); (repeat refine And.intro side ?_); (first | refine hK _ ?_ | refine hR _ _ ?_); clear hK hR K R)
 repeat (first | refine nav ?_ | refine bo ?_)
 (refine wr fun K R hK hR => ?_; simp (maxSteps := 10000000) only [go_sem]; (try go_ints); (repeat refine And.intro side ?_); (first | refine hK _ ?_ | refine hR _ _ ?_); clear hK hR K R)
 refine RL_callF (rfits_spec l hl s hs) rfl rfl rfl (by first | (simp only [go_sem] <;> first | exact LeA.refl _ | exact Le.refl _) | exact LeA.refl _) rfl rfl ?_
 (refine rr fun K R hK hR => ?_; simp (maxSteps := 10000000) only [go_sem]; (try go_ints); (repeat refine And.intro side ?_); (first | refine hK _ ?_ | refine hR _ _ ?_); clear hK hR K R)
 repeat (first | refine nav ?_ | refine bo ?_)
 refine endQ_data (by simp only [go_sem] <;> exact rfl) (Le.of_eq ?_) rfl
 rfl
def symsE : List SymD := [⟨⟨#[69]⟩, 2⟩]
def symsA : List SymD := [⟨⟨#[65]⟩, 1⟩]
def codeF (s : StrD) (b : Bool) : Int := if validF s = false then 1 else if (!(fitsR symsE s) || (b && !(fitsR symsA s))) = true then 4 else 0
theorem code_spec (s : StrD) (hs : s.Ok) (b : Bool) : ACallsD Try.prog 10 [.agg [.i .i64 s.size, .sl 3 (rels s.rels)], .b b] (.i .i64 (codeF s b)) := by
 refine ACalls_of' (n := 25) (rs := [.tmp 4]) (show Try.prog.funcs[10]? = some Try.f10 by kernel_rfl) rfl rfl rfl (by simp) (by decide +kernel) ?_
 repeat (first | refine nav ?_ | refine bo ?_)
 (refine wr fun K R hK hR => ?_; simp (maxSteps := 10000000) only [go_sem]; (try go_ints); (repeat refine And.intro side ?_); (first | refine hK _ ?_ | refine hR _ _ ?_); clear hK hR K R)
 repeat (first | refine nav ?_ | refine bo ?_)
 (refine wr fun K R hK hR => ?_; simp (maxSteps := 10000000) only [go_sem]; (try go_ints); (repeat refine And.intro side ?_); (first | refine hK _ ?_ | refine hR _ _ ?_); clear hK hR K R)
 refine RL_callF (rvalid_spec s hs) rfl rfl rfl (by first | (simp only [go_sem] <;> first | exact LeA.refl _ | exact Le.refl _) | exact LeA.refl _) rfl rfl ?_
 (refine rr fun K R hK hR => ?_; simp (maxSteps := 10000000) only [go_sem]; (try go_ints); (repeat refine And.intro side ?_); (first | refine hK _ ?_ | refine hR _ _ ?_); clear hK hR K R)
 repeat (first | refine nav ?_ | refine bo ?_)
 refine W_cond (by simp only [go_sem] <;> exact rfl) (fun hb => ?_) (fun hb => ?_)
 ·have hv : validF s = false := by simpa using hb
  repeat (first | refine nav ?_ | refine bo ?_)
  (refine wr fun K R hK hR => ?_; simp (maxSteps := 10000000) only [go_sem]; (try go_ints); (repeat refine And.intro side ?_); (first | refine hK _ ?_ | refine hR _ _ ?_); clear hK hR K R)
  repeat (first | refine nav ?_ | refine bo ?_)
  refine endQ_data (by simp only [go_sem] <;> exact rfl) (Le.of_eq ?_) rfl
  rw [codeF, if_pos hv]
 ·have hv : validF s = true := by simpa using hb
  repeat (first | refine nav ?_ | refine bo ?_)
  (refine wr fun K R hK hR => ?_; simp (maxSteps := 10000000) only [go_sem]; (try go_ints); (repeat refine And.intro side ?_); (first | refine hK _ ?_ | refine hR _ _ ?_); clear hK hR K R)
  refine RL_callF (has_spec symsE (by decide) s hs) rfl rfl rfl (by first | (simp only [go_sem] <;> first | exact LeA.refl _ | exact Le.refl _) | exact LeA.refl _) rfl rfl ?_
  (refine rr fun K R hK hR => ?_; simp (maxSteps := 10000000) only [go_sem]; (try go_ints); (repeat refine And.intro side ?_); (first | refine hK _ ?_ | refine hR _ _ ?_); clear hK hR K R)
  refine RL_callDg rfl (by simp only [go_sem] <;> exact rfl) (fun e => has_spec symsA (by decide) s hs) rfl rfl rfl (fun e => by (try simp only [go_sem] at e); simp only [go_sem, e] <;> (try simp only [go_sem]) <;> first | exact LeA.refl _ | exact Le.refl _) rfl rfl ?_
  (refine rr fun K R hK hR => ?_; simp (maxSteps := 10000000) only [go_sem]; (try go_ints); (repeat refine And.intro side ?_); (first | refine hK _ ?_ | refine hR _ _ ?_); clear hK hR K R)
  repeat (first | refine nav ?_ | refine bo ?_)
  refine W_cond (by simp only [go_sem] <;> exact rfl) (fun hb => ?_) (fun hb => ?_)
  ·repeat (first | refine nav ?_ | refine bo ?_)
   (refine wr fun K R hK hR => ?_; simp (maxSteps := 10000000) only [go_sem]; (try go_ints); (repeat refine And.intro side ?_); (first | refine hK _ ?_ | refine hR _ _ ?_); clear hK hR K R)
   repeat (first | refine nav ?_ | refine bo ?_)
   refine endQ_data (by simp only [go_sem] <;> exact rfl) (Le.of_eq ?_) rfl
   rw [codeF, if_neg (by simp [hv]), if_pos hb]
  ·repeat (first | refine nav ?_ | refine bo ?_)
   (refine wr fun K R hK hR => ?_; simp (maxSteps := 10000000) only [go_sem]; (try go_ints); (repeat refine And.intro side ?_); (first | refine hK _ ?_ | refine hR _ _ ?_); clear hK hR K R)
   repeat (first | refine nav ?_ | refine bo ?_)
   refine endQ_data (by simp only [go_sem] <;> exact rfl) (Le.of_eq ?_) rfl
   rw [codeF, if_neg (by simp [hv]), if_neg (by simp [hb])]
def tupsOf (s : StrD) (name : ByteArray) : List (List Int) := match s.rels[(findF s name).toNat]? with | some q => q.tuples | none => []
theorem fitsR_one {x : SymD} {s : StrD} (h : fitsR [x] s = true) : ∃ (j : Nat) (q : RelD), findF s x.name = j ∧ s.rels[j]? = some q ∧ (q.name.toList == x.name.toList) = true ∧ q.arity = x.arity ∧ tupsOf s x.name = q.tuples := by
 rcases findF_cases s x.name with ⟨a, b⟩ | ⟨j, q, a, b, c⟩
 ·simp only [fitsR, List.all_cons, List.all_nil, Bool.and_true, a] at h
  split at h
  ·simp at h
  ·cases h
 ·refine ⟨j, q, a, b, c, ?_, by rw [tupsOf, a, Int.toNat_natCast, b]⟩
  simp only [fitsR, List.all_cons, List.all_nil, Bool.and_true, a, Int.toNat_natCast, b, Bool.and_eq_true, beq_iff_eq] at h
  exact h.2
end Go.AW
namespace Go.AW
open Go Go.Proofs TyTry Go.IntWalk
set_option linter.unusedSimpArgs false
set_option linter.unusedVariables false
set_option maxRecDepth 10000
mutual
theorem unref_ltk {id sz : Nat} {rows : List (List AV)} {k : Nat} (hk : k ≤ id) : ∀ (a : AV), a.ltk k = true → a.unref id sz rows = a
 | .ref j _ _, h => by
  simp only [AV.ltk, decide_eq_true_eq] at h
  simp only [AV.unref]
  rw [if_neg]
  omega
 | .fn _ l, h => by simp only [AV.ltk] at h; simp only [AV.unref, unrefs_ltk hk l h]
 | .agg l, h => by simp only [AV.ltk] at h; simp only [AV.unref, unrefs_ltk hk l h]
 | .tup l, h => by simp only [AV.ltk] at h; simp only [AV.unref, unrefs_ltk hk l h]
 | .ifc _ v, h => by simp only [AV.ltk] at h; simp only [AV.unref, unref_ltk hk v h]
 | .gd _ v, h => by simp only [AV.ltk] at h; simp only [AV.unref, unref_ltk hk v h]
 | .any, _ | .b _, _ | .i _ _, _ | .s _, _ | .sl _ _, _ | .own _ _, _ | .ep _ _, _ | .nilp, _ | .nilm, _ | .nsl, _ | .esl, _ | .nilf, _ | .nili, _ | .ptr _ _ _, _ | .mp _, _ => rfl
theorem unrefs_ltk {id sz : Nat} {rows : List (List AV)} {k : Nat} (hk : k ≤ id) : ∀ (l : List AV), AV.ltks k l = true → AV.unrefs id sz rows l = l
 | [], _ => rfl
 | a :: l, h => by
  simp only [AV.ltks, Bool.and_eq_true] at h
  simp only [AV.unrefs, unref_ltk hk a h.1, unrefs_ltk hk l h.2]
end
theorem Ob.unref_ltk {id sz : Nat} {rows : List (List AV)} {k : Nat} (hk : k ≤ id) (x : Ob) (h : x.ltk k = true) : x.unref id sz rows = x := by
 cases x with
 | cells s rs =>
  simp only [Ob.ltk, List.all_eq_true] at h
  simp only [Ob.unref, Ob.cells.injEq, true_and]
  conv => rhs; rw [← List.map_id rs]
  refine List.map_congr_left fun r hr => ?_
  conv => rhs; rw [show (_root_.id r) = r from rfl, ← List.map_id r]
  exact List.map_congr_left fun a ha => AW.unref_ltk hk a (h r hr a ha)
 | mapo es =>
  simp only [Ob.ltk, List.all_eq_true, Bool.and_eq_true] at h
  simp only [Ob.unref, Ob.mapo.injEq]
  conv => rhs; rw [← List.map_id es]
  refine List.map_congr_left fun x hx => ?_
  rw [AW.unref_ltk hk _ (h x hx).1, AW.unref_ltk hk _ (h x hx).2]; rfl
 | _ => rfl
theorem ints_set (l : List Int) (p : Nat) (b : Int) : (ints l).modify p (fun row => row.set 0 (.i .i64 b)) = ints (l.set p b) := by
 apply List.ext_getElem?
 intro i
 simp only [ints, List.getElem?_modify, List.getElem?_map, List.getElem?_set]
 by_cases hi : p = i
 ·subst hi
  cases h : l[p]? with
  | none => have := List.getElem?_eq_none_iff.1 h; simp; omega
  | some x => have := (List.getElem?_eq_some_iff.1 h).1; simp [this]
 ·simp [hi]
theorem ints_ltk (l : List Int) (k : Nat) : (Ob.cells 1 (ints l)).ltk k = true := by
 simp [Ob.ltk, ints, AV.ltk]
theorem frS_last {o : List Ob} {t : Nat → AV} {rows : List (List AV)} (ho : okO o = true) (hd : rows.map (fun r => r.map AV.dat) = rows) :
  frS o.length 1 rows ⟨t, o ++ [.cells 1 rows]⟩ = ⟨fun k => (t k).unref o.length 1 rows, o ++ [.frz 1 rows]⟩ := by
 simp only [frS, hd, app_set, List.map_append, List.map_cons, List.map_nil, Ob.unref, St.mk.injEq, true_and]
 congr 1
 conv => rhs; rw [← List.map_id o]
 refine List.map_congr_left fun x hx => ?_
 unfold okO at ho
 rw [List.all_eq_true] at ho
 exact Ob.unref_ltk (Nat.le_refl _) x (ho x hx)
def tab (l : List (Nat × AV)) : Nat → AV := fun k => match l.find? (fun x => x.1 == k) with | some x => x.2 | none => .any
theorem tab_le {t : Nat → AV} {l : List (Nat × AV)} (h : ∀ x ∈ l, t x.1 = x.2) (k : Nat) : Le (t k) (tab l k) := by
 unfold tab
 cases hf : l.find? (fun x => x.1 == k) with
 | none => exact Le.any _
 | some x =>
  have h1 := List.find?_some hf
  have h2 := List.mem_of_find?_eq_some hf
  simp only [beq_iff_eq] at h1
  rw [← h1, h x h2]
  exact Le.refl _
@[go_sem] theorem tab_cons (j : Nat) (v : AV) (l : List (Nat × AV)) (k : Nat) : tab ((j, v) :: l) k = if j = k then v else tab l k := by
 unfold tab
 rw [List.find?_cons]
 by_cases h : j = k
 ·simp [h]
 ·have : (j == k) = false := by simpa using h
  simp [h, this]
@[go_sem] theorem tab_nil (k : Nat) : tab [] k = .any := rfl
theorem tab_mix {t : Nat → AV} {lo hi : Nat} {L : List Nat} {l l0 : List (Nat × AV)} (h : ∀ x ∈ l, t x.1 = x.2) (h0 : ∀ x ∈ l0, t x.1 = x.2) (k : Nat) : Le (t k) (mix lo hi L (tab l) (tab l0) k) := by
 simp only [mix]
 split
 ·exact tab_le h k
 ·exact tab_le h0 k
theorem W_forM {P : Program} {n : Nat} {Q : Exit → St → Prop} {c : Code} (lo hi : Nat) (L : List Nat) (I : Nat → (Nat → AV) → List Ob → Prop) (m : Nat) {t1 t0 : Nat → AV} {o0 : List Ob} (h0 : I m t1 o0)
  (round : ∀ m t o, I m t o → W P n c (forQ lo hi L t0 I m Q) ⟨mix lo hi L t t0, o⟩) : W P n (.loop c) Q ⟨mix lo hi L t1 t0, o0⟩ := by
 refine W_while (fun m s => ∃ t, s.t = mix lo hi L t t0 ∧ I m t s.o) m ⟨t1, rfl, h0⟩ ?_
 rintro m ⟨ts, o⟩ ⟨t, ht, hI⟩
 simp only at ht
 subst ht
 refine (round m t o hI).mono ?_
 intro e s h
 cases e with
 | normal =>
  obtain ⟨m', t', h1, h2, h3⟩ := h
  exact ⟨m', h1, t', h2, h3⟩
 | _ => exact h
end Go.AW
namespace Go.AW
open Go
set_option linter.unusedSimpArgs false
set_option linter.unusedVariables false
section
variable {w : World} {Z : CS} {m : List MB} {reg : Pl → Option Reg} {t : Nat → AV} {u : Nat → Value} {o : List Ob}
theorem Rel.objSet (h : Rel w Z m reg t u o) {id : Nat} {x0 : Ob} {mb : MB} (ho : o[id]? = some x0) (hl0 : x0.live) (hm : m[id]? = some mb) {w' : World} (hos : w'.os = w.os) (htp : w'.tape = w.tape) (hout : w'.output = w.output)
  (hsz : w'.heap.size = w.heap.size) (hot : ∀ b, b ≠ mb.blk → w'.heap[b]? = w.heap[b]?) (x1 : Ob) (hl1 : x1.live)
  (hob : ∀ (Y' : CS), Keeps w (YS Z m reg o) m w' Y' m → ObR w' Y' m mb x1) (hno : ∀ r c sz rows, leaf t [x1] (.o 0 r c) ≠ some (.own sz rows)) :
  Rel w' Z m (regDrop reg id o.length) t u (o.set id x1) ∧ Evol w (XS m reg o) w' ∧ (∀ b x, XS m (regDrop reg id o.length) (o.set id x1) b x → XS m reg o b x) := by
 have hlt : id < o.length := (List.getElem?_eq_some_iff.1 ho).1
 have hsub : ∀ p rg, regDrop reg id o.length p = some rg → reg p = some rg := by
  intro p rg hp
  cases p with
  | t k => exact hp
  | o j r c =>
   simp only [regDrop] at hp
   split at hp
   ·cases hp
   ·exact hp
 have og : ∀ {j : Nat} {x : Ob}, (o.set id x1)[j]? = some x → (j = id ∧ x = x1) ∨ (j ≠ id ∧ o[j]? = some x) := by
  intro j x hj
  rw [set_get ho] at hj
  split at hj
  ·rename_i e; exact .inl ⟨e, (Option.some.inj hj).symm⟩
  ·rename_i e; exact .inr ⟨e, hj⟩
 have hXb : ∀ y, XS m reg o mb.blk y := fun y => .inl ⟨id, _, mb, ho, hl0, hm, rfl⟩
 have hX : ∀ b y, XS m (regDrop reg id o.length) (o.set id x1) b y → XS m reg o b y := by
  rintro b y (⟨j, ob, mb', h1, h2, h3, h4⟩ | ⟨p, rg, h1, h2⟩)
  ·rcases og h1 with ⟨rfl, rfl⟩ | ⟨_, h1⟩
   ·rw [hm] at h3
    obtain rfl := Option.some.inj h3
    rw [← h4]; exact hXb y
   ·exact .inl ⟨j, ob, mb', h1, h2, h3, h4⟩
  ·exact .inr ⟨p, rg, hsub p rg h1, h2⟩
 have hE : Evol w (XS m reg o) w' := by
  refine ⟨hos, htp, hout, by rw [hsz]; exact Nat.le_refl _, fun b _ hb => hot b (fun e => hb 0 (e ▸ hXb 0)), fun b x v hb hc => ?_⟩
  have : b ≠ mb.blk := fun e => hb (e ▸ hXb x)
  unfold World.cell? at hc ⊢
  rw [hot b this]; exact hc
 have K : Keeps w (YS Z m reg o) m w' (YS Z m (regDrop reg id o.length) (o.set id x1)) m :=
  ⟨fun b x v hc hy => ⟨hE.cell b x v (fun k => hy (.inl k)) hc, fun k => hy (k.imp (hX b x) (fun h => h))⟩, fun _ _ h => h⟩
 have hblk : ∀ {j : Nat} {x : Ob} {mb' : MB}, j ≠ id → o[j]? = some x → x.live → m[j]? = some mb' → mb'.blk ≠ mb.blk := fun hj hx hl hmj e => hj (h.inj _ _ _ _ _ _ hx ho hl hl0 hmj hm e)
 refine ⟨?_, hE, hX⟩
 refine ⟨by simp [h.len], fun k => V.keep K _ _ (h.tv k), ?_, ?_, fun p rg hp => by rw [hsz]; exact h.rok p rg (hsub p rg hp), ?_, fun p q r s hpq hp hq => h.rdj p q r s hpq (hsub p r hp) (hsub q s hq), ?_, fun b y hz hy => h.zx b y hz (hX b y hy), fun b y hz => by rw [hsz]; exact h.zs b y hz⟩
 ·intro j ob mb' hoj hmj
  rcases og hoj with ⟨rfl, rfl⟩ | ⟨hne, h1⟩
  ·rw [hm] at hmj
   obtain rfl := Option.some.inj hmj
   exact hob _ K
  ·exact Ob.keep K ob (fun hl => hot _ (hblk hne h1 hl hmj)) (h.ob j ob mb' h1 hmj)
 ·intro i j x y a b hi hj lx ly ha hb e
  rcases og hi with ⟨rfl, rfl⟩ | ⟨n1, g1⟩
  ·rw [hm] at ha
   obtain rfl := Option.some.inj ha
   rcases og hj with ⟨rfl, rfl⟩ | ⟨n2, g2⟩
   ·rfl
   ·exact (hblk n2 g2 ly hb e.symm).elim
  ·rcases og hj with ⟨rfl, rfl⟩ | ⟨n2, g2⟩
   ·rw [hm] at hb
    obtain rfl := Option.some.inj hb
    exact (hblk n1 g1 lx ha e).elim
   ·exact h.inj i j x y a b g1 g2 lx ly ha hb e
 ·intro p rg j x mb' hp hj hl hmj
  rcases og hj with ⟨rfl, rfl⟩ | ⟨n1, g1⟩
  ·rw [hm] at hmj
   obtain rfl := Option.some.inj hmj
   exact h.rob p rg _ _ mb (hsub p rg hp) ho hl0 hm
  ·exact h.rob p rg j x mb' (hsub p rg hp) g1 hl hmj
 ·intro p sz' rows' v hlf hv
  have oa : ∀ {p : Pl} {n : Nat} {v : Value}, OwnAt w (reg p) sz' n v → (∀ r, reg p = some r → r.blk ≠ mb.blk) → OwnAt w' (reg p) sz' n v := by
   rintro p n v ⟨a, cap', h1, h2⟩ hr
   refine ⟨a, cap', h1, fun hn => ?_⟩
   obtain ⟨blk', off', lo', c1, e1, q1, q2, q3, q4, q5⟩ := h2 hn
   refine ⟨blk', off', lo', c1, e1, q1, q2, q3, ?_, q5⟩
   rw [hot _ (hr _ q2)]; exact q4
  have hrb : ∀ {p : Pl} r, reg p = some r → r.blk ≠ mb.blk := fun r hr e => h.rob _ r id _ mb hr ho hl0 hm e.symm
  cases p with
  | t k => exact oa (h.own (.t k) sz' rows' v hlf hv) (fun r hr => hrb r hr)
  | o j r c =>
   simp only [leaf] at hlf
   cases hoj : (o.set id x1)[j]? with
   | none => rw [hoj] at hlf; simp at hlf
   | some x =>
    rw [hoj] at hlf
    rcases og hoj with ⟨rfl, rfl⟩ | ⟨n1, g1⟩
    ·exact (hno r c sz' rows' (by simp only [leaf, List.getElem?_cons_zero]; exact hlf)).elim
    ·have l1 := (List.getElem?_eq_some_iff.1 g1).1
     have hreg : regDrop reg id o.length (.o j r c) = reg (.o j r c) := by simp only [regDrop]; rw [if_neg (by rintro (e | e) <;> omega)]
     rw [hreg]
     have hleaf : leaf t o (.o j r c) = some (.own sz' rows') := by simp only [leaf, g1]; exact hlf
     refine oa (h.own _ sz' rows' v hleaf ?_) (fun r hr => hrb r hr)
     have hlive : x.live := by
      cases x with
      | cells => trivial
      | mapo => trivial
      | _ => simp at hlf
     obtain ⟨mb', hmb'⟩ := h.mget g1
     simp only [valAt] at hv ⊢
     rw [hmb'] at hv ⊢
     simp only [Option.bind_some] at hv ⊢
     unfold World.cell? at hv ⊢
     rw [hot _ (hblk n1 g1 hlive hmb')] at hv
     exact hv
end
theorem endQ_all {P : Program} {rs : List ResultVar} {no : Nat} {R : AV → List Ob → Prop} {s : St} {r r' : AV} (h1 : resAV P rs s = some r) (h2 : Le r r') (hno : no ≤ s.o.length) (hok : okO s.o = true) (hr : r'.ltk s.o.length = true) (hR : R r' s.o) : endQ P rs no R .ret s :=
 ⟨r, r', s.o.length, h1, h2, hno, Nat.le_refl _, by rw [List.take_length]; exact hok, hr, by rw [List.take_length]; exact hR⟩
theorem endQ_alln {P : Program} {rs : List ResultVar} {no : Nat} {R : AV → List Ob → Prop} {s : St} {r r' : AV} (h1 : resAV P rs s = some r) (h2 : Le r r') (hno : no ≤ s.o.length) (hok : okO s.o = true) (hr : r'.ltk s.o.length = true) (hR : R r' s.o) : endQ P rs no R .normal s :=
 ⟨r, r', s.o.length, h1, h2, hno, Nat.le_refl _, by rw [List.take_length]; exact hok, hr, by rw [List.take_length]; exact hR⟩
theorem W_joinS {P : Program} {n : Nat} {Q : Exit → St → Prop} {x y : Code} (lo hi : Nat) (L : List Nat) (I : (Nat → AV) → List Ob → Prop) {t0 : Nat → AV} {o0 : List Ob} (h : W P n x (joinQ lo hi L t0 I Q) ⟨mix lo hi L t0 t0, o0⟩)
  (h2 : ∀ t o, I t o → W P n y Q ⟨mix lo hi L t t0, o⟩) : W P n x (seqQ P n y Q) ⟨t0, o0⟩ := by
 rw [mix_self] at h
 refine h.mono ?_
 intro e s k
 cases e with
 | normal =>
  obtain ⟨t', h1, h3⟩ := k
  have := h2 t' s.o h3
  rw [← h1] at this
  exact this
 | _ => exact k
theorem putRow_heap (enc : Int → Value) (w : World) (blk off : Nat) (d : Array Int) (b : Nat) : (Go.Sort.putRow enc w blk off d).heap[b]? = if blk = b then (w.heap[b]?).map (Go.Sort.onCells (Go.Sort.putCells enc off d)) else w.heap[b]? := by
 unfold Go.Sort.putRow Go.Sort.mapBlock
 simp only [Array.getElem?_modify]
theorem putCells_get (enc : Int → Value) (off : Nat) (d : Array Int) (c : Array Value) (k : Nat) : (Go.Sort.putCells enc off d c)[k]? = (c[k]?).map fun x => if off ≤ k ∧ k < off + d.size then enc d[k - off]! else x := by
 unfold Go.Sort.putCells
 rw [Array.getElem?_mapIdx]
theorem putCells_at (enc : Int → Value) (off : Nat) (d : Array Int) (c : Array Value) (r : Nat) (h1 : r < d.size) (h2 : off + r < c.size) : (Go.Sort.putCells enc off d c)[off + r]? = some (enc d[r]!) := by
 rw [putCells_get, Array.getElem?_eq_getElem h2]
 simp only [Option.map_some]
 rw [if_pos (by omega), Nat.add_sub_cancel_left]
theorem ACalls_inplace {P : Program} {f : FuncId} {oc : List Ob} {id : Nat} {l l' : List Int} {r : AV} (hok : callOk P f = true) (ho : oc[id]? = some (.cells 1 (l.map fun x => [.i .i64 x]))) (hn : 0 < l.length) (hll : l'.length = l.length) (hr0 : r.isOwn = false) (rv : Nat → Nat → Nat → Value)
  (hV : ∀ (w : World) (Y : CS) (m : List MB) (mb : MB) (cap : Nat), m[id]? = some mb → l.length ≤ cap → cap ≤ mb.lim → cap ≤ maxLen → V w Y m r (rv mb.blk mb.base cap))
  (h : ∀ (w : World) (blk off cap : Nat), Go.Sort.Holds (Value.int .i64) w blk off l.toArray → blk < w.heap.size → l.length ≤ cap → cap ≤ maxLen → Calls P f #[.slice (some ⟨blk, off, none⟩) l.length cap] w fun e w' =>
   e = .returned (rv blk off cap) ∧ ∃ n os, w' = Go.Sort.grow (Go.Sort.putRow (Value.int .i64) (Go.Sort.ahead w n) blk off l'.toArray) os) :
  ACalls P f [.ref id 0 l.length] oc fun r' o' => r' = r ∧ o' = oc.set id (.cells 1 (l'.map fun x => [.i .i64 x])) := by
 refine ⟨hok, fun w Z m reg vs hlen hrel => ?_⟩
 obtain ⟨v0, rfl⟩ : ∃ v, vs = [v] := by
  match vs, hlen with
  | [v], _ => exact ⟨v, rfl⟩
 have tv0 : V w (YS Z m reg oc) m (.ref id 0 l.length) v0 := hrel.tv 0
 simp only [V] at tv0
 obtain ⟨mb, a, cap, hm, rfl, hc1, hc2, hc3⟩ := tv0
 have hob := hrel.ob id _ mb ho hm
 obtain ⟨hsz, ⟨c, e, hheap, hfit, hrl⟩, hrow, hcell⟩ := hob
 rcases hc3 with ⟨h0, _⟩ | ⟨rfl, hlim⟩
 ·omega
 simp only [Nat.zero_mul, Nat.add_zero]
 rw [Nat.zero_add] at hlim
 have hcj : ∀ j (hj : j < l.length), w.cell? ⟨mb.blk, mb.base + j, none⟩ = some (.int .i64 l[j]) := by
  intro j hj
  obtain ⟨v, h1, h2⟩ := hcell j [.i .i64 l[j]] 0 (.i .i64 l[j]) (by simp [hj]) rfl
  simp only [V] at h2
  subst h2
  rw [← h1]; congr 2; omega
 have hH : Go.Sort.Holds (Value.int .i64) w mb.blk mb.base l.toArray := by
  intro j hj
  have hj' : j < l.length := by simpa using hj
  refine ⟨by rw [hcj j hj']; simp [hj'], ?_⟩
  unfold World.frozen?
  rw [hheap]
  simp
 have hlt : mb.blk < w.heap.size := hrel.blk ho trivial hm
 refine Calls.mono (h w mb.blk mb.base cap hH hlt hc1 hc2) ?_
 rintro e' w' ⟨rfl, n, os, rfl⟩
 have hhp : ∀ b, (Go.Sort.putRow (Value.int .i64) (Go.Sort.ahead w n) mb.blk mb.base l'.toArray).heap[b]? = if mb.blk = b then (w.heap[b]?).map (Go.Sort.onCells (Go.Sort.putCells (Value.int .i64) mb.base l'.toArray)) else w.heap[b]? := fun b => putRow_heap _ _ _ _ _ b
 have hsize : (Go.Sort.putRow (Value.int .i64) (Go.Sort.ahead w n) mb.blk mb.base l'.toArray).heap.size = w.heap.size := by
  unfold Go.Sort.putRow Go.Sort.mapBlock
  simp [Go.Sort.ahead]
 have hcs : mb.base + l'.length ≤ c.size := by simp at hrl; omega
 obtain ⟨R1, E1, X1⟩ := hrel.objSet (w' := Go.Sort.putRow (Value.int .i64) (Go.Sort.ahead w n) mb.blk mb.base l'.toArray) ho trivial hm rfl rfl rfl hsize (fun b hb => by rw [hhp, if_neg (fun e => hb e.symm)])
  (.cells 1 (l'.map fun x => [.i .i64 x])) trivial (fun Y' K => by
   refine ⟨hsz, ⟨_, e, by rw [hhp, if_pos rfl, hheap]; rfl, by simpa [Go.Sort.putCells] using hfit, by simpa [hll] using hrl⟩, fun r row hr => ?_, fun r row k av hr hk => ?_⟩
   ·rw [List.getElem?_map] at hr
    cases hq : l'[r]? with
    | none => rw [hq] at hr; cases hr
    | some x => rw [hq] at hr; simp at hr; subst hr; rfl
   ·rw [List.getElem?_map] at hr
    cases hq : l'[r]? with
    | none => rw [hq] at hr; cases hr
    | some x =>
     rw [hq] at hr
     simp at hr
     subst hr
     have hrl' := (List.getElem?_eq_some_iff.1 hq).1
     cases k with
     | succ k => simp at hk
     | zero =>
      simp at hk
      subst hk
      refine ⟨.int .i64 x, ?_, by simp only [V]⟩
      unfold World.cell?
      rw [hhp, if_pos rfl, hheap]
      simp only [Option.map_some, Go.Sort.onCells]
      have e2 : l'[r] = x := (List.getElem?_eq_some_iff.1 hq).2
      have e3 := putCells_at (Value.int .i64) mb.base l'.toArray c r (by simpa using hrl') (by omega)
      rw [show mb.base + r * 1 + 0 = mb.base + r by omega]
      rw [e3]
      simp [hrl', e2])
  (fun r k sz rows hlf => by
   simp only [leaf, List.getElem?_cons_zero, List.getElem?_map] at hlf
   cases hq : l'[r]? with
   | none => rw [hq] at hlf; simp at hlf
   | some x =>
    rw [hq] at hlf
    cases k with
    | zero => simp at hlf
    | succ k => simp at hlf)
 have G : Grow (Go.Sort.putRow (Value.int .i64) (Go.Sort.ahead w n) mb.blk mb.base l'.toArray) (Go.Sort.grow (Go.Sort.putRow (Value.int .i64) (Go.Sort.ahead w n) mb.blk mb.base l'.toArray) os) := by
  refine ⟨rfl, rfl, rfl, by simp [Go.Sort.grow], fun b hb => ?_⟩
  unfold Go.Sort.grow
  simp only
  rw [Array.getElem?_append_left hb]
 have R2 := R1.grow G
 have R3 := R2.put 1 (hV _ _ m mb cap hm hc1 hlim hc2) (.inl hr0)
 obtain ⟨R4, X4⟩ := R3.one 1
 simp only [upd, if_true] at R4
 refine ⟨rv mb.blk mb.base cap, r, _, m, _, rfl, ⟨rfl, rfl⟩, R4, ?_, ?_, fun _ _ h => h⟩
 ·exact E1.trans (G.evol (fun _ _ => False)) (fun _ _ h => h.elim)
 ·intro b x hb
  have h4 := X4 b x hb
  left
  refine X1 b x ?_
  rcases h4 with h4 | ⟨p, rg, h1, h2⟩
  ·exact .inl h4
  ·refine .inr ⟨p, rg, ?_, h2⟩
   simp only at h1
   by_cases hp : p = .t 1
   ·rw [if_pos hp] at h1; cases h1
   ·rw [if_neg hp] at h1; exact h1
end Go.AW
namespace Go.AW
open Go
set_option linter.unusedSimpArgs false
set_option linter.unusedVariables false
section
variable {P : Program} {n : Nat} {Q : Exit → St → Prop} {s : St}
theorem wpAny_of_I {ops : Array Oper} (I : (Nat → Bool) → St → Prop) (hac : ∀ i, i < ops.size → ∀ k ∈ dirs ops i, k < i)
  (hst : ∀ d s i o, ops[i]? = some o → d i = false → (∀ k ∈ dirs ops i, d k = true) → I d s → o.guard = none ∧ OpW P n o s (I (fun j => d j || j == i)))
  (hend : ∀ d s, (∀ i < ops.size, d i = true) → I d s → Q .normal s) {g : G} (hn : g.n = n) :
  ∀ (fuel : Nat) (rem : List Nat) (listed : Array Bool) (s : St) (a : Act) (w : World), rem.length = fuel → rem.Sublist (List.range ops.size) → listed.size = ops.size →
   (∀ i, i < ops.size → (listed.getD i true = false ↔ i ∈ rem)) → I (fun j => !rem.contains j) s → At g s a w → wpAny P .any ops (QL g Q) fuel listed a w := by
 intro fuel
 induction fuel with
 | zero =>
  intro rem listed s a w hl hsub hsz hli hD hat
  have : rem = [] := List.eq_nil_of_length_eq_zero hl
  subst this
  refine ⟨?_, s, hend _ _ (fun i _ => rfl) hD, hat⟩
  unfold Region.ready
  rw [List.filter_eq_nil_iff]
  intro i hi
  have := (hli i (List.mem_range.1 hi))
  simp only [List.not_mem_nil, iff_false, Bool.not_eq_false] at this
  simp [this]
 | succ fuel ih =>
  intro rem listed s a w hl hsub hsz hli hD hat
  have hmem : ∀ i, i ∈ rem → i < ops.size := fun i hi => List.mem_range.1 (hsub.subset hi)
  have hdir : ∀ (i : Nat), i ∈ Region.ready .any ops listed → i < ops.size ∧ i ∈ rem ∧ ∀ k ∈ dirs ops i, k ∉ rem := by
   intro i hi
   rw [mem_ready] at hi
   obtain ⟨h1, o, ho, h2⟩ := hi
   have hlt := (Array.getElem?_eq_some_iff.1 ho).1
   refine ⟨hlt, (hli i hlt).1 h1, fun k hk hkr => ?_⟩
   unfold dirs at hk
   rw [ho] at hk
   simp only [List.mem_map, List.mem_filter, Array.mem_toList_iff] at hk
   obtain ⟨e, ⟨he, hb⟩, rfl⟩ := hk
   have h3 := h2 e he hb
   have h4 := (hli e.on (hmem _ hkr)).2 hkr
   rw [Array.getD_eq_getD_getElem?] at h3 h4
   cases hq : listed[e.on]? with
   | none => rw [hq] at h4; simp at h4
   | some b => rw [hq] at h3 h4; simp at h3 h4; rw [h3] at h4; cases h4
  have hnd : rem.Nodup := (List.nodup_range).sublist hsub
  have hso : rem.Pairwise (· < ·) := (List.pairwise_lt_range).sublist hsub
  refine ⟨fun hno => ?_, fun i hi => ?_⟩
  ·exfalso
   match rem, hl with
   | i :: rest, _ =>
    have hi : i < ops.size := hmem i (by simp)
    have : i ∈ Region.ready .any ops listed := by
     rw [mem_ready]
     refine ⟨(hli i hi).2 (by simp), ops[i], by simp [hi], fun e he hb => ?_⟩
     have hk : e.on ∈ dirs ops i := by
      unfold dirs
      rw [show ops[i]? = some ops[i] by simp [hi]]
      simp only [List.mem_map, List.mem_filter, Array.mem_toList_iff]
      exact ⟨e, ⟨he, hb⟩, rfl⟩
     have hne := hac i hi _ hk
     have hlt2 : e.on < ops.size := by omega
     cases hq : listed.getD e.on true with
     | false =>
      have hin := (hli _ hlt2).1 hq
      rw [List.pairwise_cons] at hso
      rcases List.mem_cons.1 hin with h | h
      ·omega
      ·have := hso.1 e.on h; omega
     | true =>
      rw [Array.getD_eq_getD_getElem?] at hq ⊢
      have h4 : e.on < listed.size := by rw [hsz]; exact hlt2
      rw [Array.getElem?_eq_getElem h4] at hq ⊢
      simpa using hq
    rw [hno] at this; cases this
  ·obtain ⟨hlt, hir, hdn⟩ := hdir i hi
   have ho : ops[i]? = some ops[i] := by simp [hlt]
   obtain ⟨hg, hop⟩ := hst _ s i _ ho (by simp [List.contains_iff_mem, hir]) (fun k hk => by simpa using hdn k hk) hD
   unfold wpOp
   simp only [ho]
   have hw : Region.wanted ops[i] (yielded ops a.tmps) = true := by simp [Region.wanted, hg]
   simp only [hw, if_true]
   refine .inl (Oper.wp_q (Oper.wp_mono (fun a' w' ⟨s', h1, h2⟩ => ?_) (hop g a w hn hat)))
   have hmer : ∀ j, j ∈ rem.erase i ↔ j ≠ i ∧ j ∈ rem := fun j => hnd.mem_erase_iff
   refine ih (rem.erase i) _ s' a' w' ?_ (List.erase_sublist.trans hsub) (by simp [hsz]) ?_ ?_ h2
   ·rw [List.length_erase_of_mem hir]; omega
   ·intro j hj
    by_cases hji : j = i
    ·subst hji
     rw [hmer]
     simp [hsz, hj]
    ·rw [getD_set_ne true (fun e => hji e.symm), hli j hj, hmer]
     simp [hji]
   ·have : (fun j => !(rem.erase i).contains j) = fun j => !rem.contains j || j == i := by
     funext j
     by_cases hji : j = i
     ·subst hji
      simp [List.contains_iff_mem, hmer]
     ·have h1 : (j ∈ rem.erase i) = (j ∈ rem) := by rw [hmer]; simp [hji]
      simp [hji, h1]
    rw [this]; exact h1
theorem W_drawInv {id : Nat} {l : List Oper} (hm : P.follows .mixedOrders = true) (I : (Nat → Bool) → St → Prop) (hac : ((List.range l.length).all fun i => (dirs l.toArray i).all fun k => decide (k < i)) = true)
  (h0 : I (fun j => decide (l.length ≤ j)) s)
  (hst : ∀ d s i o, l[i]? = some o → d i = false → (∀ k ∈ dirs l.toArray i, d k = true) → I d s → o.guard = none ∧ OpW P n o s (I (fun j => d j || j == i)))
  (hend : ∀ d s, (∀ i < l.length, d i = true) → I d s → Q .normal s) : W P n (.region id l.toArray true) Q s := by
 intro g a w hn hat
 have hat' : At g s a { w with drawn := w.drawn + 1 } := by
  obtain ⟨⟨m, reg, h1, h2, h3⟩, h4, h5, h6⟩ := hat
  have hg := Grow.draw w (w.drawn + 1)
  exact ⟨⟨m, reg, h1.grow hg, h2, h3⟩, h4.trans (hg.evol (fun _ _ => False)) (fun _ _ k => k.elim), h5, h6⟩
 refine wp_region_any hm ?_
 simp only [List.all_eq_true, List.mem_range, decide_eq_true_eq] at hac
 refine wpAny_of_I (Q := Q) I (fun i hi => hac i (by simpa using hi)) (fun d s i o ho => hst d s i o (by simpa using ho)) (fun d s hd => hend d s (fun i hi => hd i (by simpa using hi))) hn _ (List.range l.toArray.size) _ s a _ ?_ (List.Sublist.refl _) (by simp) ?_ ?_ hat'
 ·simp
 ·intro i hi
  simp at hi
  simp [hi]
 ·have : (fun j => !(List.range l.toArray.size).contains j) = fun j => decide (l.length ≤ j) := by
   funext j
   by_cases h : j < l.length
   ·simp [h]
   ·simp [h]; omega
  rw [this]; exact h0
theorem OpW.frz {o : Oper} {K K' : St → Prop} (h : OpW P n o s K) (hk : ∀ s, K s → ∃ id sz rows, s.o[id]? = some (.cells sz rows) ∧ (rows.all fun r => r.all fun c => c.dat.ltk 0 && c.dat.plain) = true ∧ K' (frS id sz rows s)) : OpW P n o s K' :=
 fun g a w hn hat => Oper.wp_mono (fun _ _ ⟨s', h1, h2⟩ => by
  obtain ⟨id, sz, rows, e1, e2, e3⟩ := hk s' h1
  exact ⟨_, e3, h2.freeze e1 e2⟩) (h g a w hn hat)
theorem OpW.weak {o : Oper} {K K' : St → Prop} (h : OpW P n o s K) (hk : ∀ s, K s → ∃ s', (∀ k, Le (s.t k) (s'.t k)) ∧ s'.o = s.o ∧ K' s') : OpW P n o s K' :=
 fun g a w hn hat => Oper.wp_mono (fun _ _ ⟨s', h1, h2⟩ => by
  obtain ⟨s2, e1, e2, e3⟩ := hk s' h1
  exact ⟨s2, e3, h2.weak e1 e2⟩) (h g a w hn hat)
theorem OpW_run {o : Oper} {K : St → Prop} (tk : List Nat) (hc : isCall o = false) (hg : o.guard = none) (h : ∀ K' : St → Prop, (∀ s, K s → K' s) → runR P n [] tk (fun _ _ => False) [o] K' s) : OpW P n o s K := by
 have h := h K fun _ h => h
 simp only [runR, hc, Bool.false_eq_true, if_false, andR, runO, hg] at h
 exact OpW_step tk (s' := (step1 P n tk o s).2) (by rw [← h.1]) h.2
theorem W_nil0 {c : Code} (K G k : Nat) {sz : Nat} {row : List AV} (ho : s.o[K]? = some (.cells sz [row])) (hG : G < s.o.length) (hk : row[k]? = some .nsl) (hno : (row.all fun c => !c.isOwn) = true)
  (h : W P n c Q ⟨s.t, s.o.set K (.cells sz [row.set k (.ref G 0 0)])⟩) : W P n c Q s := by
 refine h.at fun g a w hat => ?_
 obtain ⟨⟨m, reg, h1, h2, h3⟩, h4, h5, h6⟩ := hat
 obtain ⟨mb, hmb⟩ := h1.mget ho
 have hno2 : ∀ x ∈ row.set k (.ref G 0 0), x.isOwn = false := by
  intro x hx
  rcases List.mem_or_eq_of_mem_set hx with q | q
  ·simpa using List.all_eq_true.1 hno x q
  ·rw [q]; rfl
 have := h1.objSet (w' := w) ho trivial hmb rfl rfl rfl rfl (fun _ _ => rfl) (.cells sz [row.set k (.ref G 0 0)]) trivial (fun Y' K' => ?_) ?_
 ·obtain ⟨r1, r2, r3⟩ := this
  exact ⟨⟨m, _, r1, fun b x hx => h2 b x (r3 b x hx), h3⟩, h4, h5, h6⟩
 ·obtain ⟨q1, q2, q3, q4⟩ := h1.ob K _ mb ho hmb
  refine ⟨q1, q2, fun r row' hr => ?_, fun r row' c av hr hc => ?_⟩
  ·rw [List.getElem?_singleton] at hr
   split at hr
   ·obtain rfl := Option.some.inj hr
    rw [List.length_set]
    exact q3 0 row rfl
   ·cases hr
  ·rw [List.getElem?_singleton] at hr
   split at hr
   ·rename_i hr0
    obtain rfl := Option.some.inj hr
    subst hr0
    rw [List.getElem?_set] at hc
    split at hc
    ·rename_i e
     subst e
     split at hc
     ·obtain rfl := Option.some.inj hc
      obtain ⟨v, e1, e2⟩ := q4 0 row k _ rfl hk
      refine ⟨v, e1, ?_⟩
      simp only [V] at e2 ⊢
      obtain ⟨mg, hmg⟩ : ∃ mg, m[G]? = some mg := ⟨_, List.getElem?_eq_getElem (by rw [h1.len]; exact hG)⟩
      exact ⟨mg, _, 0, hmg, e2, Nat.le_refl _, by decide, .inl (by simp)⟩
     ·cases hc
    ·obtain ⟨v, e1, e2⟩ := q4 0 row c av rfl hc
     exact ⟨v, e1, V.keep K' _ _ e2⟩
   ·cases hr
 ·intro r c sz' rows' he
  simp only [leaf, List.getElem?_cons_zero] at he
  have : ∃ row', [row.set k (.ref G 0 0)][r]? = some row' ∧ row'[c]? = some (.own sz' rows') := by
   cases hq : [row.set k (.ref G 0 0)][r]? with
   | none => rw [hq] at he; simp at he
   | some row' => rw [hq] at he; exact ⟨row', rfl, by simpa using he⟩
  obtain ⟨row', e1, e2⟩ := this
  rw [List.getElem?_singleton] at e1
  split at e1
  ·obtain rfl := Option.some.inj e1
   have := hno2 _ (List.mem_of_getElem? e2)
   simp [AV.isOwn] at this
  ·cases e1
end
end Go.AW
namespace Go.AW
open Go
set_option linter.unusedSimpArgs false
set_option linter.unusedVariables false
def putRows (rows : List (List AV)) : Nat → List AV → List (List AV)
 | _, [] => rows
 | r, a :: l => putRows (rset rows r 0 a) (r + 1) l
theorem putRows_len : ∀ (l : List AV) (rows : List (List AV)) (r : Nat), (putRows rows r l).length = rows.length
 | [], _, _ => rfl
 | a :: l, rows, r => by rw [putRows, putRows_len l, rset_length]
section
variable {w : World} {Z : CS} {m : List MB} {reg : Pl → Option Reg} {t : Nat → AV} {u : Nat → Value} {o : List Ob}
theorem Rel.storeRows (q : Nat) (hq : u q = undef) : ∀ (l : List AV) (vs : List Value) (w : World) (reg : Pl → Option Reg) (o : List Ob) (id r : Nat) (rows : List (List AV)) (mb : MB),
  Rel w Z m reg t u o → Vs w (YS Z m reg o) m l vs → (∀ a ∈ l, a.isOwn = false) →
  o[id]? = some (.cells 1 rows) → m[id]? = some mb → mb.sz = 1 → (∀ x ∈ rows, x.length = 1) → r + l.length ≤ rows.length →
  ∃ reg', Rel (putCells w mb.blk (mb.base + r) vs) Z m reg' t u (o.set id (.cells 1 (putRows rows r l))) ∧
   Evol w (XS m reg o) (putCells w mb.blk (mb.base + r) vs) ∧
   ∀ b x, XS m reg' (o.set id (.cells 1 (putRows rows r l))) b x → XS m reg o b x
 | [], vs, w, reg, o, id, r, rows, mb, h, hvs, hl, ho, hm, hsz, h1, hr => by
  simp only [Vs] at hvs; subst hvs
  have e : o.set id (.cells 1 (putRows rows r [])) = o := by
   simp only [putRows]
   apply List.ext_getElem?; intro i
   rw [set_get ho]; split
   ·rename_i e; rw [e, ho]
   ·rfl
  rw [e]
  exact ⟨reg, h, Evol.refl _ _, fun _ _ k => k⟩
 | a :: l, vs, w, reg, o, id, r, rows, mb, h, hvs, hl, ho, hm, hsz, h1, hr => by
  simp only [Vs] at hvs
  obtain ⟨v, vs', rfl, hv, hvs'⟩ := hvs
  simp only [List.length_cons] at hr
  have hrow : rows[r]? = some rows[r] := List.getElem?_eq_getElem (by omega)
  obtain ⟨reg1, g1, hE, _, hX⟩ := h.storeV q hq hv (.inl (hl a (by simp))) ho hm hrow (c := 0) (by rw [h1 _ (List.getElem_mem _)]; omega) rfl rfl
  have ea : mb.base + r * mb.sz + 0 = mb.base + r := by rw [hsz]; omega
  rw [ea] at g1 hE
  have hK : Keeps w (YS Z m reg o) m (w.setCell ⟨mb.blk, mb.base + r, none⟩ v) (YS Z m reg1 (o.set id (.cells 1 (rset rows r 0 a)))) m :=
   ⟨fun b' y v' hcv hy => ⟨hE.cell b' y v' (fun k => hy (.inl k)) hcv, fun k => hy (k.imp (hX b' y) (fun h => h))⟩, fun _ _ h => h⟩
  obtain ⟨reg2, h2, hE2, hX2⟩ := Rel.storeRows q hq l vs' _ reg1 _ id (r + 1) (rset rows r 0 a) mb g1 (Vs.keep hK _ _ hvs')
   (fun a' h' => hl a' (by simp [h'])) (by rw [set_get ho, if_pos rfl]) hm hsz (fun x hx => by
    obtain ⟨i, hi⟩ := List.getElem?_of_mem hx
    rw [rset_get] at hi
    split at hi
    ·cases hz : rows[i]? with
     | none => rw [hz] at hi; cases hi
     | some z =>
      rw [hz] at hi
      simp only [Option.map_some, Option.some.injEq] at hi
      rw [← hi, List.length_set]
      exact h1 z (List.mem_of_getElem? hz)
    ·exact h1 x (List.mem_of_getElem? hi)) (by rw [rset_length]; omega)
  rw [List.set_set] at h2 hX2
  refine ⟨reg2, ?_, ?_, ?_⟩
  ·simp only [putCells, putRows]
   rwa [show mb.base + (r + 1) = mb.base + r + 1 by omega] at h2
  ·simp only [putCells]
   rw [show mb.base + (r + 1) = mb.base + r + 1 by omega] at hE2
   exact hE.trans hE2 fun b x k => .inl (hX b x k)
  ·intro b x k
   simp only [putRows] at k
   exact hX b x (hX2 b x k)
end
section
variable {P : Program} {n : Nat} {Q : Exit → St → Prop} {s : St}
theorem W_unown {c : Code} (id : Nat) {sz : Nat} {rows : List (List AV)} (ho : s.o[id]? = some (.cells sz rows)) (h : W P n c Q ⟨s.t, s.o.set id (.cells sz (rows.map fun r => r.map AV.dat))⟩) : W P n c Q s := by
 refine h.at fun g a w hat => ?_
 obtain ⟨⟨m, reg, h1, h2, h3⟩, h4, h5, h6⟩ := hat
 obtain ⟨reg1, r1, x1⟩ := h1.unown ho
 exact ⟨⟨m, reg1, r1, fun b x hx => h2 b x (x1 b x hx), h3⟩, h4, h5, h6⟩
theorem OpW_copy {o : Oper} {c : Call} {t1 t2 e : TypeId} {d x y J a b n1 n2 : Nat} {rows : List (List AV)} {K : St → Prop} (hop : o.op = .call c) (hb : c.callee = .builtin .copy) (ha : c.args = #[.tmp x, .tmp y]) (hat : c.argTypes = #[t1, t2])
  (hu : ukOf P t1 = .slice e) (hue : ukOf P e ≠ .other) (hsz : szOf P e = 1) (hd : o.dst = some d) (hdn : d < n) (hx : s.t x = .ref J a n1) (hy : s.t y = .ref J b n2) (hJ : s.o[J]? = some (.cells 1 rows)) (hba : a + n1 ≤ rows.length) (hbb : b + n2 ≤ rows.length)
  (hr1 : ∀ r ∈ rows, r.length = 1) (hpl : ∀ r ∈ rows, ∀ z ∈ r, z.isOwn = false ∧ z.plain = true)
  (hK : K ⟨upd s.t d (.i .i64 (min n1 n2 : Nat)), s.o.set J (.cells 1 (putRows rows a (((rows.drop b).take (min n1 n2)).map fun r => r.getD 0 .any)))⟩) : OpW P n o s K := by
 intro g ac w hn hat0
 subst hn
 obtain ⟨⟨m, reg, h1, h2, h3⟩, h4, h5, h6⟩ := hat0
 have vx := h1.tv x
 have vy := h1.tv y
 rw [hx] at vx
 rw [hy] at vy
 simp only [V] at vx vy
 obtain ⟨mb, ax, cx, hm, hux, hlx, hcx, hax⟩ := vx
 obtain ⟨mb', ay, cy, hm', huy, hly, hcy, hay⟩ := vy
 rw [hm] at hm'
 obtain rfl := Option.some.inj hm'
 obtain ⟨hs1, ⟨ca, el, hblk, hsize, hlim⟩, hrl, hcell⟩ := h1.ob J _ mb hJ hm
 obtain ⟨de, hde⟩ := uk_some hue
 obtain ⟨i, hi⟩ := und_info hde
 have hexec : ∀ (v : Value) (w' : World), (Builtin.copy_ #[t1, t2] o.type #[ac.tmps.getD x undef, ac.tmps.getD y undef]).run P w = .ok v w' → (execOp ac.eval o).run P w = .ok (.value v) w' := by
  intro v w' hr
  unfold execOp
  rw [hop]
  simp only
  unfold resolve
  simp only [hb, ha, hat]
  rw [srun_bind_ok (srun_pure _)]
  simp only [invoke, builtin, List.map_toArray, List.map_cons, List.map_nil]
  show Sem.run P (do pure (Next.value (← Builtin.copy_ #[t1, t2] o.type #[ac.tmps.getD x undef, ac.tmps.getD y undef]))) w = _
  rw [srun_bind_ok hr]; rfl
 generalize hN : min n1 n2 = N at hK
 have hNm : Nat.min n2 n1 = N := by rw [← hN]; exact Nat.min_comm _ _
 -- what is read
 have hread : ∃ vs : List Value, (Builtin.firstCells 1 N (.slice ay n2 cy)).run P w = .ok vs.toArray w ∧ Vs w (YS g.Z m reg s.o) m (((rows.drop b).take N).map fun r => r.getD 0 .any) vs := by
  by_cases h0 : N = 0
  ·subst h0
   refine ⟨[], ?_, by simp [Vs]⟩
   cases ay with
   | none => rfl
   | some ad => simp [Builtin.firstCells, loadCells, loadCellsFrom, srun_pure]
  ·have hay2 : ay = some ⟨mb.blk, mb.base + b * mb.sz, none⟩ := by
    rcases hay with ⟨q, _⟩ | ⟨q, _⟩
    ·omega
    ·exact q
   rw [hs1, Nat.mul_one] at hay2
   rw [hay2]
   have hlen : (((rows.drop b).take N).map fun r => r.getD 0 .any).length = N * 1 := by
    rw [List.length_map, List.length_take, List.length_drop]; omega
   obtain ⟨vs, q1, q2⟩ := run_loadCellsFrom (P := P) (w := w) (Y := YS g.Z m reg s.o) (m := m) (blk := mb.blk) (x := mb.base + b) (N * 1) 0 #[] _ hlen (fun c av hc => by
    rw [List.getElem?_map, List.getElem?_take] at hc
    split at hc
    ·rw [List.getElem?_drop] at hc
     cases hr : rows[b + c]? with
     | none => rw [hr] at hc; cases hc
     | some row =>
      rw [hr] at hc
      simp only [Option.map_some, Option.some.injEq] at hc
      have hl1 := hr1 row (List.mem_of_getElem? hr)
      have h0 : row[0]? = some av := by
       rw [← hc, List.getD_eq_getElem?_getD]
       match row, hl1 with
       | [z], _ => rfl
      obtain ⟨v, v1, v2⟩ := hcell (b + c) row 0 av hr h0
      exact ⟨v, by rwa [show mb.base + (b + c) * 1 + 0 = mb.base + b + 0 + c by omega] at v1, v2⟩
    ·cases hc)
   refine ⟨vs, ?_, q2⟩
   show (loadCells ⟨mb.blk, mb.base + b, none⟩ (N * 1)).run P w = _
   unfold loadCells
   rw [q1]
   simp
 obtain ⟨vs, hfc, hvs⟩ := hread
 have hcells : ∀ z ∈ (((rows.drop b).take N).map fun r => r.getD 0 .any), z.isOwn = false ∧ z.plain = true := by
  intro z hz
  obtain ⟨r, hr, rfl⟩ := List.mem_map.1 hz
  have hrm : r ∈ rows := List.mem_of_mem_drop (List.mem_of_mem_take hr)
  have hl1 := hr1 r hrm
  match r, hl1 with
  | [q], _ => exact hpl _ hrm q (by simp)
 have hflat : ∀ v ∈ vs, Value.flat v = true := Vs.flat hvs (by
  rw [List.all_eq_true]
  intro z hz
  obtain ⟨q1, q2⟩ := hcells z hz
  simp [q1, q2])
 have hvl : vs.length = N := by
  have := (Vs.get _ _ hvs).1
  rw [List.length_map, List.length_take, List.length_drop] at this
  omega
 -- what is written
 obtain ⟨reg', r1, r2, r3⟩ := Rel.storeRows (u := fun k => ac.tmps.getD k undef) (t := s.t) g.n (undef_at h5) _ vs w reg s.o J a rows mb h1 hvs (fun z hz => (hcells z hz).1) hJ hm hs1 hr1 (by rw [List.length_map, List.length_take, List.length_drop]; omega)
 have hstore : ∀ ad, ax = some ad → (storeCells ad vs 0).run P w = .ok () (putCells w mb.blk (mb.base + a) vs) := by
  intro ad had
  by_cases h0 : N = 0
  ·have : vs = [] := List.eq_nil_of_length_eq_zero (by omega)
   subst this
   simp [storeCells, putCells, srun_pure]
  ·have hax2 : ax = some ⟨mb.blk, mb.base + a * mb.sz, none⟩ := by
    rcases hax with ⟨q, _⟩ | ⟨q, _⟩
    ·omega
    ·exact q
   rw [hs1, Nat.mul_one] at hax2
   rw [hax2] at had
   obtain rfl := Option.some.inj had
   have := run_storeCells (P := P) vs w mb.blk (mb.base + a) 0 ca el hblk (by omega) hflat
   simpa using this
 have hnone : ax = none → putCells w mb.blk (mb.base + a) vs = w := by
  intro hq
  have : vs = [] := by
   rcases hax with ⟨q, _⟩ | ⟨q, _⟩
   ·exact List.eq_nil_of_length_eq_zero (by omega)
   ·rw [hq] at q; cases q
  rw [this]; rfl
 have hrun : (Builtin.copy_ #[t1, t2] o.type #[ac.tmps.getD x undef, ac.tmps.getD y undef]).run P w = .ok (.int .i64 (N : Nat)) (putCells w mb.blk (mb.base + a) vs) := by
  have e1 : ac.tmps.getD x undef = .slice ax n1 cx := hux
  have e2 : ac.tmps.getD y undef = .slice ay n2 cy := huy
  rw [e1, e2]
  unfold Builtin.copy_
  simp only [List.getElem?_toArray, List.getElem?_cons_zero, List.getElem?_cons_succ]
  rw [srun_bind_ok (run_und (uk_slice hu))]
  simp only
  rw [srun_bind_ok (x := n2) (w' := w) rfl]
  simp only [hNm]
  rw [srun_bind_ok (run_size hi), hsz, srun_bind_ok hfc]
  cases hq : ax with
  | none =>
   rw [hnone hq]
   rfl
  | some ad =>
   have := hstore ad hq
   simp only
   rw [srun_bind_ok this]
   rfl
 refine Oper.wp_mono (fun a' w' h => h) ((Does.wp (s' := ⟨upd s.t d (.i .i64 (N : Nat)), s.o.set J (.cells 1 (putRows rows a (((rows.drop b).take N).map fun r => r.getD 0 .any)))⟩) (.inl ⟨_, _, hexec _ _ hrun, ?_⟩)) (fun a' w' h' => ⟨_, hK, h'⟩))
 rw [hd]
 exact At.put (d := some d) (av := .i .i64 (N : Nat)) (s := ⟨s.t, _⟩) r1 (fun b x k => h2 b x (r3 b x k)) h3 (h4.trans r2 h2) h5 h6 (by simpa [dstOk] using hdn) (by simp only [V]) (.inl rfl)
end
end Go.AW
namespace Go.AW
open Go Go.Proofs TyTry Go.IntWalk
set_option linter.unusedSimpArgs false
set_option linter.unusedVariables false
set_option maxRecDepth 10000
set_option maxHeartbeats 1000000
theorem copied_spec (l : List (List Int)) (hl : l.length ≤ 1000000) (hll : ∀ x ∈ l, x.length ≤ 1000000) : ACallsD Try.prog 62 [.sl 1 (tups l)] (.sl 1 (tups l)) := by
 refine ACalls_of' (n := 21) (rs := [.tmp 2]) (show Try.prog.funcs[62]? = some Try.f62 by kernel_rfl) rfl rfl rfl (by simp) (by decide +kernel) ?_
 repeat (first | refine nav ?_ | refine bo ?_)
 (refine wr fun K R hK hR => ?_; simp (maxSteps := 10000000) only [go_sem]; (try go_ints); (repeat refine And.intro side ?_); (first | refine hK _ ?_ | refine hR _ _ ?_); clear hK hR K R)
 repeat (first | refine nav ?_ | refine bo ?_)
 (refine wr fun K R hK hR => ?_; simp (maxSteps := 10000000) only [go_sem]; (try go_ints); (repeat refine And.intro side ?_); (first | refine hK _ ?_ | refine hR _ _ ?_); clear hK hR K R)
 repeat (first | refine nav ?_ | refine bo ?_)
 (refine wr fun K R hK hR => ?_; simp (maxSteps := 10000000) only [go_sem]; (try go_ints); (repeat refine And.intro side ?_); (first | refine hK _ ?_ | refine hR _ _ ?_); clear hK hR K R)
 repeat (first | refine nav ?_ | refine bo ?_)
 refine W_for 5 20 [3, 4] (fun m t o => ∃ i : Nat, o = [] ∧ t 3 = .own 1 (tups (l.take i)) ∧ t 4 = .i .i64 i ∧ m = l.length - i ∧ i ≤ l.length) l.length ⟨0, rfl, by simp only [go_sem] <;> rfl, by simp only [go_sem] <;> rfl, rfl, by omega⟩ ?_
 rintro m t o ⟨i, rfl, h3, h4, rfl, hi⟩
 repeat (first | refine nav ?_ | refine bo ?_)
 (refine wr fun K R hK hR => ?_; simp (maxSteps := 10000000) only [go_sem, h4]; (try go_ints); (try simp only [go_sem, h4]); (repeat refine And.intro side ?_); (first | refine hK _ ?_ | refine hR _ _ ?_); clear hK hR K R)
 repeat (first | refine nav ?_ | refine bo ?_)
 refine W_cond (by simp only [go_sem] <;> exact rfl) (fun hb => ?_) (fun hb => ?_)
 ·have hb : i < l.length := by simpa using hb
  obtain ⟨x, hx⟩ : ∃ x, l[i]? = some x := ⟨_, List.getElem?_eq_getElem hb⟩
  have hxl := hll x (List.mem_of_getElem? hx)
  have htl : (tups (l.take i)).length = i := by rw [tups_len, List.length_take]; omega
  repeat (first | refine nav ?_ | refine bo ?_)
  (refine W_reg [12, 11] fun K R hK hR => ?_; simp (maxSteps := 10000000) only [go_sem, h3, h4, tups_get hx, htl, and_self, if_false]; (try go_ints); (try simp only [go_sem, h3, h4, tups_get hx, htl, and_self, if_false]); (repeat refine And.intro side ?_); (first | refine hK _ ?_ | refine hR _ _ ?_); clear hK hR K R)
  repeat (first | refine nav ?_ | refine bo ?_)
  have htk : tups (l.take i) ++ [[.sl 1 (ints x)]] = tups (l.take (i + 1)) := by
   rw [List.take_add_one, hx]; simp [tups]
  rw [htk]
  (refine wr fun K R hK hR => ?_; simp (maxSteps := 10000000) only [go_sem, h4]; (try go_ints); (try simp only [go_sem, h4]); (repeat refine And.intro side ?_); (first | refine hK _ ?_ | refine hR _ _ ?_); clear hK hR K R)
  repeat (first | refine nav ?_ | refine bo ?_)
  refine forQ_normal (l.length - (i + 1)) (by omega) ⟨i + 1, rfl, ?_, ?_, rfl, by omega⟩
  ·simp only [go_sem]
  ·simp only [go_sem] <;> simp
 ·have hb : ¬ i < l.length := by simpa using hb
  obtain rfl : i = l.length := by omega
  rw [List.take_length] at h3
  repeat (first | refine nav ?_ | refine bo ?_)
  (refine wr fun K R hK hR => ?_; simp (maxSteps := 10000000) only [go_sem, h3]; (try go_ints); (try simp only [go_sem, h3]); (repeat refine And.intro side ?_); (first | refine hK _ ?_ | refine hR _ _ ?_); clear hK hR K R)
  repeat (first | refine nav ?_ | refine bo ?_)
  refine endQ_data (by simp only [go_sem] <;> exact rfl) (Le.of_eq ?_) rfl
  rfl
theorem putRows_get : ∀ (l : List AV) (rows : List (List AV)) (r i : Nat), (putRows rows r l)[i]? = if r ≤ i ∧ i < r + l.length then rows[i]?.map (·.set 0 (l.getD (i - r) .any)) else rows[i]?
 | [], rows, r, i => by
  rw [putRows, if_neg (by simp)]
 | a :: l, rows, r, i => by
  rw [putRows, putRows_get l, rset_get]
  simp only [List.length_cons]
  by_cases h1 : r = i
  ·subst h1
   rw [if_neg (by omega), if_pos rfl, if_pos (by omega)]
   simp
  ·rw [if_neg h1]
   by_cases h2 : r + 1 ≤ i ∧ i < r + 1 + l.length
   ·rw [if_pos h2, if_pos (by omega)]
    congr 2
    have : i - r = i - (r + 1) + 1 := by omega
    rw [this]
    simp
   ·rw [if_neg h2, if_neg (by omega)]
def posS (out : List (List Int)) (x : List Int) : Nat → Nat
 | 0 => 0
 | k + 1 => if lessL x (out.getD k []) then posS out x k else k + 1
theorem posS_le (out : List (List Int)) (x : List Int) : ∀ k, posS out x k ≤ k
 | 0 => Nat.le_refl _
 | k + 1 => by
  rw [posS]
  split
  ·exact Nat.le_succ_of_le (posS_le out x k)
  ·exact Nat.le_refl _
def insS (out : List (List Int)) (x : List Int) : List (List Int) :=
 let k := posS out x out.length
 if 0 < k ∧ out.getD (k - 1) [] = x then out else out.take k ++ x :: out.drop k
def sortS (l : List (List Int)) : List (List Int) := l.foldl insS []
theorem insS_mem {out : List (List Int)} {x y : List Int} : y ∈ insS out x ↔ y ∈ out ∨ y = x := by
 unfold insS
 simp only
 generalize hk : posS out x out.length = k
 have hle := posS_le out x out.length
 rw [hk] at hle
 split
 ·rename_i h
  constructor
  ·exact .inl
  ·rintro (h1 | rfl)
   ·exact h1
   ·rw [← h.2, List.getD_eq_getElem?_getD, List.getElem?_eq_getElem (by omega), Option.getD_some]
    exact List.getElem_mem _
 ·rw [List.mem_append, List.mem_cons]
  constructor
  ·rintro (h | rfl | h)
   ·exact .inl (List.mem_of_mem_take h)
   ·exact .inr rfl
   ·exact .inl (List.mem_of_mem_drop h)
  ·rintro (h | rfl)
   ·rw [← List.take_append_drop k out] at h
    rcases List.mem_append.1 h with h | h
    ·exact .inl h
    ·exact .inr (.inr h)
   ·exact .inr (.inl rfl)
theorem insS_len (out : List (List Int)) (x : List Int) : (insS out x).length ≤ out.length + 1 := by
 unfold insS
 simp only
 have hle := posS_le out x out.length
 split
 ·omega
 ·rw [List.length_append, List.length_take, List.length_cons, List.length_drop]; omega
theorem sortS_succ {l : List (List Int)} {i : Nat} {x : List Int} (h : l[i]? = some x) : sortS (l.take (i + 1)) = insS (sortS (l.take i)) x := by
 rw [List.take_add_one, h, sortS, List.foldl_append]
 rfl
theorem sortS_len (l : List (List Int)) : ∀ i ≤ l.length, (sortS (l.take i)).length ≤ i := by
 intro i
 induction i with
 | zero => intro _; simp [sortS]
 | succ i ih =>
  intro h
  rw [sortS_succ (List.getElem?_eq_getElem (by omega : i < l.length))]
  have := insS_len (sortS (l.take i)) l[i]
  have := ih (by omega)
  omega
theorem sortS_mem (l : List (List Int)) : ∀ i ≤ l.length, ∀ y, y ∈ sortS (l.take i) ↔ y ∈ l.take i := by
 intro i
 induction i with
 | zero => intro _ y; simp [sortS]
 | succ i ih =>
  intro h y
  have hl : l[i]? = some l[i] := List.getElem?_eq_getElem (by omega)
  have e : l.take (i + 1) = l.take i ++ [l[i]] := by rw [List.take_add_one, hl]; rfl
  rw [sortS_succ hl, insS_mem, ih (by omega), e, List.mem_append, List.mem_singleton]
theorem rows_ins {out : List (List Int)} {x : List Int} {k : Nat} (hk : k ≤ out.length) {v : AV} (hv : v.dat = .sl 1 (ints x)) :
  ((putRows (tups out ++ [[AV.nsl]]) (k + 1) ((((tups out ++ [[AV.nsl]]).drop k).take (min (out.length - k) (out.length + 1 - k))).map fun r : List AV => r.getD 0 .any)).modify k (fun row => row.set 0 v)).map (fun r => r.map AV.dat) = tups (out.take k ++ x :: out.drop k) := by
 rw [show min (out.length - k) (out.length + 1 - k) = out.length - k by omega]
 apply List.ext_getElem?
 intro i
 have hll : ((((tups out ++ [[AV.nsl]]).drop k).take (out.length - k)).map fun r : List AV => r.getD 0 .any).length = out.length - k := by
  rw [List.length_map, List.length_take, List.length_drop, List.length_append, tups_len, List.length_singleton]; omega
 have hmod : ∀ (L : List (List AV)) (f : List AV → List AV), (L.modify k f)[i]? = if i = k then L[i]?.map f else L[i]? := by
  intro L f
  rw [List.getElem?_modify]
  by_cases e : k = i
  ·subst e; simp
  ·have e2 : ¬ i = k := fun h => e h.symm
   simp [e, e2]
 rw [List.getElem?_map, hmod, putRows_get, hll]
 have hg : ∀ j, (tups out ++ [[AV.nsl]])[j]? = if j < out.length then some [.sl 1 (ints (out.getD j []))] else if j = out.length then some [.nsl] else none := by
  intro j
  by_cases h : j < out.length
  ·rw [if_pos h, List.getElem?_append_left (by rw [tups_len]; exact h)]
   simp [tups, h]
  ·rw [if_neg h, List.getElem?_append_right (by rw [tups_len]; omega), tups_len]
   by_cases e : j = out.length
   ·subst e; simp
   ·rw [if_neg e, List.getElem?_eq_none]
    simp; omega
 have hr : (tups (out.take k ++ x :: out.drop k))[i]? = if i < k then some [.sl 1 (ints (out.getD i []))] else if i = k then some [.sl 1 (ints x)] else if i < out.length + 1 then some [.sl 1 (ints (out.getD (i - 1) []))] else none := by
  simp only [tups, List.getElem?_map]
  by_cases h1 : i < k
  ·rw [if_pos h1, List.getElem?_append_left (by rw [List.length_take]; omega), List.getElem?_take_of_lt h1]
   simp [show i < out.length by omega]
  ·rw [if_neg h1, List.getElem?_append_right (by rw [List.length_take]; omega), List.length_take, Nat.min_eq_left hk]
   by_cases h2 : i = k
   ·subst h2; simp
   ·rw [if_neg h2]
    have e : i - k = (i - 1 - k) + 1 := by omega
    rw [e, List.getElem?_cons_succ, List.getElem?_drop, show k + (i - 1 - k) = i - 1 by omega]
    by_cases h3 : i < out.length + 1
    ·rw [if_pos h3]
     simp [show i - 1 < out.length by omega]
    ·rw [if_neg h3, List.getElem?_eq_none (by omega)]
     rfl
 rw [hr]
 by_cases h1 : i < k
 ·rw [if_neg (show ¬ i = k by omega), if_neg (show ¬ (k + 1 ≤ i ∧ i < k + 1 + (out.length - k)) by omega), hg, if_pos (show i < out.length by omega), if_pos h1]
  rfl
 ·rw [if_neg h1]
  by_cases h2 : i = k
  ·subst h2
   rw [if_pos rfl, if_pos rfl, if_neg (show ¬ (i + 1 ≤ i ∧ i < i + 1 + (out.length - i)) by omega), hg]
   by_cases h3 : i < out.length
   ·rw [if_pos h3]; simp [hv]
   ·rw [if_neg h3, if_pos (by omega)]; simp [hv]
  ·rw [if_neg h2, if_neg h2]
   by_cases h3 : i < out.length + 1
   ·rw [if_pos (show k + 1 ≤ i ∧ i < k + 1 + (out.length - k) by omega), if_pos h3, hg]
    have hc : ((((tups out ++ [[AV.nsl]]).drop k).take (out.length - k)).map fun r : List AV => r.getD 0 .any).getD (i - (k + 1)) .any = .sl 1 (ints (out.getD (i - 1) [])) := by
     rw [List.getD_eq_getElem?_getD, List.getElem?_map, List.getElem?_take_of_lt (by omega), List.getElem?_drop, hg, if_pos (by omega), show k + (i - (k + 1)) = i - 1 by omega]
     rfl
    rw [hc]
    by_cases h4 : i < out.length
    ·rw [if_pos h4]; rfl
    ·rw [if_neg h4, if_pos (by omega)]; rfl
   ·rw [if_neg (show ¬ (k + 1 ≤ i ∧ i < k + 1 + (out.length - k)) by omega), if_neg h3, hg, if_neg (by omega), if_neg (by omega)]
    rfl
end Go.AW
