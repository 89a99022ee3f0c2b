/-
Contracts: graphOf.
-/
import Derived.Test.YtilaieleaiadeaaKaf
namespace Go.AW
open Go Go.Proofs TyTry Go.IntWalk
set_option linter.unusedSimpArgs false
set_option linter.unusedVariables false
set_option maxRecDepth 10000
def isE (r : RelD) : Bool := r.name.toList == (⟨#[69]⟩ : ByteArray).toList && (r.arity == 2)
def isAr (r : RelD) : Bool := r.name.toList == (⟨#[65]⟩ : ByteArray).toList && (r.arity == 1)
abbrev GD := List (List Int) × List Bool
def gT (r : RelD) (g : GD) (t : List Int) : GD :=
 if isE r then (g.1.modify (t.getD 0 0).toNat (· ++ [t.getD 1 0]), g.2) else if isAr r then (g.1, g.2.set (t.getD 0 0).toNat true) else g
def gR (g : GD) (r : RelD) : GD := r.tuples.foldl (gT r) g
def graphD (s : StrD) : GD := s.rels.foldl gR (List.replicate s.size.toNat [], List.replicate s.size.toNat false)
def bools (l : List Bool) : List (List AV) := l.map fun b => [.b b]
theorem bools_len (l : List Bool) : (bools l).length = l.length := by simp [bools]
theorem bools_get {l : List Bool} {i : Nat} {x : Bool} (h : l[i]? = some x) : (bools l).getD i [] = [.b x] := by simp [bools, h]
attribute [go_sem] bools_len
def ownC (l : List Int) : AV := if l = [] then .nsl else .own 1 (ints l)
theorem ownC_nil : ownC [] = .nsl := rfl
theorem ownC_ne {l : List Int} (h : l ≠ []) : ownC l = .own 1 (ints l) := if_neg h
def ownR (l : List (List Int)) : List (List AV) := l.map fun x => [ownC x]
theorem ownR_len (l : List (List Int)) : (ownR l).length = l.length := by simp [ownR]
theorem ownR_get {l : List (List Int)} {i : Nat} {x : List Int} (h : l[i]? = some x) : (ownR l).getD i [] = [ownC x] := by simp [ownR, h]
attribute [go_sem] ownR_len
theorem ownR_modify {l : List (List Int)} {p : Nat} {row0 : List Int} {x : Int} {v : AV} (h : l[p]? = some row0) (hv : v = ownC (row0 ++ [x])) : (ownR l).modify p (fun row => row.set 0 v) = ownR (l.modify p (· ++ [x])) := by
 apply List.ext_getElem?
 intro i
 simp only [ownR, List.getElem?_modify, List.getElem?_map]
 by_cases hi : p = i
 ·subst hi
  simp [h, hv]
 ·simp [hi]
theorem ownR_modify2 (l : List (List AV)) (p : Nat) (a b : AV) : (l.modify p (fun row => row.set 0 a)).modify p (fun row => row.set 0 b) = l.modify p (fun row => row.set 0 b) := by
 apply List.ext_getElem?
 intro i
 simp only [List.getElem?_modify]
 by_cases hi : p = i
 ·subst hi
  cases l[p]? <;> simp
 ·simp [hi]
theorem ownR_modify_get {l : List (List Int)} {p : Nat} {row0 : List Int} (h : l[p]? = some row0) (v : AV) : ((ownR l).modify p (fun row => row.set 0 v)).getD p [] = [v] := by
 rw [List.getD_eq_getElem?_getD, List.getElem?_modify]
 simp [ownR, h]
theorem bools_set (l : List Bool) (p : Nat) (b : Bool) : (bools l).modify p (fun row => row.set 0 (.b b)) = bools (l.set p b) := by
 apply List.ext_getElem?
 intro i
 simp only [bools, List.getElem?_modify, List.getElem?_map, List.getElem?_set]
 by_cases hi : p = i
 ·subst hi
  cases h : l[p]? with
  | none => have := List.getElem?_eq_none_iff.1 h; simp; omega
  | some x => have := (List.getElem?_eq_some_iff.1 h).1; simp [this]
 ·simp [hi]
theorem mem_modify {l : List (List Int)} {p : Nat} {x : Int} {r : List Int} (h : r ∈ l.modify p (· ++ [x])) : r ∈ l ∨ ∃ r0 ∈ l, r = r0 ++ [x] := by
 obtain ⟨i, hi⟩ := List.getElem?_of_mem h
 rw [List.getElem?_modify] at hi
 cases hq : l[i]? with
 | none => rw [hq] at hi; simp at hi
 | some y =>
  rw [hq] at hi
  have hy := List.mem_of_getElem? hq
  by_cases hp : p = i
  ·simp [hp] at hi; exact .inr ⟨y, hy, hi.symm⟩
  ·simp [hp] at hi; exact .inl (hi ▸ hy)
theorem okO_set {o : List Ob} {i : Nat} {x : Ob} (h : okO o = true) (hx : x.ltk o.length = true) : okO (o.set i x) = true := by
 unfold okO at h ⊢
 rw [List.length_set, List.all_eq_true]
 rw [List.all_eq_true] at h
 intro y hy
 rcases List.mem_or_eq_of_mem_set hy with hy | rfl
 ·exact h y hy
 ·exact hx
theorem ownR_ltk (l : List (List Int)) (k : Nat) : (Ob.cells 1 (ownR l)).ltk k = true := by
 simp only [Ob.ltk, ownR, List.all_map, List.all_eq_true, Function.comp, List.mem_map]
 rintro x _ y hy
 simp only [List.mem_singleton] at hy
 subst hy
 unfold ownC
 split <;> rfl
theorem bools_ltk (l : List Bool) (k : Nat) : (Ob.cells 1 (bools l)).ltk k = true := by
 simp [Ob.ltk, bools, AV.ltk]
theorem gT_len (r : RelD) (g : GD) (t : List Int) : (gT r g t).1.length = g.1.length ∧ (gT r g t).2.length = g.2.length := by
 unfold gT
 split
 ·simp
 ·split <;> simp
theorem valid_tuple {s : StrD} (h : validF s = true) {r : RelD} (hr : r ∈ s.rels) {t : List Int} (ht : t ∈ r.tuples) : (t.length : Int) = r.arity ∧ ∀ x ∈ t, 0 ≤ x ∧ x < s.size := by
 obtain ⟨i, hi⟩ := List.getElem?_of_mem hr
 obtain ⟨j, hj⟩ := List.getElem?_of_mem ht
 have hil := (List.getElem?_eq_some_iff.1 hi).1
 have hjl := (List.getElem?_eq_some_iff.1 hj).1
 simp only [validF, Bool.and_eq_true, List.all_eq_true, List.mem_range] at h
 have h1 := h.2 i hil
 rw [hi] at h1
 simp only [Bool.and_eq_true, relOk, tuplesF, List.all_eq_true, List.mem_range] at h1
 have h2 := h1.1.2 j hjl
 simp only [tupOk, List.getD_eq_getElem?_getD, hj, Option.getD_some, Bool.and_eq_true, beq_iff_eq, Bool.not_eq_true', List.any_eq_false, Bool.or_eq_true, decide_eq_true_eq] at h2
 refine ⟨h2.1.1, fun x hx => ?_⟩
 have := h2.1.2 x hx
 omega
theorem valid_size {s : StrD} (h : validF s = true) : 1 ≤ s.size ∧ s.size ≤ 64 ∧ s.rels.length ≤ 8 := by
 simp only [validF, Bool.and_eq_true, decide_eq_true_eq] at h
 exact ⟨h.1.1.1, h.1.1.2, h.1.2⟩
def graphA (g : GD) : AV := .agg [.sl 1 (tups g.1), .sl 1 (bools g.2)]
def graphR (s : StrD) (l : List SymD) : AV := if validF s = false then .tup [graphA ([], []), .i .i64 1] else if fitsF l s = false then .tup [graphA ([], []), .i .i64 4] else .tup [graphA (graphD s), .i .i64 0]
theorem graphOf_spec (s : StrD) (hs : s.Ok) (l : List SymD) (hl : l.length ≤ 1099511627776) :
  ACallsD Try.prog 34 [.agg [.i .i64 s.size, .sl 3 (rels s.rels)], .sl 2 (syms l)] (graphR s l) := by
 refine ACalls_of' (n := 86) (rs := [.cell 4 70, .tmp 5]) (show Try.prog.funcs[34]? = some Try.f34 by kernel_rfl) rfl rfl rfl (by simp) (by decide +kernel) ?_
 repeat (first | refine nav ?_ | refine bo ?_)
 (refine wr fun K R hK hR => ?_; simp (maxSteps := 10000000) only [go_sem]; (try go_ints); (repeat refine And.intro side ?_); (first | refine hK _ ?_ | refine hR _ _ ?_); clear hK hR K R)
 repeat (first | refine nav ?_ | refine bo ?_)
 (refine wr fun K R hK hR => ?_; simp (maxSteps := 10000000) only [go_sem]; (try go_ints); (repeat refine And.intro side ?_); (first | refine hK _ ?_ | refine hR _ _ ?_); clear hK hR K R)
 refine RL_callF (valid_spec s hs) rfl rfl rfl (by first | (simp only [go_sem] <;> first | exact LeA.refl _ | exact Le.refl _) | exact LeA.refl _) rfl rfl ?_
 (refine rr fun K R hK hR => ?_; simp (maxSteps := 10000000) only [go_sem]; (try go_ints); (repeat refine And.intro side ?_); (first | refine hK _ ?_ | refine hR _ _ ?_); clear hK hR K R)
 repeat (first | refine nav ?_ | refine bo ?_)
 refine W_cond (by simp only [go_sem] <;> exact rfl) (fun hv => ?_) (fun hv => ?_)
 ·simp only [Bool.not_eq_true'] at hv
  rw [show graphR s l = .tup [graphA ([], []), .i .i64 1] by simp [graphR, hv]]
  repeat (first | refine nav ?_ | refine bo ?_)
  (refine wr fun K R hK hR => ?_; simp (maxSteps := 10000000) only [go_sem]; (try go_ints); (repeat refine And.intro side ?_); (first | refine hK _ ?_ | refine hR _ _ ?_); clear hK hR K R)
  repeat (first | refine nav ?_ | refine bo ?_)
  refine endQ_data (by simp only [go_sem] <;> exact rfl) (Le.of_eq ?_) rfl
  rfl
 ·simp only [Bool.not_eq_false'] at hv
  repeat (first | refine nav ?_ | refine bo ?_)
  (refine wr fun K R hK hR => ?_; simp (maxSteps := 10000000) only [go_sem]; (try go_ints); (repeat refine And.intro side ?_); (first | refine hK _ ?_ | refine hR _ _ ?_); clear hK hR K R)
  refine RL_callF (fits_spec l hl s hs) rfl rfl rfl (by first | (simp only [go_sem] <;> first | exact LeA.refl _ | exact Le.refl _) | exact LeA.refl _) rfl rfl ?_
  (refine rr fun K R hK hR => ?_; simp (maxSteps := 10000000) only [go_sem]; (try go_ints); (repeat refine And.intro side ?_); (first | refine hK _ ?_ | refine hR _ _ ?_); clear hK hR K R)
  repeat (first | refine nav ?_ | refine bo ?_)
  refine W_cond (by simp only [go_sem] <;> exact rfl) (fun hf => ?_) (fun hf => ?_)
  ·simp only [Bool.not_eq_true'] at hf
   rw [show graphR s l = .tup [graphA ([], []), .i .i64 4] by simp [graphR, hv, hf]]
   repeat (first | refine nav ?_ | refine bo ?_)
   (refine wr fun K R hK hR => ?_; simp (maxSteps := 10000000) only [go_sem]; (try go_ints); (repeat refine And.intro side ?_); (first | refine hK _ ?_ | refine hR _ _ ?_); clear hK hR K R)
   repeat (first | refine nav ?_ | refine bo ?_)
   refine endQ_data (by simp only [go_sem] <;> exact rfl) (Le.of_eq ?_) rfl
   rfl
  ·simp only [Bool.not_eq_false'] at hf
   rw [show graphR s l = .tup [graphA (graphD s), .i .i64 0] by simp [graphR, hv, hf]]
   obtain ⟨z1, z2, z3⟩ := valid_size hv
   obtain ⟨n, hn⟩ := Int.eq_ofNat_of_zero_le (show 0 ≤ s.size by omega)
   refine W_skip ?_
   refine seqQ_normal ?_
   refine W_then (fun st => st.t 2 = .ptr 0 0 0 ∧ st.t 4 = .ptr 1 0 0 ∧ st.t 6 = .ptr 4 0 0 ∧
    st.o = [.cells 2 [[.i .i64 s.size, .sl 3 (rels s.rels)]], .cells 2 [[.own 1 [], .own 1 []]], .cells 1 (List.replicate n [.nsl]), .cells 1 (List.replicate n [.b false]), .cells 2 [[.ref 2 0 n, .ref 3 0 n]]]) ?_ ?_
   ·refine W_drawA (by decide +kernel) [] [0, 1, 3, 4] [2, 5, 7] [6, 8] [[], [0], [0, 1], [], [3], [3, 4], [4, 3, 5, 1, 0, 2], [], [2, 0, 1, 5, 3, 4, 6, 7]] [[2, 5, 7], [2, 7, 5], [5, 2, 7], [5, 7, 2], [7, 2, 5], [7, 5, 2]] (by decide +kernel) (by decide +kernel) (by decide) ?_
    intro tt htt
    simp only [List.mem_cons, List.not_mem_nil, or_false] at htt
    have hn64 : n ≤ 64 := by omega
    rcases htt with rfl | rfl | rfl | rfl | rfl | rfl
    ·simp only [List.filterMap_cons, List.filterMap_nil, List.getElem?_cons_zero, List.getElem?_cons_succ, List.cons_append, List.nil_append]
     (refine D_reg fun K R hK hR => ?_; simp (maxSteps := 10000000) only [go_sem, hn]; (try go_ints); (try simp only [go_sem, hn]); (repeat refine And.intro side ?_); (first | refine hK _ ?_ | refine hR _ _ ?_); clear hK hR K R)
     skip
     refine Fin.id ?_
     refine thenQ_normal ?_
     simp [swS, swO, sw, AV.ren, AV.rens, Ob.ren, List.range, List.range.loop, upd, hn]
    ·simp only [List.filterMap_cons, List.filterMap_nil, List.getElem?_cons_zero, List.getElem?_cons_succ, List.cons_append, List.nil_append]
     (refine D_reg fun K R hK hR => ?_; simp (maxSteps := 10000000) only [go_sem, hn]; (try go_ints); (try simp only [go_sem, hn]); (repeat refine And.intro side ?_); (first | refine hK _ ?_ | refine hR _ _ ?_); clear hK hR K R)
     refine Fin.sw 3 4 (by simp) (by simp) (by simp [swS, swO]) (by simp [swS, swO]) ?_
     refine Fin.id ?_
     refine thenQ_normal ?_
     simp [swS, swO, sw, AV.ren, AV.rens, Ob.ren, List.range, List.range.loop, upd, hn]
    ·simp only [List.filterMap_cons, List.filterMap_nil, List.getElem?_cons_zero, List.getElem?_cons_succ, List.cons_append, List.nil_append]
     (refine D_reg fun K R hK hR => ?_; simp (maxSteps := 10000000) only [go_sem, hn]; (try go_ints); (try simp only [go_sem, hn]); (repeat refine And.intro side ?_); (first | refine hK _ ?_ | refine hR _ _ ?_); clear hK hR K R)
     refine Fin.sw 2 3 (by simp) (by simp) (by simp [swS, swO]) (by simp [swS, swO]) ?_
     refine Fin.id ?_
     refine thenQ_normal ?_
     simp [swS, swO, sw, AV.ren, AV.rens, Ob.ren, List.range, List.range.loop, upd, hn]
    ·simp only [List.filterMap_cons, List.filterMap_nil, List.getElem?_cons_zero, List.getElem?_cons_succ, List.cons_append, List.nil_append]
     (refine D_reg fun K R hK hR => ?_; simp (maxSteps := 10000000) only [go_sem, hn]; (try go_ints); (try simp only [go_sem, hn]); (repeat refine And.intro side ?_); (first | refine hK _ ?_ | refine hR _ _ ?_); clear hK hR K R)
     refine Fin.sw 2 4 (by simp) (by simp) (by simp [swS, swO]) (by simp [swS, swO]) ?_
     refine Fin.sw 3 4 (by simp) (by simp) (by simp [swS, swO]) (by simp [swS, swO]) ?_
     refine Fin.id ?_
     refine thenQ_normal ?_
     simp [swS, swO, sw, AV.ren, AV.rens, Ob.ren, List.range, List.range.loop, upd, hn]
    ·simp only [List.filterMap_cons, List.filterMap_nil, List.getElem?_cons_zero, List.getElem?_cons_succ, List.cons_append, List.nil_append]
     (refine D_reg fun K R hK hR => ?_; simp (maxSteps := 10000000) only [go_sem, hn]; (try go_ints); (try simp only [go_sem, hn]); (repeat refine And.intro side ?_); (first | refine hK _ ?_ | refine hR _ _ ?_); clear hK hR K R)
     refine Fin.sw 2 3 (by simp) (by simp) (by simp [swS, swO]) (by simp [swS, swO]) ?_
     refine Fin.sw 3 4 (by simp) (by simp) (by simp [swS, swO]) (by simp [swS, swO]) ?_
     refine Fin.id ?_
     refine thenQ_normal ?_
     simp [swS, swO, sw, AV.ren, AV.rens, Ob.ren, List.range, List.range.loop, upd, hn]
    ·simp only [List.filterMap_cons, List.filterMap_nil, List.getElem?_cons_zero, List.getElem?_cons_succ, List.cons_append, List.nil_append]
     (refine D_reg fun K R hK hR => ?_; simp (maxSteps := 10000000) only [go_sem, hn]; (try go_ints); (try simp only [go_sem, hn]); (repeat refine And.intro side ?_); (first | refine hK _ ?_ | refine hR _ _ ?_); clear hK hR K R)
     refine Fin.sw 2 4 (by simp) (by simp) (by simp [swS, swO]) (by simp [swS, swO]) ?_
     refine Fin.id ?_
     refine thenQ_normal ?_
     simp [swS, swO, sw, AV.ren, AV.rens, Ob.ren, List.range, List.range.loop, upd, hn]
   ·rintro ⟨t, o⟩ ⟨h2, h4, h6, ho⟩
    simp only at h2 h4 h6 ho
    subst ho
    repeat (first | refine nav ?_ | refine bo ?_)
    (refine wr fun K R hK hR => ?_; simp (maxSteps := 10000000) only [go_sem, h2]; (try go_ints); (try simp only [go_sem, h2]); (repeat refine And.intro side ?_); (first | refine hK _ ?_ | refine hR _ _ ?_); clear hK hR K R)
    repeat (first | refine nav ?_ | refine bo ?_)
    refine W_for 30 85 [8, 10] (fun m t o => ∃ (k : Nat) (g : GD), okO o = true ∧ o[0]? = some (.cells 2 [[.i .i64 s.size, .sl 3 (rels s.rels)]]) ∧ o[1]? = some (.cells 2 [[.own 1 [], .own 1 []]]) ∧
     o[2]? = some (.cells 1 (ownR g.1)) ∧ o[3]? = some (.cells 1 (bools g.2)) ∧ o[4]? = some (.cells 2 [[.ref 2 0 n, .ref 3 0 n]]) ∧ t 30 = .i .i64 k ∧ m = s.rels.length - k ∧ k ≤ s.rels.length ∧
     g.1.length = n ∧ g.2.length = n ∧ (∀ l ∈ g.1, l.length ≤ k * 1099511627776) ∧ (s.rels.drop k).foldl gR g = graphD s) s.rels.length
     ⟨0, (List.replicate n [], List.replicate n false), ?_, rfl, rfl, by simp [ownR, ownC], by simp [bools], rfl, by simp only [go_sem] <;> rfl, by omega, Nat.zero_le _, by simp, by simp, ?_, ?_⟩ ?_
    ·simp [okO, Ob.ltk, AV.ltk]
    ·intro l hl
     simp only [List.mem_replicate] at hl
     simp [hl.2]
    ·simp [graphD, hn]
    rintro m t' o ⟨k, g, hok, o0, o1, o2, o3, o4, h30, rfl, hk, g1, g2, gb, hi⟩
    repeat (first | refine nav ?_ | refine bo ?_)
    (refine wr fun K R hK hR => ?_; simp (maxSteps := 10000000) only [go_sem, h30]; (try go_ints); (try simp only [go_sem, h30]); (repeat refine And.intro side ?_); (first | refine hK _ ?_ | refine hR _ _ ?_); clear hK hR K R)
    repeat (first | refine nav ?_ | refine bo ?_)
    refine W_cond (by simp only [go_sem] <;> exact rfl) (fun hb => ?_) (fun hb => ?_)
    ·simp at hb
     obtain ⟨r, hr⟩ : ∃ r, s.rels[k]? = some r := ⟨_, List.getElem?_eq_getElem hb⟩
     have hrm := List.mem_of_getElem? hr
     have hro := hs.rel r hrm
     have hrl := hro.len
     rw [drop_cons hr, List.foldl_cons] at hi
     have a0 := fun l => app_get l o0
     repeat (first | refine nav ?_ | refine bo ?_)
     (refine wr fun K R hK hR => ?_; simp (maxSteps := 10000000) only [go_sem, h30, rels_get hr]; (try go_ints); (try simp only [go_sem, h30, rels_get hr]); (repeat refine And.intro side ?_); (first | refine hK _ ?_ | refine hR _ _ ?_); clear hK hR K R)
     repeat (first | refine nav ?_ | refine bo ?_)
     (refine wr fun K R hK hR => ?_; simp (maxSteps := 10000000) only [go_sem]; (try go_ints); (repeat refine And.intro side ?_); (first | refine hK _ ?_ | refine hR _ _ ?_); clear hK hR K R)
     repeat (first | refine nav ?_ | refine bo ?_)
     refine W_for 37 84 [10] (fun m t o' => ∃ (j : Nat) (g' : GD), okO o' = true ∧ o'[0]? = some (.cells 2 [[.i .i64 s.size, .sl 3 (rels s.rels)]]) ∧ o'[1]? = some (.cells 2 [[.own 1 [], .own 1 []]]) ∧
      o'[2]? = some (.cells 1 (ownR g'.1)) ∧ o'[3]? = some (.cells 1 (bools g'.2)) ∧ o'[4]? = some (.cells 2 [[.ref 2 0 n, .ref 3 0 n]]) ∧ o'[o.length]? = some (.cells 3 [[.s r.name, .i .i64 r.arity, .sl 1 (tups r.tuples)]]) ∧
      t 37 = .i .i64 j ∧ m = r.tuples.length - j ∧ j ≤ r.tuples.length ∧
      g'.1.length = n ∧ g'.2.length = n ∧ (∀ l ∈ g'.1, l.length ≤ k * 1099511627776 + j) ∧ (r.tuples.drop j).foldl (gT r) g' = gR g r) r.tuples.length
      ⟨0, g, okO_app hok rfl, a0 _, app_get _ o1, app_get _ o2, app_get _ o3, app_get _ o4, by simp, by simp only [go_sem] <;> rfl, by omega, Nat.zero_le _, g1, g2, by simpa using gb, by simp [gR]⟩ ?_
     rintro m t2 o' ⟨j, g', hok', p0, p1, p2, p3, p4, p5, h37, rfl, hj, q1, q2, qb, hgi⟩
     have hne : o.length ≠ 2 ∧ o.length ≠ 3 := by
      have := (List.getElem?_eq_some_iff.1 o4).1
      omega
     repeat (first | refine nav ?_ | refine bo ?_)
     (refine wr fun K R hK hR => ?_; simp (maxSteps := 10000000) only [go_sem, h37]; (try go_ints); (try simp only [go_sem, h37]); (repeat refine And.intro side ?_); (first | refine hK _ ?_ | refine hR _ _ ?_); clear hK hR K R)
     repeat (first | refine nav ?_ | refine bo ?_)
     refine W_cond (by simp only [go_sem] <;> exact rfl) (fun hb => ?_) (fun hb => ?_)
     ·simp at hb
      obtain ⟨tt, htt⟩ : ∃ x, r.tuples[j]? = some x := ⟨_, List.getElem?_eq_getElem hb⟩
      have htm := List.mem_of_getElem? htt
      obtain ⟨vt1, vt2⟩ := valid_tuple hv hrm htm
      rw [drop_cons htt, List.foldl_cons] at hgi
      repeat (first | refine nav ?_ | refine bo ?_)
      (refine wr fun K R hK hR => ?_; simp (maxSteps := 10000000) only [go_sem, h37, tups_get htt]; (try go_ints); (try simp only [go_sem, h37, tups_get htt]); (repeat refine And.intro side ?_); (first | refine hK _ ?_ | refine hR _ _ ?_); clear hK hR K R)
      repeat (first | refine nav ?_ | refine bo ?_)
      (refine wr fun K R hK hR => ?_; simp (maxSteps := 10000000) only [go_sem, p5]; (try go_ints); (try simp only [go_sem, p5]); (repeat refine And.intro side ?_); (first | refine hK _ ?_ | refine hR _ _ ?_); clear hK hR K R)
      repeat (first | refine nav ?_ | refine bo ?_)
      refine W_cond (by simp only [go_sem] <;> exact rfl) (fun hE => ?_) (fun hE => ?_)
      ·have hE' : isE r = true := hE
       obtain ⟨x0, x1, rfl⟩ : ∃ x0 x1, tt = [x0, x1] := by
        simp only [isE, Bool.and_eq_true, beq_iff_eq] at hE'
        rw [hE'.2] at vt1
        match tt, vt1 with
        | [x0, x1], _ => exact ⟨x0, x1, rfl⟩
        | [], h => simp at h
        | [_], h => simp at h
        | _ :: _ :: _ :: _, h => simp at h; omega
       obtain ⟨y0, y1⟩ := vt2 x0 (by simp)
       obtain ⟨p, rfl⟩ := Int.eq_ofNat_of_zero_le y0
       have hpn : p < n := by omega
       obtain ⟨row, hrow⟩ : ∃ row, g'.1[p]? = some row := ⟨_, List.getElem?_eq_getElem (by omega)⟩
       have hrb := qb row (List.mem_of_getElem? hrow)
       have hG : gT r g' [↑p, x1] = (g'.1.modify p (· ++ [x1]), g'.2) := by simp [gT, hE']
       rw [hG] at hgi
       repeat (first | refine nav ?_ | refine bo ?_)
       by_cases hrow0 : row = []
       ·subst hrow0
        have hs2 : ∀ (x : Ob) (i : Nat), (o'.set 2 x)[i]? = if i = 2 then some x else o'[i]? := fun x i => set_get p2
        (refine W_dreg (by decide +kernel) [61] [0, 1, 2, 3, 4, 5, 6, 7, 8, 9, 10, 12, 13, 14, 15, 11, 16, 17, 18] [[], [0], [], [2], [2, 3], [], [5], [], [7], [7, 8], [8, 7, 9, 5, 6], [6, 5, 9, 7, 8, 10], [], [12], [12, 13], [13, 12, 14], [14, 12, 13, 15, 10, 8, 7, 9, 5, 6, 11], [16, 15, 14, 13, 12, 11, 10, 9, 8, 7, 6, 5, 3, 2, 4, 0, 1], [1, 0, 4, 2, 3, 5, 6, 7, 8, 9, 10, 11, 12, 13, 14, 15, 16, 17]] (by decide +kernel) rfl fun K R hK hR => ?_; simp only [List.filterMap_cons, List.filterMap_nil, List.getElem?_cons_zero, List.getElem?_cons_succ, List.cons_append, List.nil_append]; simp (maxSteps := 10000000) only [go_sem, h6, p4, p2, ints_get (l := [↑p, x1]) (i := 0) rfl, ints_get (l := [↑p, x1]) (i := 1) rfl, ownR_get hrow, ownC_nil]; (try go_ints); (try simp only [go_sem, h6, p4, p2, ints_get (l := [↑p, x1]) (i := 0) rfl, ints_get (l := [↑p, x1]) (i := 1) rfl, ownR_get hrow, ownC_nil]); (repeat refine And.intro side ?_); (first | refine hK _ ?_ | refine hR _ _ ?_); clear hK hR K R)
        rw [ownR_modify (x := x1) (v := .own 1 [[.i .i64 x1]]) hrow rfl]
        repeat (first | refine nav ?_ | refine bo ?_)
        (refine wr fun K R hK hR => ?_; simp (maxSteps := 10000000) only [go_sem, h37]; (try go_ints); (try simp only [go_sem, h37]); (repeat refine And.intro side ?_); (first | refine hK _ ?_ | refine hR _ _ ?_); clear hK hR K R)
        refine forQ_normal (r.tuples.length - (j + 1)) (by omega) ⟨j + 1, (g'.1.modify p (· ++ [x1]), g'.2), okO_set hok' (ownR_ltk _ _), ?_⟩
        ((try simp only [go_sem, hs2]); (repeat' refine And.intro ?_ ?_) <;> (try first | with_reducible rfl | omega | with_reducible assumption | (simp; done)))
        ·simpa [hne.1] using p5
        ·simpa using q1
        ·intro l hl
         rcases mem_modify hl with h | ⟨r0, h, rfl⟩
         ·have := qb l h; omega
         ·have := qb r0 h; simp only [List.length_append, List.length_cons, List.length_nil]; omega
       ·have hs2 : ∀ (x : Ob) (i : Nat), (o'.set 2 x)[i]? = if i = 2 then some x else o'[i]? := fun x i => set_get p2
        (refine W_dreg (by decide +kernel) [61] [0, 1, 2, 3, 4, 5, 6, 7, 8, 9, 10, 12, 13, 14, 15, 11, 16, 17, 18] [[], [0], [], [2], [2, 3], [], [5], [], [7], [7, 8], [8, 7, 9, 5, 6], [6, 5, 9, 7, 8, 10], [], [12], [12, 13], [13, 12, 14], [14, 12, 13, 15, 10, 8, 7, 9, 5, 6, 11], [16, 15, 14, 13, 12, 11, 10, 9, 8, 7, 6, 5, 3, 2, 4, 0, 1], [1, 0, 4, 2, 3, 5, 6, 7, 8, 9, 10, 11, 12, 13, 14, 15, 16, 17]] (by decide +kernel) rfl fun K R hK hR => ?_; simp only [List.filterMap_cons, List.filterMap_nil, List.getElem?_cons_zero, List.getElem?_cons_succ, List.cons_append, List.nil_append]; simp (maxSteps := 10000000) only [go_sem, h6, p4, p2, ints_get (l := [↑p, x1]) (i := 0) rfl, ints_get (l := [↑p, x1]) (i := 1) rfl, ownR_get hrow, ownC_ne hrow0, hs2, List.set_set, List.length_modify, ownR_modify_get hrow, ownR_modify2]; (try go_ints); (try simp only [go_sem, h6, p4, p2, ints_get (l := [↑p, x1]) (i := 0) rfl, ints_get (l := [↑p, x1]) (i := 1) rfl, ownR_get hrow, ownC_ne hrow0, hs2, List.set_set, List.length_modify, ownR_modify_get hrow, ownR_modify2]); (repeat refine And.intro side ?_); (first | refine hK _ ?_ | refine hR _ _ ?_); clear hK hR K R)
        rw [ownR_modify (x := x1) hrow (by rw [ownC_ne (by simp)]; simp [ints])]
        repeat (first | refine nav ?_ | refine bo ?_)
        (refine wr fun K R hK hR => ?_; simp (maxSteps := 10000000) only [go_sem, h37]; (try go_ints); (try simp only [go_sem, h37]); (repeat refine And.intro side ?_); (first | refine hK _ ?_ | refine hR _ _ ?_); clear hK hR K R)
        refine forQ_normal (r.tuples.length - (j + 1)) (by omega) ⟨j + 1, (g'.1.modify p (· ++ [x1]), g'.2), okO_set hok' (ownR_ltk _ _), ?_⟩
        ((try simp only [go_sem, hs2]); (repeat' refine And.intro ?_ ?_) <;> (try first | with_reducible rfl | omega | with_reducible assumption | (simp; done)))
        ·simpa [hne.1] using p5
        ·simpa using q1
        ·intro l hl
         rcases mem_modify hl with h | ⟨r0, h, rfl⟩
         ·have := qb l h; omega
         ·have := qb r0 h; simp only [List.length_append, List.length_cons, List.length_nil]; omega
      ·have hE' : isE r = false := hE
       repeat (first | refine nav ?_ | refine bo ?_)
       (refine wr fun K R hK hR => ?_; simp (maxSteps := 10000000) only [go_sem, p5]; (try go_ints); (try simp only [go_sem, p5]); (repeat refine And.intro side ?_); (first | refine hK _ ?_ | refine hR _ _ ?_); clear hK hR K R)
       repeat (first | refine nav ?_ | refine bo ?_)
       refine W_cond (by simp only [go_sem] <;> exact rfl) (fun hA => ?_) (fun hA => ?_)
       ·have hA' : isAr r = true := hA
        obtain ⟨x0, rfl⟩ : ∃ x0, tt = [x0] := by
         simp only [isAr, Bool.and_eq_true, beq_iff_eq] at hA'
         rw [hA'.2] at vt1
         match tt, vt1 with
         | [x0], _ => exact ⟨x0, rfl⟩
         | [], h => simp at h
         | _ :: _ :: _, h => simp at h; omega
        obtain ⟨y0, y1⟩ := vt2 x0 (by simp)
        obtain ⟨p, rfl⟩ := Int.eq_ofNat_of_zero_le y0
        have hpn : p < n := by omega
        obtain ⟨row, hrow⟩ : ∃ row, g'.2[p]? = some row := ⟨_, List.getElem?_eq_getElem (by omega)⟩
        have hG : gT r g' [↑p] = (g'.1, g'.2.set p true) := by simp [gT, hE', hA']
        rw [hG] at hgi
        have hs3 : ∀ (x : Ob) (i : Nat), (o'.set 3 x)[i]? = if i = 3 then some x else o'[i]? := fun x i => set_get p3
        repeat (first | refine nav ?_ | refine bo ?_)
        (refine W_dreg (by decide +kernel) [] [0, 1, 2, 3, 4, 5, 6] [[], [0], [], [2], [2, 3], [3, 2, 4, 0, 1], [1, 0, 4, 2, 3, 5]] (by decide +kernel) rfl fun K R hK hR => ?_; simp only [List.filterMap_cons, List.filterMap_nil, List.getElem?_cons_zero, List.getElem?_cons_succ, List.cons_append, List.nil_append]; simp (maxSteps := 10000000) only [go_sem, h6, p4, p3, ints_get (l := [↑p]) (i := 0) rfl, bools_get hrow, bools_set]; (try go_ints); (try simp only [go_sem, h6, p4, p3, ints_get (l := [↑p]) (i := 0) rfl, bools_get hrow, bools_set]); (repeat refine And.intro side ?_); (first | refine hK _ ?_ | refine hR _ _ ?_); clear hK hR K R)
        repeat (first | refine nav ?_ | refine bo ?_)
        (refine wr fun K R hK hR => ?_; simp (maxSteps := 10000000) only [go_sem, h37]; (try go_ints); (try simp only [go_sem, h37]); (repeat refine And.intro side ?_); (first | refine hK _ ?_ | refine hR _ _ ?_); clear hK hR K R)
        refine forQ_normal (r.tuples.length - (j + 1)) (by omega) ⟨j + 1, (g'.1, g'.2.set p true), okO_set hok' (bools_ltk _ _), ?_⟩
        ((try simp only [go_sem, hs3]); (repeat' refine And.intro ?_ ?_) <;> (try first | with_reducible rfl | omega | with_reducible assumption | (simp; done)))
        ·simpa [hne.2] using p5
        ·simpa using q2
        ·intro l hl
         have := qb l hl; omega
       ·have hA' : isAr r = false := hA
        have hG : gT r g' tt = g' := by simp [gT, hE', hA']
        rw [hG] at hgi
        repeat (first | refine nav ?_ | refine bo ?_)
        (refine wr fun K R hK hR => ?_; simp (maxSteps := 10000000) only [go_sem, h37]; (try go_ints); (try simp only [go_sem, h37]); (repeat refine And.intro side ?_); (first | refine hK _ ?_ | refine hR _ _ ?_); clear hK hR K R)
        refine forQ_normal (r.tuples.length - (j + 1)) (by omega) ⟨j + 1, g', hok', ?_⟩
        ((try simp only [go_sem]); (repeat' refine And.intro ?_ ?_) <;> (try first | with_reducible rfl | omega | with_reducible assumption | (simp; done)))
        ·intro l hl
         have := qb l hl; omega
     ·simp at hb
      have : j = r.tuples.length := by omega
      subst this
      simp only [List.drop_length, List.foldl_nil] at hgi
      subst hgi
      rw [mix_mix rfl]
      repeat (first | refine nav ?_ | refine bo ?_)
      (refine wr fun K R hK hR => ?_; simp (maxSteps := 10000000) only [go_sem, h30]; (try go_ints); (try simp only [go_sem, h30]); (repeat refine And.intro side ?_); (first | refine hK _ ?_ | refine hR _ _ ?_); clear hK hR K R)
      refine forQ_normal (s.rels.length - (k + 1)) (by omega) ⟨k + 1, gR g r, hok', ?_⟩
      ((try simp only [go_sem]); (repeat' refine And.intro ?_ ?_) <;> (try first | with_reducible rfl | omega | with_reducible assumption | (simp; done)))
      intro l hl
      have := qb l hl
      omega
    ·simp at hb
     have : k = s.rels.length := by omega
     subst this
     simp only [List.drop_length, List.foldl_nil] at hi
     subst hi
     repeat (first | refine nav ?_ | refine bo ?_)
     (refine wr fun K R hK hR => ?_; simp (maxSteps := 10000000) only [go_sem, h4, h6, o4, o1]; (try go_ints); (try simp only [go_sem, h4, h6, o4, o1]); (repeat refine And.intro side ?_); (first | refine hK _ ?_ | refine hR _ _ ?_); clear hK hR K R)
     refine seqQ_normal ?_
     have hs1 : ∀ (x : Ob) (i : Nat), (o.set 1 x)[i]? = if i = 1 then some x else o[i]? := fun x i => set_get o1
     refine W_freeze 2 (sz := 1) (rows := ownR (graphD s).1) (by simp only [hs1]; simpa using o2) ?_ ?_
     ·simp only [ownR, List.all_map, List.all_eq_true, Function.comp]
      rintro x _ y hy
      simp only [List.mem_singleton] at hy
      subst hy
      unfold ownC
      split <;> rfl
     have e2 : (ownR (graphD s).1).map (fun r => r.map AV.dat) = (graphD s).1.map fun l => [(ownC l).dat] := by simp [ownR, Function.comp_def]
     have e3 : (bools (graphD s).2).map (fun r => r.map AV.dat) = bools (graphD s).2 := by simp [bools, Function.comp_def, AV.dat]
     refine W_freeze 3 (sz := 1) (rows := bools (graphD s).2) ?_ ?_ ?_
     ·simp [frS, hs1, o3, Ob.unref, bools, AV.unref, Function.comp_def, List.getElem?_set]
     ·simp [bools, AV.dat, AV.ltk, AV.plain]
     refine W_ret ?_
     have hlen1 : 1 < o.length := (List.getElem?_eq_some_iff.1 o1).1
     refine endQ_data (r := .tup [.agg [.sl 1 (((graphD s).1.map fun l => [(ownC l).dat])), .sl 1 (bools (graphD s).2)], .i .i64 0]) ?_ (Le.tup (LeL.cons (fun w Y m v h => (Le.agg (LeL.cons (fun w Y m v h => (Le.sl ?_).v w Y m v h) (LeL.refl _))).v w Y m v h) (LeL.refl _))) rfl
     ·simp [resAV, resL, res1, loadR, frS, hs1, Ob.unref, AV.unref, AV.unrefs, e2, e3, g1, g2, List.getElem?_set, upd, mix_at, inL, h4, ung, loadOk, loadAV, uk70, sz70, UK.agg, AV.dat, hlen1]
      have hb2 : (bools (graphD s).2).length = n := by rw [bools_len, g2]
      refine ⟨List.take_of_length_le (by simp [g1]), ?_⟩
      rw [if_pos (by omega), List.take_of_length_le (by omega)]; rfl
     ·refine ⟨by simp [tups], fun i x y hx hy => ?_⟩
      simp only [tups, List.getElem?_map] at hx hy
      cases hq : (graphD s).1[i]? with
      | none => rw [hq] at hx; cases hx
      | some q =>
       rw [hq] at hx hy
       simp only [Option.map_some, Option.some.injEq] at hx hy
       subst hx hy
       refine LeL.cons (fun w Y m v h => ?_) LeL.nil
       unfold ownC at h
       split at h
       ·rename_i e; subst e; exact (Le.nsl 1).v w Y m v h
       ·exact h
structure StrD.Wide (s : StrD) : Prop where
 len : s.rels.length ≤ 1152921504606846976
 rel : ∀ r ∈ s.rels, r.name.size ≤ 1125899906842624 ∧ r.tuples.length ≤ 1152921504606846976 ∧ ∀ t ∈ r.tuples, t.length ≤ 1125899906842624
end Go.AW
namespace Go.AW
open Go Go.Proofs TyTry
set_option maxRecDepth 100000
def fourD : StrD := ⟨4, [⟨⟨#[69]⟩, 2, [[0, 1], [0, 2], [0, 3], [1, 3], [2, 3]]⟩]⟩
def symE : List SymD := [⟨⟨#[69]⟩, 2⟩]
theorem fourD_ok : fourD.Ok := by
 refine ⟨by decide, fun r hr => ?_⟩
 simp only [fourD, List.mem_singleton] at hr
 subst hr
 refine ⟨by decide, by decide, fun t ht => ?_⟩
 simp only [List.mem_cons, List.not_mem_nil, or_false] at ht
 rcases ht with rfl | rfl | rfl | rfl | rfl <;> decide
def fourA : AV := .agg [.i .i64 fourD.size, .sl 3 (rels fourD.rels)]
def fourG : AV := .tup [.agg [.sl 1 (tups [[1, 2, 3], [3], [3], []]), .sl 1 (bools [false, false, false, false])], .i .i64 0]
theorem four_graph : graphR fourD symE = fourG := by
 have e : eqA (graphR fourD symE) fourG = true := by decide +kernel
 exact eqA_eq _ _ e
def envAw (f : FuncId) (ac : List AV) (oc : List Ob) : Option (AV × List Ob) := if f == 34 && eqAL ac [fourA, .sl 2 (syms symE)] then some (fourG, oc) else none
def flAw (f : FuncId) : Bool := f == 64 || f == 82 || f == 99 || f == 85
theorem envAw_ok : ∀ f ac oc r o', envAw f ac oc = some (r, o') → ACalls Try.prog f ac oc (fun r' o'' => r' = r ∧ o'' = o') ∧ oc.length ≤ o'.length := by
 intro f ac oc r o' h
 unfold envAw at h
 by_cases hc : (f == 34 && eqAL ac [fourA, .sl 2 (syms symE)]) = true
 ·rw [if_pos hc] at h
  simp only [Bool.and_eq_true, beq_iff_eq] at hc
  obtain ⟨rfl, h2⟩ := hc
  obtain rfl := eqAL_eq _ _ h2
  simp only [Option.some.injEq, Prod.mk.injEq] at h
  obtain ⟨rfl, rfl⟩ := h
  have := graphOf_spec fourD fourD_ok symE (by decide)
  rw [four_graph] at this
  exact ⟨this.frame (by decide +kernel) (by decide +kernel) oc, Nat.le_refl _⟩
 ·rw [if_neg hc] at h; cases h
theorem run_ok {k : Nat} {f : FuncId} {ac : List AV} {r : AV} (h : xCall Try.prog envAw flAw k f ac [] = some (r, [])) : ACallsD Try.prog f ac r :=
 ((x_sound envAw flAw (by decide +kernel) envAw_ok k).2.2.2.1 f ac [] r [] h).1
end Go.AW
