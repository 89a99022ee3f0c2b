/-
Contracts: the number of walks.
-/
import Derived.Test.YtilaieleaiadeaaKam
import Derived.Test.YtilaieleaiadeaaKag
namespace Go.AW
open Go Go.Proofs TyTry Go.IntWalk
set_option linter.unusedSimpArgs false
set_option linter.unusedVariables false
set_option maxRecDepth 10000

def maxI (l : List Int) : Int := (l.drop 1).foldl max (l.getD 0 0)
theorem max_spec (l : List Int) (h1 : 1 ≤ l.length) (h2 : l.length ≤ 1099511627776) : ACallsD Try.prog 40 [.sl 1 (ints l)] (.i .i64 (maxI l)) := by
  obtain ⟨a, ha⟩ : ∃ a, l[0]? = some a := ⟨_, List.getElem?_eq_getElem (by omega)⟩
  have ha0 : l.getD 0 0 = a := by simp [ha]
  refine ACalls_of' (n := 25) (rs := [.tmp 2]) (show Try.prog.funcs[40]? = some Try.f40 by kernel_rfl) rfl rfl rfl (by simp) (by decide +kernel) ?_
  repeat (first | refine nav ?_ | refine bo ?_)
  (refine wr fun K R hK hR => ?_; simp (maxSteps := 10000000) only [go_sem]; (try go_ints); (repeat refine And.intro side ?_); (first | refine hK _ ?_ | refine hR _ _ ?_); clear hK hR K R)
  repeat (first | refine nav ?_ | refine bo ?_)
  (refine wr fun K R hK hR => ?_; simp (maxSteps := 10000000) only [go_sem]; (try go_ints); (repeat refine And.intro side ?_); (first | refine hK _ ?_ | refine hR _ _ ?_); clear hK hR K R)
  repeat (first | refine nav ?_ | refine bo ?_)
  refine W_cond (b := false) (by simp only [go_sem]; simp; omega) (fun hb => by cases hb) (fun _ => ?_)
  repeat (first | refine nav ?_ | refine bo ?_)
  (refine wr fun K R hK hR => ?_; simp (maxSteps := 10000000) only [go_sem, ints_get ha]; (try go_ints); (try simp only [go_sem, ints_get ha]); (repeat refine And.intro side ?_); (first | refine hK _ ?_ | refine hR _ _ ?_); clear hK hR K R)
  repeat (first | refine nav ?_ | refine bo ?_)
  (refine wr fun K R hK hR => ?_; simp (maxSteps := 10000000) only [go_sem]; (try go_ints); (repeat refine And.intro side ?_); (first | refine hK _ ?_ | refine hR _ _ ?_); clear hK hR K R)
  repeat (first | refine nav ?_ | refine bo ?_)
  refine W_for 12 24 [3, 4] (fun m t o => ∃ (k : Nat) (v : Int), [] = o ∧ t 3 = .i .i64 v ∧ t 4 = .i .i64 k ∧ m = l.length - k ∧ 1 ≤ k ∧ k ≤ l.length ∧ (l.drop k).foldl max v = maxI l) (l.length - 1) ⟨1, a, rfl, by simp only [go_sem] <;> rfl, by simp only [go_sem] <;> rfl, by omega, by omega, by omega, by rw [maxI, ha0]⟩ ?_
  rintro m t o ⟨k, v, rfl, h3, h4, rfl, hk1, hk, hi⟩
  repeat (first | refine nav ?_ | refine bo ?_)
  (refine wr fun K R hK hR => ?_; simp (maxSteps := 10000000) only [go_sem, h4]; (try go_ints); (try simp only [go_sem, h4]); (repeat refine And.intro side ?_); (first | refine hK _ ?_ | refine hR _ _ ?_); clear hK hR K R)
  repeat (first | refine nav ?_ | refine bo ?_)
  refine W_cond (by simp only [go_sem] <;> exact rfl) (fun hb => ?_) (fun hb => ?_)
  · simp at hb
    obtain ⟨x, hx⟩ : ∃ x, l[k]? = some x := ⟨_, List.getElem?_eq_getElem hb⟩
    rw [drop_cons hx, List.foldl_cons] at hi
    repeat (first | refine nav ?_ | refine bo ?_)
    (refine wr fun K R hK hR => ?_; simp (maxSteps := 10000000) only [go_sem, h3, h4, ints_get hx]; (try go_ints); (try simp only [go_sem, h3, h4, ints_get hx]); (repeat refine And.intro side ?_); (first | refine hK _ ?_ | refine hR _ _ ?_); clear hK hR K R)
    repeat (first | refine nav ?_ | refine bo ?_)
    (refine wr fun K R hK hR => ?_; simp (maxSteps := 10000000) only [go_sem, h4]; (try go_ints); (try simp only [go_sem, h4]); (repeat refine And.intro side ?_); (first | refine hK _ ?_ | refine hR _ _ ?_); clear hK hR K R)
    refine forQ_normal (l.length - (k + 1)) (by omega) ⟨k + 1, max v x, rfl, ?_⟩
    ((try simp only [go_sem]); (repeat' refine And.intro ?_ ?_) <;> (try first | with_reducible rfl | omega | with_reducible assumption | (simp; done)))
    rw [AV.i.injEq]
    exact ⟨rfl, by split <;> omega⟩
  · simp at hb
    have : k = l.length := by omega
    subst this
    rw [List.drop_length, List.foldl_nil] at hi
    repeat (first | refine nav ?_ | refine bo ?_)
    (refine wr fun K R hK hR => ?_; simp (maxSteps := 10000000) only [go_sem, h3]; (try go_ints); (try simp only [go_sem, h3]); (repeat refine And.intro side ?_); (first | refine hK _ ?_ | refine hR _ _ ?_); clear hK hR K R)
    repeat (first | refine nav ?_ | refine bo ?_)
    refine endQ_data (by simp only [go_sem] <;> exact rfl) (Le.of_eq ?_) rfl
    rw [hi]
def capH : Int := 1099511627777
def addH (w : Int) (acc : List Int) (y : Int) : List Int := acc.set y.toNat (min (acc.getD y.toNat 0 + w) capH)
def inH (w : Int) (l : List Int) (acc : List Int) : List Int := l.foldl (addH w) acc
def outH (next : List (List Int)) (now : List Int) (n k : Nat) : List Int := (List.range k).foldl (fun acc x => inH (now.getD x 0) (next.getD x []) acc) (List.replicate n 0)
def fwd (next : List (List Int)) (n : Nat) : Nat → List Int
  | 0 => (List.replicate n 0).set 0 1
  | k + 1 => outH next (fwd next n k) n n
theorem addH_len (w : Int) (acc : List Int) (y : Int) : (addH w acc y).length = acc.length := by simp [addH]
theorem inH_len (w : Int) : ∀ (l acc : List Int), (inH w l acc).length = acc.length
  | [], _ => rfl
  | y :: l, acc => by
    rw [inH, List.foldl_cons]
    exact (inH_len w l (addH w acc y)).trans (addH_len w acc y)
theorem outH_succ (next : List (List Int)) (now : List Int) (n k : Nat) : outH next now n (k + 1) = inH (now.getD k 0) (next.getD k []) (outH next now n k) := by
  simp only [outH, List.range_succ, List.foldl_append, List.foldl_cons, List.foldl_nil]
theorem outH_len (next : List (List Int)) (now : List Int) (n : Nat) : ∀ k, (outH next now n k).length = n
  | 0 => by simp [outH]
  | k + 1 => by rw [outH_succ, inH_len, outH_len]
theorem fwd_len (next : List (List Int)) (n : Nat) : ∀ k, (fwd next n k).length = n
  | 0 => by simp [fwd]
  | k + 1 => outH_len _ _ _ _
def InH (l : List Int) : Prop := ∀ y : Nat, 0 ≤ l.getD y 0 ∧ l.getD y 0 ≤ capH
theorem addH_bd {w : Int} (hw : 0 ≤ w) {acc : List Int} (h : InH acc) (y : Int) : InH (addH w acc y) := by
  intro i
  have hi := h i
  have hy := h y.toNat
  have hc : (0 : Int) ≤ capH := by decide
  rw [addH, List.getD_eq_getElem?_getD, List.getElem?_set]
  split
  · split
    · simp only [Option.getD_some]; omega
    · simpa using hc
  · rw [← List.getD_eq_getElem?_getD]; exact hi
theorem inH_bd {w : Int} (hw : 0 ≤ w) : ∀ (l : List Int) {acc : List Int}, InH acc → InH (inH w l acc)
  | [], _, h => h
  | y :: l, acc, h => by
    rw [inH, List.foldl_cons]
    exact inH_bd hw l (addH_bd hw h y)
theorem zero_bd (n : Nat) : InH (List.replicate n 0) := by
  intro i
  rw [List.getD_eq_getElem?_getD, List.getElem?_replicate]
  split <;> simp [capH]
theorem outH_bd (next : List (List Int)) {now : List Int} (h : InH now) (n : Nat) : ∀ k, InH (outH next now n k)
  | 0 => by simpa [outH] using zero_bd n
  | k + 1 => by
    rw [outH_succ]
    exact inH_bd (h k).1 _ (outH_bd next h n k)
theorem fwd_bd (next : List (List Int)) (n : Nat) : ∀ k, InH (fwd next n k)
  | 0 => by
    intro i
    rw [fwd, List.getD_eq_getElem?_getD, List.getElem?_set]
    simp only [List.length_replicate, List.getElem?_replicate, capH]
    split
    · split <;> simp
    · split <;> simp
  | k + 1 => outH_bd next (fwd_bd next n k) n n
/-- The number of walks of at most some steps, counted on; none: too many. -/
def hwF (next : List (List Int)) (n : Nat) : Nat → Nat → Int → Option Int
  | 0, _, tot => some tot
  | f + 1, d, tot => if maxI (fwd next n d) > 0 then (if tot + (fwd next n d).getD (n - 1) 0 > 1099511627776 then none else hwF next n f (d + 1) (tot + (fwd next n d).getD (n - 1) 0)) else some tot
theorem inH_take (w : Int) (l acc : List Int) (j : Nat) (y : Int) (h : l[j]? = some y) : inH w (l.take (j + 1)) acc = addH w (inH w (l.take j) acc) y := by
  rw [List.take_add_one, h, inH, List.foldl_append]
  rfl
theorem graphR_E (s : StrD) : ∃ (g : GD) (code : Int), graphR s symsE = .tup [.agg [.sl 1 (tups g.1), .sl 1 (bools g.2)], .i .i64 code] ∧
    (code = 0 → validF s = true ∧ fitsF symsE s = true ∧ g = graphD s) ∧ (code ≠ 0 → code = codeF s false) := by
  by_cases hv : validF s = false
  · exact ⟨([], []), 1, by rw [graphR, if_pos hv, graphA], fun h => by omega, fun _ => by rw [codeF, if_pos hv]⟩
  · have hv' : validF s = true := by simpa using hv
    by_cases hf : fitsF symsE s = false
    · refine ⟨([], []), 4, by rw [graphR, if_neg hv, if_pos hf, graphA], fun h => by omega, fun _ => ?_⟩
      rw [codeF, if_neg hv, if_pos]
      rw [fitsR_eq hv', hf]; rfl
    · exact ⟨graphD s, 0, by rw [graphR, if_neg hv, if_neg hf, graphA], fun _ => ⟨hv', by simpa using hf, rfl⟩, fun h => absurd rfl h⟩
def hwA (s : StrD) (most : Int) : AV :=
  if codeF s false ≠ 0 then .tup [.i .i64 0, .i .i64 (codeF s false)] else if most < 0 ∨ most > 200000 then .tup [.i .i64 0, .i .i64 2] else
    match hwF (graphD s).1 s.size.toNat (most.toNat + 1) 0 0 with | some n => .tup [.i .i64 n, .i .i64 0] | none => .tup [.i .i64 0, .i .i64 5]
theorem codeF_ok {s : StrD} (hv : validF s = true) (hf : fitsF symsE s = true) : codeF s false = 0 := by
  rw [codeF, if_neg (by simp [hv]), if_neg]
  rw [fitsR_eq hv, hf]; simp
theorem hwalks_spec (s : StrD) (hs : s.Ok) (ht : tupN s.rels ≤ 1099511627776) (most : Int) :
    ACallsD Try.prog 12 [.agg [.i .i64 s.size, .sl 3 (rels s.rels)], .i .i64 most] (hwA s most) := by
  obtain ⟨g, code, hg, hc0, hc1⟩ := graphR_E s
  have hG := graphOf_spec s hs symsE (by decide)
  rw [hg] at hG
  refine ACalls_of' (n := 91) (rs := [.tmp 4, .tmp 5]) (show Try.prog.funcs[12]? = some Try.f12 by kernel_rfl) rfl rfl rfl (by simp) (by decide +kernel) ?_
  repeat (first | refine nav ?_ | refine bo ?_)
  (refine wr fun K R hK hR => ?_; simp (maxSteps := 10000000) only [go_sem]; (try go_ints); (repeat refine And.intro side ?_); (first | refine hK _ ?_ | refine hR _ _ ?_); clear hK hR K R)
  repeat (first | refine nav ?_ | refine bo ?_)
  (refine W_dreg (by decide +kernel) [] [0, 1, 2, 3, 4, 5, 6, 7, 8, 9] [[], [], [1], [1, 2, 0], [0, 2, 1, 3], [3, 1, 2, 0, 4], [3, 1, 2, 0, 4], [], [4, 0, 2, 1, 3, 5, 7], [7, 5, 8, 4, 0, 2, 1, 3, 6]] (by decide +kernel) rfl fun K R hK hR => ?_; simp only [List.filterMap_cons, List.filterMap_nil, List.getElem?_cons_zero, List.getElem?_cons_succ, List.cons_append, List.nil_append]; simp (maxSteps := 10000000) only [go_sem]; (try go_ints); (repeat refine And.intro side ?_); (first | refine hK _ ?_ | refine hR _ _ ?_); clear hK hR K R)
  refine D_callD (edges_spec) rfl rfl rfl (by first | (simp only [go_sem] <;> first | exact LeA.refl _ | exact Le.refl _) | exact LeA.refl _) rfl rfl rfl rfl ?_
  (refine D_reg fun K R hK hR => ?_; simp (maxSteps := 10000000) only [go_sem]; (try go_ints); (repeat refine And.intro side ?_); (first | refine hK _ ?_ | refine hR _ _ ?_); clear hK hR K R)
  refine D_callD (hG) rfl rfl rfl (by first | (simp only [go_sem] <;> first | exact LeA.refl _ | exact Le.refl _) | exact LeA.refl _) rfl rfl rfl rfl ?_
  (refine D_reg fun K R hK hR => ?_; simp (maxSteps := 10000000) only [go_sem]; (try go_ints); (repeat refine And.intro side ?_); (first | refine hK _ ?_ | refine hR _ _ ?_); clear hK hR K R)
  repeat (first | refine nav ?_ | refine bo ?_)
  (refine wr fun K R hK hR => ?_; simp (maxSteps := 10000000) only [go_sem]; (try go_ints); (repeat refine And.intro side ?_); (first | refine hK _ ?_ | refine hR _ _ ?_); clear hK hR K R)
  repeat (first | refine nav ?_ | refine bo ?_)
  refine W_cond (by simp only [go_sem] <;> exact rfl) (fun hb => ?_) (fun hb => ?_)
  · have hb : code ≠ 0 := by simpa using hb
    rw [hwA, ← hc1 hb, if_pos hb]
    repeat (first | refine nav ?_ | refine bo ?_)
    (refine wr fun K R hK hR => ?_; simp (maxSteps := 10000000) only [go_sem]; (try go_ints); (repeat refine And.intro side ?_); (first | refine hK _ ?_ | refine hR _ _ ?_); clear hK hR K R)
    repeat (first | refine nav ?_ | refine bo ?_)
    refine endQ_data (by simp only [go_sem] <;> exact rfl) (Le.of_eq ?_) rfl
    rfl
  · have hb : code = 0 := by simpa using hb
    obtain ⟨hv, hf, rfl⟩ := hc0 hb
    subst hb
    clear hc0 hc1
    have hcode := codeF_ok hv hf
    obtain ⟨z1, z2, z3⟩ := valid_size hv
    obtain ⟨n, hn⟩ := Int.eq_ofNat_of_zero_le (show 0 ≤ s.size by omega)
    have hg := graphD_ok hv
    have hnn : s.size.toNat = n := by omega
    rw [hnn] at hg
    rw [hwA, if_neg (by simp [hcode])]
    repeat (first | refine nav ?_ | refine bo ?_)
    (refine wr fun K R hK hR => ?_; simp (maxSteps := 10000000) only [go_sem]; (try go_ints); (repeat refine And.intro side ?_); (first | refine hK _ ?_ | refine hR _ _ ?_); clear hK hR K R)
    repeat (first | refine nav ?_ | refine bo ?_)
    refine W_cond (by simp only [go_sem] <;> exact rfl) (fun hb => ?_) (fun hb => ?_)
    · simp only [Bool.or_eq_true, Bool.and_eq_true, Bool.not_eq_true', Bool.not_eq_false', Bool.and_eq_false_iff, Bool.or_eq_false_iff, decide_eq_true_eq, decide_eq_false_iff_not, Bool.not_eq_eq_eq_not, Bool.not_true, Bool.not_false] at hb
      rw [if_pos hb]
      repeat (first | refine nav ?_ | refine bo ?_)
      (refine wr fun K R hK hR => ?_; simp (maxSteps := 10000000) only [go_sem]; (try go_ints); (repeat refine And.intro side ?_); (first | refine hK _ ?_ | refine hR _ _ ?_); clear hK hR K R)
      repeat (first | refine nav ?_ | refine bo ?_)
      refine endQ_data (by simp only [go_sem] <;> exact rfl) (Le.of_eq ?_) rfl
      rfl
    · simp only [Bool.or_eq_true, Bool.and_eq_true, Bool.not_eq_true', Bool.not_eq_false', Bool.and_eq_false_iff, Bool.or_eq_false_iff, decide_eq_true_eq, decide_eq_false_iff_not, Bool.not_eq_eq_eq_not, Bool.not_true, Bool.not_false] at hb
      rw [if_neg (by omega)]
      obtain ⟨mo, rfl⟩ := Int.eq_ofNat_of_zero_le (show 0 ≤ most by omega)
      rw [Int.toNat_natCast, hnn]
      repeat (first | refine nav ?_ | refine bo ?_)
      (refine wr fun K R hK hR => ?_; simp (maxSteps := 10000000) only [go_sem, hn]; (try go_ints); (try simp only [go_sem, hn]); (repeat refine And.intro side ?_); (first | refine hK _ ?_ | refine hR _ _ ?_); clear hK hR K R)
      repeat (first | refine nav ?_ | refine bo ?_)
      have hi0 : List.replicate n [AV.i .i64 0] = ints (List.replicate n 0) := by simp [ints]
      have hgz : (ints (List.replicate n 0)).getD 0 [] = [.i .i64 0] := ints_get (by rw [List.getElem?_replicate, if_pos (by omega)])
      simp only [hi0]
      (refine wr fun K R hK hR => ?_; simp (maxSteps := 10000000) only [go_sem, hgz, List.length_replicate, ints_set]; (try go_ints); (try simp only [go_sem, hgz, List.length_replicate, ints_set]); (repeat refine And.intro side ?_); (first | refine hK _ ?_ | refine hR _ _ ?_); clear hK hR K R)
      generalize hNX : (graphD s).1 = next at hg ⊢
      have hg1 := hg.l1
      rw [hNX] at hg1
      have hge := hg.el
      rw [hNX] at hge
      have hd0 : ∀ i, (ints (fwd next n i)).map (fun r => r.map AV.dat) = ints (fwd next n i) := fun i => by simp [ints, Function.comp_def, AV.dat]
      have hp0 : ∀ i, ((ints (fwd next n i)).all fun r => r.all fun c => c.dat.ltk 0 && c.dat.plain) = true := fun i => by simp [ints, AV.dat, AV.ltk, AV.plain]
      have hln : ∀ i, (ints (fwd next n i)).length = n := fun i => by rw [ints_len, fwd_len]
      have htk : ∀ i, List.take n (ints (fwd next n i)) = ints (fwd next n i) := fun i => List.take_of_length_le (by rw [hln]; omega)
      refine seqQ_normal ?_
      refine W_freeze 2 (sz := 1) (rows := ints (fwd next n 0)) (by rfl) (hp0 0) ?_
      refine W_weak (s' := ⟨tab [(1, .i .i64 mo), (2, .ptr 0 0 0), (6, .ptr 1 0 0), (8, .sl 1 (ints (fwd next n 0)))], [.cells 2 [[.i .i64 n, .sl 3 (rels s.rels)]], .cells 2 [[.sl 1 (tups next), .sl 1 (bools (graphD s).2)]], .frz 1 (ints (fwd next n 0))]⟩) (tab_le fun y hy => ?_) ?_ ?_
      · simp only [List.mem_cons, List.not_mem_nil, or_false] at hy
        rcases hy with rfl | rfl | rfl | rfl
        · rfl
        · rfl
        · rfl
        · simp [frS, upd, AV.unref, hd0, hln, htk]
      · simp [frS, Ob.unref, AV.unref, hd0]
      repeat (first | refine nav ?_ | refine bo ?_)
      (refine wr fun K R hK hR => ?_; simp (maxSteps := 10000000) only [go_sem]; (try go_ints); (repeat refine And.intro side ?_); (first | refine hK _ ?_ | refine hR _ _ ?_); clear hK hR K R)
      repeat (first | refine nav ?_ | refine bo ?_)
      (refine wr fun K R hK hR => ?_; simp (maxSteps := 10000000) only [go_sem]; (try go_ints); (repeat refine And.intro side ?_); (first | refine hK _ ?_ | refine hR _ _ ?_); clear hK hR K R)
      repeat (first | refine nav ?_ | refine bo ?_)
      refine W_weak (s' := ⟨mix 37 91 [8, 9, 10, 11, 12, 13, 14, 15] (tab [(8, .sl 1 (ints (fwd next n 0))), (9, .i .i64 0), (10, .i .i64 0)]) (tab [(1, .i .i64 mo), (2, .ptr 0 0 0), (6, .ptr 1 0 0)]), _⟩) (tab_mix (fun x hx => ?_) (fun x hx => ?_)) rfl ?_
      · simp only [List.mem_cons, List.not_mem_nil, or_false] at hx
        rcases hx with rfl | rfl | rfl <;> rfl
      · simp only [List.mem_cons, List.not_mem_nil, or_false] at hx
        rcases hx with rfl | rfl | rfl <;> rfl
      refine W_forM 37 91 [8, 9, 10, 11, 12, 13, 14, 15] (fun m t o => ∃ (d : Nat) (tot : Int), okO o = true ∧ o[0]? = some (.cells 2 [[.i .i64 n, .sl 3 (rels s.rels)]]) ∧ o[1]? = some (.cells 2 [[.sl 1 (tups next), .sl 1 (bools (graphD s).2)]]) ∧
        t 8 = .sl 1 (ints (fwd next n d)) ∧ t 9 = .i .i64 tot ∧ t 10 = .i .i64 d ∧ m = mo + 1 - d ∧ d ≤ mo + 1 ∧ 0 ≤ tot ∧ tot ≤ 1099511627776 ∧ hwF next n (mo + 1 - d) d tot = hwF next n (mo + 1) 0 0) (mo + 1)
        ⟨0, 0, rfl, rfl, rfl, rfl, rfl, rfl, by omega, Nat.zero_le _, by omega, by omega, rfl⟩ ?_
      rintro m t o ⟨d, tot, hok, o0, o1, h8, h9, h10, rfl, hd, ht0, ht1, hfin⟩
      have hol := (List.getElem?_eq_some_iff.1 o1).1
      repeat (first | refine nav ?_ | refine bo ?_)
      (refine wr fun K R hK hR => ?_; simp (maxSteps := 10000000) only [go_sem, h10, h8]; (try go_ints); (try simp only [go_sem, h10, h8]); (repeat refine And.intro side ?_); (first | refine hK _ ?_ | refine hR _ _ ?_); clear hK hR K R)
      refine RL_callDg rfl (by simp only [go_sem] <;> exact rfl) (fun e => max_spec (fwd next n d) (by rw [fwd_len]; omega) (by rw [fwd_len]; omega)) rfl rfl rfl (fun e => by (try simp only [go_sem] at e); simp only [go_sem, e] <;> (try simp only [go_sem, h8]) <;> first | exact LeA.refl _ | exact Le.refl _) rfl rfl ?_
      (refine rr fun K R hK hR => ?_; simp (maxSteps := 10000000) only [go_sem]; (try go_ints); (repeat refine And.intro side ?_); (first | refine hK _ ?_ | refine hR _ _ ?_); clear hK hR K R)
      repeat (first | refine nav ?_ | refine bo ?_)
      refine W_cond (by simp only [go_sem] <;> exact rfl) (fun hb => ?_) (fun hb => ?_)
      · simp only [Bool.or_eq_true, Bool.and_eq_true, Bool.not_eq_true', Bool.not_eq_false', Bool.and_eq_false_iff, Bool.or_eq_false_iff, decide_eq_true_eq, decide_eq_false_iff_not, Bool.not_eq_eq_eq_not, Bool.not_true, Bool.not_false] at hb
        obtain ⟨hb1, hb2⟩ := hb
        obtain ⟨f, hf'⟩ : ∃ f, mo + 1 - d = f + 1 := ⟨mo - d, by omega⟩
        rw [hf', hwF, if_pos hb2] at hfin
        obtain ⟨v, hv⟩ : ∃ v, (fwd next n d)[n - 1]? = some v := ⟨_, List.getElem?_eq_getElem (by rw [fwd_len]; omega)⟩
        have hv0 : (fwd next n d).getD (n - 1) 0 = v := by simp [hv]
        have hvb := fwd_bd next n d (n - 1)
        rw [hv0] at hvb hfin
        have hcap : capH = 1099511627777 := rfl
        have en : ((n : Int) - 1).toNat = n - 1 := by omega
        repeat (first | refine nav ?_ | refine bo ?_)
        (refine wr fun K R hK hR => ?_; simp (maxSteps := 10000000) only [go_sem, h8, h9, o0, fwd_len, en, ints_get hv]; (try go_ints); (try simp only [go_sem, h8, h9, o0, fwd_len, en, ints_get hv]); (repeat refine And.intro side ?_); (first | refine hK _ ?_ | refine hR _ _ ?_); clear hK hR K R)
        repeat (first | refine nav ?_ | refine bo ?_)
        (refine wr fun K R hK hR => ?_; simp (maxSteps := 10000000) only [go_sem]; (try go_ints); (repeat refine And.intro side ?_); (first | refine hK _ ?_ | refine hR _ _ ?_); clear hK hR K R)
        repeat (first | refine nav ?_ | refine bo ?_)
        refine W_cond (by simp only [go_sem] <;> exact rfl) (fun hb => ?_) (fun hb => ?_)
        · have hb3 : tot + v > 1099511627776 := by simpa using hb
          rw [if_pos hb3] at hfin
          rw [← hfin]
          repeat (first | refine nav ?_ | refine bo ?_)
          (refine wr fun K R hK hR => ?_; simp (maxSteps := 10000000) only [go_sem]; (try go_ints); (repeat refine And.intro side ?_); (first | refine hK _ ?_ | refine hR _ _ ?_); clear hK hR K R)
          repeat (first | refine nav ?_ | refine bo ?_)
          refine endQ_data (by simp only [go_sem] <;> exact rfl) (Le.of_eq ?_) rfl
          rfl
        · have hb3 : ¬ tot + v > 1099511627776 := by simpa using hb
          rw [if_neg hb3] at hfin
          have o0' := fun l => app_get l o0
          have o1' := fun l => app_get l o1
          repeat (first | refine nav ?_ | refine bo ?_)
          (refine wr fun K R hK hR => ?_; simp (maxSteps := 10000000) only [go_sem, o0]; (try go_ints); (try simp only [go_sem, o0]); (repeat refine And.intro side ?_); (first | refine hK _ ?_ | refine hR _ _ ?_); clear hK hR K R)
          repeat (first | refine nav ?_ | refine bo ?_)
          (refine wr fun K R hK hR => ?_; simp (maxSteps := 10000000) only [go_sem, h8, fwd_len]; (try go_ints); (try simp only [go_sem, h8, fwd_len]); (repeat refine And.intro side ?_); (first | refine hK _ ?_ | refine hR _ _ ?_); clear hK hR K R)
          repeat (first | refine nav ?_ | refine bo ?_)
          refine W_weak (s' := ⟨tab [(1, .i .i64 mo), (2, .ptr 0 0 0), (6, .ptr 1 0 0), (8, .sl 1 (ints (fwd next n d))), (9, .i .i64 (tot + v)), (10, .i .i64 d), (11, .ref o.length 0 n), (60, .sl 1 (ints (fwd next n d))), (61, .i .i64 n), (62, .i .i64 0)], o ++ [.cells 1 (ints (outH next (fwd next n d) n 0))]⟩) (tab_le fun y hy => ?_) ?_ ?_
          · simp only [List.mem_cons, List.not_mem_nil, or_false] at hy
            rcases hy with rfl | rfl | rfl | rfl | rfl | rfl | rfl | rfl | rfl | rfl
            · rfl
            · rfl
            · rfl
            · exact h8
            · rfl
            · exact h10
            · rfl
            · rfl
            · rfl
            · rfl
          · rw [hi0]; rfl
          refine W_for 62 90 [12, 13, 14, 15] (fun m t o2 => ∃ x : Nat, o2 = o ++ [.cells 1 (ints (outH next (fwd next n d) n x))] ∧ t 62 = .i .i64 x ∧ m = n - x ∧ x ≤ n) n ⟨0, rfl, rfl, by omega, Nat.zero_le _⟩ ?_
          rintro m t2 o2 ⟨x, rfl, h62, rfl, hx⟩
          repeat (first | refine nav ?_ | refine bo ?_)
          (refine wr fun K R hK hR => ?_; simp (maxSteps := 10000000) only [go_sem, h62]; (try go_ints); (try simp only [go_sem, h62]); (repeat refine And.intro side ?_); (first | refine hK _ ?_ | refine hR _ _ ?_); clear hK hR K R)
          repeat (first | refine nav ?_ | refine bo ?_)
          refine W_cond (by simp only [go_sem] <;> exact rfl) (fun hb => ?_) (fun hb => ?_)
          · simp at hb
            obtain ⟨l, hl⟩ : ∃ r, next[x]? = some r := ⟨_, List.getElem?_eq_getElem (by omega)⟩
            obtain ⟨hll, hlm⟩ := hge l (List.mem_of_getElem? hl)
            obtain ⟨w, hw⟩ : ∃ r, (fwd next n d)[x]? = some r := ⟨_, List.getElem?_eq_getElem (by rw [fwd_len]; omega)⟩
            have hw0 : (fwd next n d).getD x 0 = w := by simp [hw]
            have hl0 : next.getD x [] = l := by simp [hl]
            have hwb := fwd_bd next n d x
            rw [hw0] at hwb
            have hout := outH_succ next (fwd next n d) n x
            rw [hw0, hl0] at hout
            repeat (first | refine nav ?_ | refine bo ?_)
            (refine wr fun K R hK hR => ?_; simp (maxSteps := 10000000) only [go_sem, h62, ints_get hw, fwd_len]; (try go_ints); (try simp only [go_sem, h62, ints_get hw, fwd_len]); (repeat refine And.intro side ?_); (first | refine hK _ ?_ | refine hR _ _ ?_); clear hK hR K R)
            repeat (first | refine nav ?_ | refine bo ?_)
            (refine wr fun K R hK hR => ?_; simp (maxSteps := 10000000) only [go_sem, o1', tups_get hl]; (try go_ints); (try simp only [go_sem, o1', tups_get hl]); (repeat refine And.intro side ?_); (first | refine hK _ ?_ | refine hR _ _ ?_); clear hK hR K R)
            repeat (first | refine nav ?_ | refine bo ?_)
            refine W_for 73 88 [14, 15] (fun m t o2 => ∃ j : Nat, o2 = o ++ [.cells 1 (ints (inH w (l.take j) (outH next (fwd next n d) n x)))] ∧ t 73 = .i .i64 j ∧ m = l.length - j ∧ j ≤ l.length) l.length ⟨0, rfl, by simp only [go_sem] <;> rfl, by omega, Nat.zero_le _⟩ ?_
            rintro m t3 o2 ⟨j, rfl, h73, rfl, hj⟩
            repeat (first | refine nav ?_ | refine bo ?_)
            (refine wr fun K R hK hR => ?_; simp (maxSteps := 10000000) only [go_sem, h73]; (try go_ints); (try simp only [go_sem, h73]); (repeat refine And.intro side ?_); (first | refine hK _ ?_ | refine hR _ _ ?_); clear hK hR K R)
            repeat (first | refine nav ?_ | refine bo ?_)
            refine W_cond (by simp only [go_sem] <;> exact rfl) (fun hb => ?_) (fun hb => ?_)
            · simp at hb
              obtain ⟨y, hy⟩ : ∃ r, l[j]? = some r := ⟨_, List.getElem?_eq_getElem hb⟩
              obtain ⟨y0, y1⟩ := hlm y (List.mem_of_getElem? hy)
              obtain ⟨y, rfl⟩ := Int.eq_ofNat_of_zero_le y0
              have hbd := inH_bd hwb.1 (l.take j) (outH_bd next (fwd_bd next n d) n x)
              have hlen : (inH w (l.take j) (outH next (fwd next n d) n x)).length = n := by rw [inH_len, outH_len]
              have htake := inH_take w l (outH next (fwd next n d) n x) j y hy
              generalize inH w (l.take j) (outH next (fwd next n d) n x) = acc at hbd hlen htake ⊢
              obtain ⟨av, hav⟩ : ∃ r, acc[y]? = some r := ⟨_, List.getElem?_eq_getElem (by omega)⟩
              have hav0 : acc.getD y 0 = av := by simp [hav]
              have hab := hbd y
              rw [hav0] at hab
              repeat (first | refine nav ?_ | refine bo ?_)
              (refine wr fun K R hK hR => ?_; simp (maxSteps := 10000000) only [go_sem, h73, ints_get hy]; (try go_ints); (try simp only [go_sem, h73, ints_get hy]); (repeat refine And.intro side ?_); (first | refine hK _ ?_ | refine hR _ _ ?_); clear hK hR K R)
              repeat (first | refine nav ?_ | refine bo ?_)
              (refine wr fun K R hK hR => ?_; simp (maxSteps := 10000000) only [go_sem, ints_get hav, hlen, ints_set]; (try go_ints); (try simp only [go_sem, ints_get hav, hlen, ints_set]); (repeat refine And.intro side ?_); (first | refine hK _ ?_ | refine hR _ _ ?_); clear hK hR K R)
              have hset : acc.set y (if 1099511627777 < av + w then 1099511627777 else av + w) = inH w (l.take (j + 1)) (outH next (fwd next n d) n x) := by
                rw [htake, addH, Int.toNat_natCast, hav0, hcap]
                congr 1
                split <;> omega
              rw [hset]
              repeat (first | refine nav ?_ | refine bo ?_)
              (refine wr fun K R hK hR => ?_; simp (maxSteps := 10000000) only [go_sem, h73]; (try go_ints); (try simp only [go_sem, h73]); (repeat refine And.intro side ?_); (first | refine hK _ ?_ | refine hR _ _ ?_); clear hK hR K R)
              refine forQ_normal (l.length - (j + 1)) (by omega) ⟨j + 1, rfl, ?_⟩
              ((try simp only [go_sem]); (repeat' refine And.intro ?_ ?_) <;> (try first | with_reducible rfl | omega | with_reducible assumption | (simp; done)))
            · simp at hb
              have : j = l.length := by omega
              subst this
              rw [List.take_length, ← hout, mix_mix rfl]
              repeat (first | refine nav ?_ | refine bo ?_)
              (refine wr fun K R hK hR => ?_; simp (maxSteps := 10000000) only [go_sem, h62]; (try go_ints); (try simp only [go_sem, h62]); (repeat refine And.intro side ?_); (first | refine hK _ ?_ | refine hR _ _ ?_); clear hK hR K R)
              refine forQ_normal (n - (x + 1)) (by omega) ⟨x + 1, rfl, ?_⟩
              ((try simp only [go_sem]); (repeat' refine And.intro ?_ ?_) <;> (try first | with_reducible rfl | omega | with_reducible assumption | (simp; done)))
          · simp at hb
            have : x = n := by omega
            subst this
            rw [show outH next (fwd next x d) x x = fwd next x (d + 1) from rfl]
            refine W_freeze o.length (sz := 1) (rows := ints (fwd next x (d + 1))) (by simp) (hp0 _) ?_
            rw [frS_last hok (hd0 _)]
            refine W_weak (s' := ⟨mix 37 91 [8, 9, 10, 11, 12, 13, 14, 15] (tab [(9, .i .i64 (tot + v)), (10, .i .i64 d), (11, .sl 1 (ints (fwd next x (d + 1))))]) (tab [(1, .i .i64 mo), (2, .ptr 0 0 0), (6, .ptr 1 0 0)]), o ++ [.frz 1 (ints (fwd next x (d + 1)))]⟩) (tab_mix (fun y hy => ?_) (fun y hy => ?_)) rfl ?_
            · simp only [List.mem_cons, List.not_mem_nil, or_false] at hy
              rcases hy with rfl | rfl | rfl
              · rfl
              · rfl
              · simp [mix, inL, tab, upd, AV.unref, hln, htk]
            · simp only [List.mem_cons, List.not_mem_nil, or_false] at hy
              rcases hy with rfl | rfl | rfl <;> rfl
            repeat (first | refine nav ?_ | refine bo ?_)
            (refine wr fun K R hK hR => ?_; simp (maxSteps := 10000000) only [go_sem]; (try go_ints); (repeat refine And.intro side ?_); (first | refine hK _ ?_ | refine hR _ _ ?_); clear hK hR K R)
            repeat (first | refine nav ?_ | refine bo ?_)
            (refine wr fun K R hK hR => ?_; simp (maxSteps := 10000000) only [go_sem]; (try go_ints); (repeat refine And.intro side ?_); (first | refine hK _ ?_ | refine hR _ _ ?_); clear hK hR K R)
            refine forQ_normal (mo + 1 - (d + 1)) (by omega) ⟨d + 1, tot + v, okO_app hok rfl, o0' _, o1' _, ?_⟩
            ((try simp only [go_sem]); (repeat' refine And.intro ?_ ?_) <;> (try first | with_reducible rfl | omega | with_reducible assumption | (simp; done)))
            rw [show mo + 1 - (d + 1) = f by omega]
            exact hfin
      · simp only [Bool.or_eq_true, Bool.and_eq_true, Bool.not_eq_true', Bool.not_eq_false', Bool.and_eq_false_iff, Bool.or_eq_false_iff, decide_eq_true_eq, decide_eq_false_iff_not, Bool.not_eq_eq_eq_not, Bool.not_true, Bool.not_false] at hb
        have hres : hwF next n (mo + 1) 0 0 = some tot := by
          rw [← hfin]
          by_cases hdm : d = mo + 1
          · rw [hdm, Nat.sub_self]; rfl
          · obtain ⟨f, hf'⟩ : ∃ f, mo + 1 - d = f + 1 := ⟨mo - d, by omega⟩
            rw [hf', hwF, if_neg]
            rcases hb with h | h
            · omega
            · exact h
        rw [hres]
        repeat (first | refine nav ?_ | refine bo ?_)
        (refine wr fun K R hK hR => ?_; simp (maxSteps := 10000000) only [go_sem, h9]; (try go_ints); (try simp only [go_sem, h9]); (repeat refine And.intro side ?_); (first | refine hK _ ?_ | refine hR _ _ ?_); clear hK hR K R)
        repeat (first | refine nav ?_ | refine bo ?_)
        refine endQ_data (by simp only [go_sem] <;> exact rfl) (Le.of_eq ?_) rfl
        rfl
end Go.AW
/-
Contracts: the first walk.
-/
namespace Go.AW
open Go Go.Proofs TyTry Go.IntWalk
set_option linter.unusedSimpArgs false
set_option linter.unusedVariables false
set_option maxRecDepth 10000

theorem walk1_spec {oc : List Ob} (ho : okO oc = true) {i j q : Nat} {far : List Int} {d : Int} (hi : oc[i]? = some (.cells 1 [[.ref q 0 far.length]])) (hq : oc[q]? = some (.cells 1 (ints far))) (hj : oc[j]? = some (.cells 1 [[.i .i64 d]]))
    (hd : -1000 ≤ d ∧ d ≤ 1000) (y : Nat) {v : Int} (hv : far[y]? = some v) (hl : far.length ≤ 1099511627776) :
    ACallsQ Try.prog 37 [.i .i64 y, .ptr i 0 0, .ptr j 0 0] oc (.b (v == d - 1)) := by
  have hlt := (List.getElem?_eq_some_iff.1 hv).1
  refine ACalls_of' (n := 12) (rs := [.tmp 4]) (show Try.prog.funcs[37]? = some Try.f37 by kernel_rfl) rfl rfl rfl (by simp) (by decide +kernel) ?_
  repeat (first | refine nav ?_ | refine bo ?_)
  (refine wr fun K R hK hR => ?_; simp (maxSteps := 10000000) only [go_sem]; (try go_ints); (repeat refine And.intro side ?_); (first | refine hK _ ?_ | refine hR _ _ ?_); clear hK hR K R)
  repeat (first | refine nav ?_ | refine bo ?_)
  (refine W_dreg (by decide +kernel) [] [0, 1, 2, 3, 4, 5, 6, 7] [[], [], [1, 0], [0, 1, 2], [], [4], [4, 5, 2, 1, 0, 3], [3, 0, 1, 2, 5, 4, 6]] (by decide +kernel) rfl fun K R hK hR => ?_; simp only [List.filterMap_cons, List.filterMap_nil, List.getElem?_cons_zero, List.getElem?_cons_succ, List.cons_append, List.nil_append]; simp (maxSteps := 10000000) only [go_sem, hi, hj, hq, ints_get hv]; (try go_ints); (try simp only [go_sem, hi, hj, hq, ints_get hv]); (repeat refine And.intro side ?_); (first | refine hK _ ?_ | refine hR _ _ ?_); clear hK hR K R)
  repeat (first | refine nav ?_ | refine bo ?_)
  refine endQ_quiet0 (by simp only [go_sem] <;> exact rfl) (Le.of_eq ?_) (by assumption) rfl
  rfl
theorem walk2_spec {oc : List Ob} (ho : okO oc = true) {i j q : Nat} {far : List Int} {x : Nat} (hi : oc[i]? = some (.cells 1 [[.ref q 0 far.length]])) (hq : oc[q]? = some (.cells 1 (ints far))) (hj : oc[j]? = some (.cells 1 [[.i .i64 x]]))
    (y : Nat) {v u : Int} (hv : far[y]? = some v) (hu : far[x]? = some u) (hd : -1000 ≤ u ∧ u ≤ 1000) (hl : far.length ≤ 1099511627776) :
    ACallsQ Try.prog 39 [.i .i64 y, .ptr i 0 0, .ptr j 0 0] oc (.b (v == u - 1)) := by
  have hlt := (List.getElem?_eq_some_iff.1 hv).1
  have hlu := (List.getElem?_eq_some_iff.1 hu).1
  refine ACalls_of' (n := 15) (rs := [.tmp 4]) (show Try.prog.funcs[39]? = some Try.f39 by kernel_rfl) rfl rfl rfl (by simp) (by decide +kernel) ?_
  repeat (first | refine nav ?_ | refine bo ?_)
  (refine wr fun K R hK hR => ?_; simp (maxSteps := 10000000) only [go_sem]; (try go_ints); (repeat refine And.intro side ?_); (first | refine hK _ ?_ | refine hR _ _ ?_); clear hK hR K R)
  repeat (first | refine nav ?_ | refine bo ?_)
  (refine W_dreg (by decide +kernel) [] [0, 1, 2, 3, 4, 5, 6, 7, 8, 9, 10] [[], [], [1, 0], [0, 1, 2], [], [], [5, 4], [4, 5, 6], [6, 5, 4, 7], [7, 4, 5, 6, 8, 2, 1, 0, 3], [3, 0, 1, 2, 8, 6, 5, 4, 7, 9]] (by decide +kernel) rfl fun K R hK hR => ?_; simp only [List.filterMap_cons, List.filterMap_nil, List.getElem?_cons_zero, List.getElem?_cons_succ, List.cons_append, List.nil_append]; simp (maxSteps := 10000000) only [go_sem, hi, hj, hq, ints_get hv, ints_get hu]; (try go_ints); (try simp only [go_sem, hi, hj, hq, ints_get hv, ints_get hu]); (repeat refine And.intro side ?_); (first | refine hK _ ?_ | refine hR _ _ ?_); clear hK hR K R)
  repeat (first | refine nav ?_ | refine bo ?_)
  refine endQ_quiet0 (by simp only [go_sem] <;> exact rfl) (Le.of_eq ?_) (by assumption) rfl
  rfl
end Go.AW
/-
Contracts: the first walk, second part.
-/
namespace Go.AW
open Go Go.Proofs TyTry Go.IntWalk
set_option linter.unusedSimpArgs false
set_option linter.unusedVariables false
set_option maxRecDepth 10000

/-- One element in a round; a round; the rounds. -/
def farX (next : List (List Int)) (d : Int) (far : List Int) (x : Nat) : List Int := if (decide (far.getD x 0 < 0) && (next.getD x []).any fun y => far.getD y.toNat 0 == d - 1) = true then far.set x d else far
def farP (next : List (List Int)) (d : Int) (far : List Int) (k : Nat) : List Int := (List.range k).foldl (farX next d) far
def farN (next : List (List Int)) (n : Nat) : Nat → List Int
  | 0 => (List.replicate n (-1)).set (n - 1) 0
  | d + 1 => farP next ((d : Int) + 1) (farN next n d) n
theorem farX_len (next : List (List Int)) (d : Int) (far : List Int) (x : Nat) : (farX next d far x).length = far.length := by
  unfold farX; split <;> simp
theorem farP_succ (next : List (List Int)) (d : Int) (far : List Int) (k : Nat) : farP next d far (k + 1) = farX next d (farP next d far k) k := by
  simp only [farP, List.range_succ, List.foldl_append, List.foldl_cons, List.foldl_nil]
theorem farP_len (next : List (List Int)) (d : Int) (far : List Int) : ∀ k, (farP next d far k).length = far.length
  | 0 => rfl
  | k + 1 => by rw [farP_succ, farX_len, farP_len next d far k]
theorem farN_len (next : List (List Int)) (n : Nat) : ∀ d, (farN next n d).length = n
  | 0 => by simp [farN]
  | d + 1 => by rw [farN, farP_len, farN_len next n d]
/-- Each one found has one before it, and only the last is at 0. -/
structure FarOk (next : List (List Int)) (n : Nat) (most : Int) (far : List Int) : Prop where
  len : far.length = n
  bd : ∀ (x : Nat) v, far[x]? = some v → -1 ≤ v ∧ v ≤ most
  zero : ∀ (x : Nat), far[x]? = some 0 → x = n - 1
  pre : ∀ (x : Nat) v, far[x]? = some v → 0 < v → ∃ y ∈ next.getD x [], far.getD y.toNat 0 = v - 1 ∧ y.toNat < n
theorem FarOk.step {next : List (List Int)} {n : Nat} {far : List Int} {d : Int} (hd : 1 ≤ d) (h : FarOk next n d far) (hb : ∀ l ∈ next, ∀ y ∈ l, 0 ≤ y ∧ y < (n : Int)) (x : Nat) : FarOk next n d (farX next d far x) := by
  unfold farX
  split
  · rename_i hc
    rw [Bool.and_eq_true, decide_eq_true_eq, List.any_eq_true] at hc
    obtain ⟨hneg, y, hy, hyd⟩ := hc
    have hyd : far.getD y.toNat 0 = d - 1 := by simpa using hyd
    have hyn : 0 ≤ y ∧ y < (n : Int) := by
      cases hq : next[x]? with
      | none => rw [List.getD_eq_getElem?_getD, hq] at hy; simp at hy
      | some l => rw [List.getD_eq_getElem?_getD, hq] at hy; exact hb l (List.mem_of_getElem? hq) y hy
    have hkeep : ∀ (z : Nat) (v : Int), 0 ≤ v → z < n → far.getD z 0 = v → (far.set x d).getD z 0 = v := by
      intro z v hv hz he
      rw [List.getD_eq_getElem?_getD, List.getElem?_set]
      split
      · rename_i e; subst e; omega
      · rw [← List.getD_eq_getElem?_getD]; exact he
    refine ⟨by rw [List.length_set, h.len], fun z v hv => ?_, fun z hv => ?_, fun z v hv hpos => ?_⟩
    · rw [List.getElem?_set] at hv
      split at hv
      · split at hv
        · simp only [Option.some.injEq] at hv; omega
        · cases hv
      · exact h.bd z v hv
    · rw [List.getElem?_set] at hv
      split at hv
      · split at hv
        · simp only [Option.some.injEq] at hv; omega
        · cases hv
      · exact h.zero z hv
    · rw [List.getElem?_set] at hv
      split at hv
      · split at hv
        · rename_i e _
          subst e
          simp only [Option.some.injEq] at hv
          subst hv
          exact ⟨y, hy, hkeep _ _ (by omega) (by omega) hyd, by omega⟩
        · cases hv
      · obtain ⟨y', hy', h1, h2⟩ := h.pre z v hv hpos
        exact ⟨y', hy', hkeep _ _ (by omega) h2 h1, h2⟩
  · exact h
theorem FarOk.up {next : List (List Int)} {n : Nat} {far : List Int} {d d' : Int} (h : FarOk next n d far) (hd : d ≤ d') : FarOk next n d' far :=
  ⟨h.len, fun x v hv => ⟨(h.bd x v hv).1, Int.le_trans (h.bd x v hv).2 hd⟩, h.zero, h.pre⟩
theorem FarOk.steps {next : List (List Int)} {n : Nat} {far : List Int} {d : Int} (hd : 1 ≤ d) (h : FarOk next n d far) (hb : ∀ l ∈ next, ∀ y ∈ l, 0 ≤ y ∧ y < (n : Int)) : ∀ k, FarOk next n d (farP next d far k)
  | 0 => h
  | k + 1 => by rw [farP_succ]; exact (FarOk.steps hd h hb k).step hd hb k
theorem farN_ok {next : List (List Int)} {n : Nat} (hn : 1 ≤ n) (hb : ∀ l ∈ next, ∀ y ∈ l, 0 ≤ y ∧ y < (n : Int)) : ∀ d : Nat, FarOk next n d (farN next n d)
  | 0 => by
    have key : ∀ (x : Nat) v, (farN next n 0)[x]? = some v → (x = n - 1 ∧ v = 0) ∨ v = -1 := by
      intro x v hv
      rw [farN, List.getElem?_set] at hv
      split at hv
      · rename_i e
        split at hv
        · simp only [Option.some.injEq] at hv; exact .inl ⟨e.symm, hv.symm⟩
        · cases hv
      · rw [List.getElem?_replicate] at hv
        split at hv
        · simp only [Option.some.injEq] at hv; exact .inr hv.symm
        · cases hv
    refine ⟨farN_len _ _ _, fun x v hv => ?_, fun x hv => ?_, fun x v hv hpos => ?_⟩
    · rcases key x v hv with ⟨_, h⟩ | h <;> simp [h]
    · rcases key x 0 hv with ⟨h, _⟩ | h
      · exact h
      · omega
    · rcases key x v hv with ⟨_, h⟩ | h <;> omega
  | d + 1 => by
    have := (farN_ok hn hb d).up (d' := (d : Int) + 1) (by omega)
    have h2 := this.steps (by omega) hb n
    rw [farN, Int.natCast_add, Int.natCast_one]
    exact h2
end Go.AW
/-
Contracts: the first walk, third part.
-/
namespace Go.AW
open Go Go.Proofs TyTry Go.IntWalk
set_option linter.unusedSimpArgs false
set_option linter.unusedVariables false
set_option maxRecDepth 10000

def stepF (next : List (List Int)) (far : List Int) (x : Nat) : Int := (next.getD x []).getD (idxI (fun y => far.getD y.toNat 0 == far.getD x 0 - 1) (next.getD x []) 0).toNat 0
def pathF (next : List (List Int)) (far : List Int) (last : Nat) : Nat → Nat → List Int
  | 0, _ => []
  | f + 1, x => if x = last then [] else stepF next far x :: pathF next far last f (stepF next far x).toNat
def walkHA (s : StrD) : AV :=
  if codeF s false ≠ 0 then .tup [.sl 1 [], .i .i64 (codeF s false)] else
    if (farN (graphD s).1 s.size.toNat (s.size.toNat - 1)).getD 0 0 < 0 then .tup [.sl 1 [], .i .i64 6] else
      .tup [.sl 1 (ints (0 :: pathF (graphD s).1 (farN (graphD s).1 s.size.toNat (s.size.toNat - 1)) (s.size.toNat - 1) s.size.toNat 0)), .i .i64 0]
def fillL (n k : Nat) : List Int := (List.range n).map fun i => if i < k then -1 else 0
theorem fillL_zero (n : Nat) : fillL n 0 = List.replicate n 0 := by
  apply List.ext_getElem?
  intro i
  by_cases h : i < n <;> simp [fillL, h, List.getElem?_replicate]
theorem fillL_full (n : Nat) : fillL n n = List.replicate n (-1) := by
  apply List.ext_getElem?
  intro i
  by_cases h : i < n <;> simp [fillL, h, List.getElem?_replicate]
theorem fillL_len (n k : Nat) : (fillL n k).length = n := by simp [fillL]
theorem fillL_set (n k : Nat) (hk : k < n) : (fillL n k).set k (-1) = fillL n (k + 1) := by
  apply List.ext_getElem?
  intro i
  rw [List.getElem?_set]
  by_cases hi : i < n
  · by_cases e : k = i
    · subst e; simp [fillL, hi]
    · have : (i < k + 1) = (i < k) := by apply propext; omega
      simp [fillL, hi, e, this]
  · have : k ≠ i := by omega
    simp [fillL, hi, this]
theorem walkh_spec (s : StrD) (hs : s.Ok) (ht : tupN s.rels ≤ 1099511627776) :
    ACallsD Try.prog 11 [.agg [.i .i64 s.size, .sl 3 (rels s.rels)]] (walkHA s) := by
  obtain ⟨g, code, hg, hc0, hc1⟩ := graphR_E s
  have hG := graphOf_spec s hs symsE (by decide)
  rw [hg] at hG
  refine ACalls_of' (n := 100) (rs := [.tmp 2, .tmp 3]) (show Try.prog.funcs[11]? = some Try.f11 by kernel_rfl) rfl rfl rfl (by simp) (by decide +kernel) ?_
  repeat (first | refine nav ?_ | refine bo ?_)
  (refine wr fun K R hK hR => ?_; simp (maxSteps := 10000000) only [go_sem]; (try go_ints); (repeat refine And.intro side ?_); (first | refine hK _ ?_ | refine hR _ _ ?_); clear hK hR K R)
  repeat (first | refine nav ?_ | refine bo ?_)
  (refine W_dreg (by decide +kernel) [] [0, 1, 2, 3, 4, 5, 6, 7, 8, 9] [[], [], [1], [1, 2, 0], [0, 2, 1, 3], [3, 1, 2, 0, 4], [3, 1, 2, 0, 4], [], [4, 0, 2, 1, 3, 5, 7], [7, 5, 8, 4, 0, 2, 1, 3, 6]] (by decide +kernel) rfl fun K R hK hR => ?_; simp only [List.filterMap_cons, List.filterMap_nil, List.getElem?_cons_zero, List.getElem?_cons_succ, List.cons_append, List.nil_append]; simp (maxSteps := 10000000) only [go_sem]; (try go_ints); (repeat refine And.intro side ?_); (first | refine hK _ ?_ | refine hR _ _ ?_); clear hK hR K R)
  refine D_callD (edges_spec) rfl rfl rfl (by first | (simp only [go_sem] <;> first | exact LeA.refl _ | exact Le.refl _) | exact LeA.refl _) rfl rfl rfl rfl ?_
  (refine D_reg fun K R hK hR => ?_; simp (maxSteps := 10000000) only [go_sem]; (try go_ints); (repeat refine And.intro side ?_); (first | refine hK _ ?_ | refine hR _ _ ?_); clear hK hR K R)
  refine D_callD (hG) rfl rfl rfl (by first | (simp only [go_sem] <;> first | exact LeA.refl _ | exact Le.refl _) | exact LeA.refl _) rfl rfl rfl rfl ?_
  (refine D_reg fun K R hK hR => ?_; simp (maxSteps := 10000000) only [go_sem]; (try go_ints); (repeat refine And.intro side ?_); (first | refine hK _ ?_ | refine hR _ _ ?_); clear hK hR K R)
  repeat (first | refine nav ?_ | refine bo ?_)
  (refine wr fun K R hK hR => ?_; simp (maxSteps := 10000000) only [go_sem]; (try go_ints); (repeat refine And.intro side ?_); (first | refine hK _ ?_ | refine hR _ _ ?_); clear hK hR K R)
  repeat (first | refine nav ?_ | refine bo ?_)
  refine W_cond (by simp only [go_sem] <;> exact rfl) (fun hb => ?_) (fun hb => ?_)
  · have hb : code ≠ 0 := by simpa using hb
    rw [walkHA, ← hc1 hb, if_pos hb]
    repeat (first | refine nav ?_ | refine bo ?_)
    (refine wr fun K R hK hR => ?_; simp (maxSteps := 10000000) only [go_sem]; (try go_ints); (repeat refine And.intro side ?_); (first | refine hK _ ?_ | refine hR _ _ ?_); clear hK hR K R)
    repeat (first | refine nav ?_ | refine bo ?_)
    refine endQ_data (by simp only [go_sem] <;> exact rfl) (Le.of_eq ?_) rfl
    rfl
  · have hb : code = 0 := by simpa using hb
    obtain ⟨hv, hf, rfl⟩ := hc0 hb
    subst hb
    clear hc0 hc1
    have hcode := codeF_ok hv hf
    obtain ⟨z1, z2, z3⟩ := valid_size hv
    obtain ⟨n, hn⟩ := Int.eq_ofNat_of_zero_le (show 0 ≤ s.size by omega)
    have hg := graphD_ok hv
    have hnn : s.size.toNat = n := by omega
    rw [hnn] at hg
    rw [walkHA, if_neg (by simp [hcode]), hnn]
    have hg1 := hg.l1
    have hge := hg.el
    generalize (graphD s).1 = next at hg1 hge ⊢
    have hge2 : ∀ l ∈ next, ∀ y ∈ l, 0 ≤ y ∧ y < (n : Int) := fun l hl => (hge l hl).2
    have hge1 : ∀ l ∈ next, l.length ≤ 1099511627776 := fun l hl => by have := (hge l hl).1; omega
    have hi0 : List.replicate n [AV.i .i64 0] = ints (fillL n 0) := by rw [fillL_zero]; simp [ints]
    repeat (first | refine nav ?_ | refine bo ?_)
    (refine wr fun K R hK hR => ?_; simp (maxSteps := 10000000) only [go_sem, hn]; (try go_ints); (try simp only [go_sem, hn]); (repeat refine And.intro side ?_); (first | refine hK _ ?_ | refine hR _ _ ?_); clear hK hR K R)
    repeat (first | refine nav ?_ | refine bo ?_)
    (refine wr fun K R hK hR => ?_; simp (maxSteps := 10000000) only [go_sem, hn, List.modify_zero_cons, List.set_cons_zero]; (try go_ints); (try simp only [go_sem, hn, List.modify_zero_cons, List.set_cons_zero]); (repeat refine And.intro side ?_); (first | refine hK _ ?_ | refine hR _ _ ?_); clear hK hR K R)
    simp only [hi0]
    repeat (first | refine nav ?_ | refine bo ?_)
    (refine wr fun K R hK hR => ?_; simp (maxSteps := 10000000) only [go_sem]; (try go_ints); (repeat refine And.intro side ?_); (first | refine hK _ ?_ | refine hR _ _ ?_); clear hK hR K R)
    repeat (first | refine nav ?_ | refine bo ?_)
    refine W_for 32 39 [8] (fun m t o => ∃ k : Nat, [Ob.cells 2 [[.i .i64 n, .sl 3 (rels s.rels)]], .cells 2 [[.sl 1 (tups next), .sl 1 (bools (graphD s).2)]], .cells 1 (ints (fillL n k)), .cells 1 [[.ref 2 0 n]]] = o ∧ t 32 = .i .i64 k ∧ m = n - k ∧ k ≤ n) n ⟨0, rfl, by simp only [go_sem] <;> rfl, by omega, Nat.zero_le _⟩ ?_
    rintro m t o ⟨k, rfl, h32, rfl, hk⟩
    repeat (first | refine nav ?_ | refine bo ?_)
    (refine wr fun K R hK hR => ?_; simp (maxSteps := 10000000) only [go_sem, h32]; (try go_ints); (try simp only [go_sem, h32]); (repeat refine And.intro side ?_); (first | refine hK _ ?_ | refine hR _ _ ?_); clear hK hR K R)
    repeat (first | refine nav ?_ | refine bo ?_)
    refine W_cond (by simp only [go_sem] <;> exact rfl) (fun hb => ?_) (fun hb => ?_)
    · simp at hb
      obtain ⟨v, hv⟩ : ∃ v, (fillL n k)[k]? = some v := ⟨_, List.getElem?_eq_getElem (by rw [fillL_len]; omega)⟩
      repeat (first | refine nav ?_ | refine bo ?_)
      (refine wr fun K R hK hR => ?_; simp (maxSteps := 10000000) only [go_sem, h32]; (try go_ints); (try simp only [go_sem, h32]); (repeat refine And.intro side ?_); (first | refine hK _ ?_ | refine hR _ _ ?_); clear hK hR K R)
      repeat (first | refine nav ?_ | refine bo ?_)
      (refine wr fun K R hK hR => ?_; simp (maxSteps := 10000000) only [go_sem, ints_get hv, fillL_len, ints_set, fillL_set n k hb]; (try go_ints); (try simp only [go_sem, ints_get hv, fillL_len, ints_set, fillL_set n k hb]); (repeat refine And.intro side ?_); (first | refine hK _ ?_ | refine hR _ _ ?_); clear hK hR K R)
      repeat (first | refine nav ?_ | refine bo ?_)
      (refine wr fun K R hK hR => ?_; simp (maxSteps := 10000000) only [go_sem, h32]; (try go_ints); (try simp only [go_sem, h32]); (repeat refine And.intro side ?_); (first | refine hK _ ?_ | refine hR _ _ ?_); clear hK hR K R)
      refine forQ_normal (n - (k + 1)) (by omega) ⟨k + 1, rfl, ?_⟩
      ((try simp only [go_sem]); (repeat' refine And.intro ?_ ?_) <;> (try first | with_reducible rfl | omega | with_reducible assumption | (simp; done)))
    · simp at hb
      have : n = k := by omega
      subst this
      have en : ((n : Int) - 1).toNat = n - 1 := by omega
      obtain ⟨v, hv⟩ : ∃ v, (fillL n n)[n - 1]? = some v := ⟨_, List.getElem?_eq_getElem (by rw [fillL_len]; omega)⟩
      have hf0 : (fillL n n).set (n - 1) 0 = farN next n 0 := by rw [fillL_full]; rfl
      repeat (first | refine nav ?_ | refine bo ?_)
      (refine wr fun K R hK hR => ?_; simp (maxSteps := 10000000) only [go_sem, en, ints_get hv, fillL_len, ints_set, hf0]; (try go_ints); (try simp only [go_sem, en, ints_get hv, fillL_len, ints_set, hf0]); (repeat refine And.intro side ?_); (first | refine hK _ ?_ | refine hR _ _ ?_); clear hK hR K R)
      repeat (first | refine nav ?_ | refine bo ?_)
      (refine wr fun K R hK hR => ?_; simp (maxSteps := 10000000) only [go_sem, List.modify_zero_cons, List.set_cons_zero]; (try go_ints); (try simp only [go_sem, List.modify_zero_cons, List.set_cons_zero]); (repeat refine And.intro side ?_); (first | refine hK _ ?_ | refine hR _ _ ?_); clear hK hR K R)
      repeat (first | refine nav ?_ | refine bo ?_)
      refine W_weak (s' := ⟨mix 42 72 [9, 10, 11] (tab [(9, .ptr 4 0 0)]) (tab [(1, .ptr 0 0 0), (4, .ptr 1 0 0), (6, .i .i64 ((n : Int) - 1)), (7, .ptr 3 0 0)]), _⟩) (tab_mix (fun x hx => ?_) (fun x hx => ?_)) rfl ?_
      · simp only [List.mem_cons, List.not_mem_nil, or_false] at hx
        subst hx; rfl
      · simp only [List.mem_cons, List.not_mem_nil, or_false] at hx
        rcases hx with rfl | rfl | rfl | rfl <;> rfl
      have hfl : ∀ d, (ints (farN next n d)).length = n := fun d => by rw [ints_len, farN_len]
      refine W_forM 42 72 [9, 10, 11] (fun m t o => ∃ (d p : Nat), okO o = true ∧ o[0]? = some (.cells 2 [[.i .i64 n, .sl 3 (rels s.rels)]]) ∧ o[1]? = some (.cells 2 [[.sl 1 (tups next), .sl 1 (bools (graphD s).2)]]) ∧ o[2]? = some (.cells 1 (ints (farN next n d))) ∧ o[3]? = some (.cells 1 [[.ref 2 0 n]]) ∧
        o[p]? = some (.cells 1 [[.i .i64 ((d : Int) + 1)]]) ∧ 4 ≤ p ∧ t 9 = .ptr p 0 0 ∧ m = n - (d + 1) ∧ d + 1 ≤ n) (n - 1) ⟨0, 4, by simp [okO, Ob.ltk, AV.ltk, ints], rfl, rfl, rfl, rfl, rfl, by omega, rfl, rfl, by omega⟩ ?_
      rintro m t2 o ⟨d, p, hok, o0, o1, o2, o3, op, hp4, h9, rfl, hd⟩
      repeat (first | refine nav ?_ | refine bo ?_)
      (refine wr fun K R hK hR => ?_; simp (maxSteps := 10000000) only [go_sem, h9, op, o0]; (try go_ints); (try simp only [go_sem, h9, op, o0]); (repeat refine And.intro side ?_); (first | refine hK _ ?_ | refine hR _ _ ?_); clear hK hR K R)
      repeat (first | refine nav ?_ | refine bo ?_)
      refine W_cond (by simp only [go_sem] <;> exact rfl) (fun hb => ?_) (fun hb => ?_)
      · simp at hb
        repeat (first | refine nav ?_ | refine bo ?_)
        (refine wr fun K R hK hR => ?_; simp (maxSteps := 10000000) only [go_sem, o1, hg1]; (try go_ints); (try simp only [go_sem, o1, hg1]); (repeat refine And.intro side ?_); (first | refine hK _ ?_ | refine hR _ _ ?_); clear hK hR K R)
        repeat (first | refine nav ?_ | refine bo ?_)
        refine W_for 51 71 [10, 11] (fun m t o' => ∃ x : Nat, okO o' = true ∧ o'[0]? = some (.cells 2 [[.i .i64 n, .sl 3 (rels s.rels)]]) ∧ o'[1]? = some (.cells 2 [[.sl 1 (tups next), .sl 1 (bools (graphD s).2)]]) ∧ o'[2]? = some (.cells 1 (ints (farP next ((d : Int) + 1) (farN next n d) x))) ∧ o'[3]? = some (.cells 1 [[.ref 2 0 n]]) ∧
          o'[p]? = some (.cells 1 [[.i .i64 ((d : Int) + 1)]]) ∧ t 51 = .i .i64 x ∧ m = n - x ∧ x ≤ n) n ⟨0, hok, o0, o1, o2, o3, op, by simp only [go_sem] <;> rfl, by omega, Nat.zero_le _⟩ ?_
        rintro m t3 o' ⟨x, hok', p0, p1, p2, p3, pp, h51, rfl, hx⟩
        repeat (first | refine nav ?_ | refine bo ?_)
        (refine wr fun K R hK hR => ?_; simp (maxSteps := 10000000) only [go_sem, h51]; (try go_ints); (try simp only [go_sem, h51]); (repeat refine And.intro side ?_); (first | refine hK _ ?_ | refine hR _ _ ?_); clear hK hR K R)
        repeat (first | refine nav ?_ | refine bo ?_)
        refine W_cond (by simp only [go_sem] <;> exact rfl) (fun hb => ?_) (fun hb => ?_)
        · simp at hb
          obtain ⟨l, hl⟩ : ∃ r, next[x]? = some r := ⟨_, List.getElem?_eq_getElem (by omega)⟩
          have hll := hge1 l (List.mem_of_getElem? hl)
          have hlm := hge2 l (List.mem_of_getElem? hl)
          have hl0 : next.getD x [] = l := by simp [hl]
          have hsucc := farP_succ next ((d : Int) + 1) (farN next n d) x
          have hFl : (farP next ((d : Int) + 1) (farN next n d) x).length = n := by rw [farP_len, farN_len]
          generalize farP next ((d : Int) + 1) (farN next n d) x = F at p2 hsucc hFl
          obtain ⟨v, hv⟩ : ∃ v, F[x]? = some v := ⟨_, List.getElem?_eq_getElem (by omega)⟩
          have hv0 : F.getD x 0 = v := by simp [hv]
          rw [farX, hl0, hv0] at hsucc
          have hpl := (List.getElem?_eq_some_iff.1 pp).1
          repeat (first | refine nav ?_ | refine bo ?_)
          (refine wr fun K R hK hR => ?_; simp (maxSteps := 10000000) only [go_sem, h51, tups_get hl]; (try go_ints); (try simp only [go_sem, h51, tups_get hl]); (repeat refine And.intro side ?_); (first | refine hK _ ?_ | refine hR _ _ ?_); clear hK hR K R)
          repeat (first | refine nav ?_ | refine bo ?_)
          (refine wr fun K R hK hR => ?_; simp (maxSteps := 10000000) only [go_sem, p3, p2, ints_get hv, hFl]; (try go_ints); (try simp only [go_sem, p3, p2, ints_get hv, hFl]); (repeat refine And.intro side ?_); (first | refine hK _ ?_ | refine hR _ _ ?_); clear hK hR K R)
          refine RL_callQg rfl (by simp only [go_sem] <;> exact rfl) (fun e => containsInt_spec (oc := o') (f := 37) (caps := [.ptr 3 0 0, .ptr p 0 0]) hok' (by simp [AV.ltk]; omega) rfl (fun y => F.getD y.toNat 0 == (d : Int) + 1 - 1) l hll (fun y hy => ?_))
            (fun e => by (try simp only [go_sem] at e); simp only [go_sem, e] <;> exact rfl) rfl rfl (by simp) (fun e => by (try simp only [go_sem] at e); simp only [go_sem, e, h9] <;> exact LeA.refl _) hok' (by simp [AV.ltk, AV.ltks]; omega) rfl ?_
          · obtain ⟨y0, y1⟩ := hlm y hy
            obtain ⟨y, rfl⟩ := Int.eq_ofNat_of_zero_le y0
            obtain ⟨u, hu⟩ : ∃ u, F[y]? = some u := ⟨_, List.getElem?_eq_getElem (by omega)⟩
            have e : (F.getD (y : Int).toNat 0 == (d : Int) + 1 - 1) = (u == (d : Int) + 1 - 1) := by simp [hu]
            rw [e]
            exact walk1_spec hok' (by rw [hFl]; exact p3) p2 pp (by omega) y hu (by omega)
          (refine rr fun K R hK hR => ?_; simp (maxSteps := 10000000) only [go_sem]; (try go_ints); (repeat refine And.intro side ?_); (first | refine hK _ ?_ | refine hR _ _ ?_); clear hK hR K R)
          repeat (first | refine nav ?_ | refine bo ?_)
          refine W_cond (by simp only [go_sem] <;> exact rfl) (fun hc => ?_) (fun hc => ?_)
          · rw [if_pos hc] at hsucc
            have hs2 : ∀ (X : Ob) (j : Nat), (o'.set 2 X)[j]? = if j = 2 then some X else o'[j]? := fun X j => set_get p2
            have hp2 : p ≠ 2 := by omega
            repeat (first | refine nav ?_ | refine bo ?_)
            (refine wr fun K R hK hR => ?_; simp (maxSteps := 10000000) only [go_sem, h9, p3, p2, pp, ints_get hv, hFl, ints_set, ← hsucc]; (try go_ints); (try simp only [go_sem, h9, p3, p2, pp, ints_get hv, hFl, ints_set, ← hsucc]); (repeat refine And.intro side ?_); (first | refine hK _ ?_ | refine hR _ _ ?_); clear hK hR K R)
            repeat (first | refine nav ?_ | refine bo ?_)
            (refine wr fun K R hK hR => ?_; simp (maxSteps := 10000000) only [go_sem, h51]; (try go_ints); (try simp only [go_sem, h51]); (repeat refine And.intro side ?_); (first | refine hK _ ?_ | refine hR _ _ ?_); clear hK hR K R)
            refine forQ_normal (n - (x + 1)) (by omega) ⟨x + 1, okO_set hok' (ints_ltk _ _), ?_⟩
            ((try simp only [go_sem, hs2, hp2]); (repeat' refine And.intro ?_ ?_) <;> (try first | with_reducible rfl | omega | with_reducible assumption | (simp; done)))
            all_goals (try simpa [hp2] using pp)
          · rw [if_neg (by rw [hc]; simp)] at hsucc
            repeat (first | refine nav ?_ | refine bo ?_)
            (refine wr fun K R hK hR => ?_; simp (maxSteps := 10000000) only [go_sem, h51]; (try go_ints); (try simp only [go_sem, h51]); (repeat refine And.intro side ?_); (first | refine hK _ ?_ | refine hR _ _ ?_); clear hK hR K R)
            refine forQ_normal (n - (x + 1)) (by omega) ⟨x + 1, hok', ?_⟩
            ((try simp only [go_sem, hsucc]); (repeat' refine And.intro ?_ ?_) <;> (try first | with_reducible rfl | omega | with_reducible assumption | (simp; done)))
        · simp at hb
          have : n = x := by omega
          subst this
          have pp' := fun l => app_get l pp
          have hN : farP next ((d : Int) + 1) (farN next n d) n = farN next n (d + 1) := rfl
          rw [hN] at p2
          rw [mix_mix rfl]
          repeat (first | refine nav ?_ | refine bo ?_)
          (refine wr fun K R hK hR => ?_; simp (maxSteps := 10000000) only [go_sem, h9, pp]; (try go_ints); (try simp only [go_sem, h9, pp]); (repeat refine And.intro side ?_); (first | refine hK _ ?_ | refine hR _ _ ?_); clear hK hR K R)
          repeat (first | refine nav ?_ | refine bo ?_)
          (refine wr fun K R hK hR => ?_; simp (maxSteps := 10000000) only [go_sem, List.modify_zero_cons, List.set_cons_zero]; (try go_ints); (try simp only [go_sem, List.modify_zero_cons, List.set_cons_zero]); (repeat refine And.intro side ?_); (first | refine hK _ ?_ | refine hR _ _ ?_); clear hK hR K R)
          repeat (first | refine nav ?_ | refine bo ?_)
          (refine wr fun K R hK hR => ?_; simp (maxSteps := 10000000) only [go_sem, List.modify_zero_cons, List.set_cons_zero]; (try go_ints); (try simp only [go_sem, List.modify_zero_cons, List.set_cons_zero]); (repeat refine And.intro side ?_); (first | refine hK _ ?_ | refine hR _ _ ?_); clear hK hR K R)
          refine forQ_normal (n - (d + 1 + 1)) (by omega) ⟨d + 1, o'.length, okO_app hok' rfl, app_get _ p0, app_get _ p1, app_get _ p2, app_get _ p3, ?_, ?_, ?_, rfl, by omega⟩
          · simp
          · have := (List.getElem?_eq_some_iff.1 p3).1; omega
          · simp only [go_sem]
      · simp at hb
        have : d = n - 1 := by omega
        subst this
        have hok2 := farN_ok (next := next) (by omega) hge2 (n - 1)
        have hln := farN_len next n (n - 1)
        generalize farN next n (n - 1) = far at o2 hok2 hln ⊢
        obtain ⟨v0, hv0⟩ : ∃ v, far[0]? = some v := ⟨_, List.getElem?_eq_getElem (by omega)⟩
        have hv00 : far.getD 0 0 = v0 := by simp [hv0]
        have hvb0 := hok2.bd 0 v0 hv0
        rw [hv00]
        repeat (first | refine nav ?_ | refine bo ?_)
        (refine wr fun K R hK hR => ?_; simp (maxSteps := 10000000) only [go_sem, o3, o2, ints_get hv0, hln]; (try go_ints); (try simp only [go_sem, o3, o2, ints_get hv0, hln]); (repeat refine And.intro side ?_); (first | refine hK _ ?_ | refine hR _ _ ?_); clear hK hR K R)
        repeat (first | refine nav ?_ | refine bo ?_)
        refine W_cond (by simp only [go_sem] <;> exact rfl) (fun hb => ?_) (fun hb => ?_)
        · have hb : v0 < 0 := by simpa using hb
          rw [if_pos hb]
          repeat (first | refine nav ?_ | refine bo ?_)
          (refine wr fun K R hK hR => ?_; simp (maxSteps := 10000000) only [go_sem]; (try go_ints); (repeat refine And.intro side ?_); (first | refine hK _ ?_ | refine hR _ _ ?_); clear hK hR K R)
          repeat (first | refine nav ?_ | refine bo ?_)
          refine endQ_data (by simp only [go_sem] <;> exact rfl) (Le.of_eq ?_) rfl
          rfl
        · have hb : ¬ v0 < 0 := by simpa using hb
          rw [if_neg hb]
          repeat (first | refine nav ?_ | refine bo ?_)
          (refine wr fun K R hK hR => ?_; simp (maxSteps := 10000000) only [go_sem]; (try go_ints); (repeat refine And.intro side ?_); (first | refine hK _ ?_ | refine hR _ _ ?_); clear hK hR K R)
          repeat (first | refine nav ?_ | refine bo ?_)
          (refine wr fun K R hK hR => ?_; simp (maxSteps := 10000000) only [go_sem, List.modify_zero_cons, List.set_cons_zero]; (try go_ints); (try simp only [go_sem, List.modify_zero_cons, List.set_cons_zero]); (repeat refine And.intro side ?_); (first | refine hK _ ?_ | refine hR _ _ ?_); clear hK hR K R)
          repeat (first | refine nav ?_ | refine bo ?_)
          refine W_weak (s' := ⟨mix 77 99 [12, 13] (tab [(12, .own 1 (ints [0])), (13, .ptr o.length 0 0)]) (tab [(1, .ptr 0 0 0), (4, .ptr 1 0 0), (6, .i .i64 ((n : Int) - 1)), (7, .ptr 3 0 0)]), _⟩) (tab_mix (fun x hx => ?_) (fun x hx => ?_)) rfl ?_
          · simp only [List.mem_cons, List.not_mem_nil, or_false] at hx
            rcases hx with rfl | rfl <;> rfl
          · simp only [List.mem_cons, List.not_mem_nil, or_false] at hx
            rcases hx with rfl | rfl | rfl | rfl <;> rfl
          refine W_forM 77 99 [12, 13] (fun m t o => ∃ (x q : Nat) (acc : List Int) (v : Int), okO o = true ∧ o[1]? = some (.cells 2 [[.sl 1 (tups next), .sl 1 (bools (graphD s).2)]]) ∧ o[2]? = some (.cells 1 (ints far)) ∧ o[3]? = some (.cells 1 [[.ref 2 0 n]]) ∧
            o[q]? = some (.cells 1 [[.i .i64 x]]) ∧ 4 ≤ q ∧ t 12 = .own 1 (ints acc) ∧ t 13 = .ptr q 0 0 ∧ x < n ∧ far[x]? = some v ∧ 0 ≤ v ∧ v ≤ m ∧ acc.length + m = n + 1 ∧ acc ++ pathF next far (n - 1) m x = 0 :: pathF next far (n - 1) n 0) n
            ⟨0, o.length, [0], v0, okO_app hok rfl, app_get _ o1, app_get _ o2, app_get _ o3, by simp, ?_, rfl, rfl, by omega, hv0, by omega, by omega, by simp only [List.length_cons, List.length_nil]; omega, rfl⟩ ?_
          · have := (List.getElem?_eq_some_iff.1 o3).1; omega
          rintro f t3 o' ⟨x, q, acc, v, hok', p1, p2, p3, pq, hq4, h12, h13, hx, hv, hv1, hv2, hal, hacc⟩
          have hql := (List.getElem?_eq_some_iff.1 pq).1
          have hvx : far.getD x 0 = v := by simp [hv]
          have hvb := hok2.bd x v hv
          repeat (first | refine nav ?_ | refine bo ?_)
          (refine wr fun K R hK hR => ?_; simp (maxSteps := 10000000) only [go_sem, h13, pq]; (try go_ints); (try simp only [go_sem, h13, pq]); (repeat refine And.intro side ?_); (first | refine hK _ ?_ | refine hR _ _ ?_); clear hK hR K R)
          repeat (first | refine nav ?_ | refine bo ?_)
          refine W_cond (by simp only [go_sem] <;> exact rfl) (fun hb => ?_) (fun hb => ?_)
          · have hxn : ¬ x = n - 1 := by
              intro h
              subst h
              simp at hb
              omega
            have hvpos : 0 < v := by
              rcases Int.lt_or_le 0 v with h | h
              · exact h
              · have : v = 0 := by omega
                subst this
                exact absurd (hok2.zero x hv) hxn
            obtain ⟨f, rfl⟩ : ∃ f', f = f' + 1 := ⟨f - 1, by omega⟩
            rw [pathF, if_neg hxn] at hacc
            obtain ⟨l, hl⟩ : ∃ r, next[x]? = some r := ⟨_, List.getElem?_eq_getElem (by omega)⟩
            have hll := hge1 l (List.mem_of_getElem? hl)
            have hlm := hge2 l (List.mem_of_getElem? hl)
            have hl0 : next.getD x [] = l := by simp [hl]
            obtain ⟨y, hy, hy1, hy2⟩ := hok2.pre x v hv hvpos
            rw [hl0] at hy
            have hany := idxI_any (fun y : Int => far.getD y.toNat 0 == v - 1) l 0 (by omega)
            have hsome : (l.any fun y => far.getD y.toNat 0 == v - 1) = true := by
              rw [List.any_eq_true]; exact ⟨y, hy, by simp only [hy1]; simp⟩
            rw [hsome, decide_eq_true_eq] at hany
            obtain ⟨j, hj⟩ := Int.eq_ofNat_of_zero_le hany
            have hstep : stepF next far x = l.getD j 0 := by rw [stepF, hl0, hvx, hj, Int.toNat_natCast]
            obtain ⟨_, z, hz, hzp⟩ := idxI_get (fun y : Int => far.getD y.toNat 0 == v - 1) l 0 j hj
            rw [Nat.sub_zero] at hz
            have hzl := (List.getElem?_eq_some_iff.1 hz).1
            obtain ⟨z0, z1⟩ := hlm z (List.mem_of_getElem? hz)
            obtain ⟨z, rfl⟩ := Int.eq_ofNat_of_zero_le z0
            obtain ⟨zv, hzv⟩ : ∃ u, far[z]? = some u := ⟨_, List.getElem?_eq_getElem (by omega)⟩
            have hzv1 : zv = v - 1 := by simpa [hzv] using hzp
            rw [hstep, show l.getD j 0 = (z : Int) by simp [hz], Int.toNat_natCast] at hacc
            have hspec := indexInt_spec (oc := o') (f := 39) (caps := [.ptr 3 0 0, .ptr q 0 0]) hok' (by simp [AV.ltk]; omega) rfl (fun y => far.getD y.toNat 0 == v - 1) l hll (fun y hy => by
              obtain ⟨y0, y1⟩ := hlm y hy
              obtain ⟨y, rfl⟩ := Int.eq_ofNat_of_zero_le y0
              obtain ⟨u, hu⟩ : ∃ u, far[y]? = some u := ⟨_, List.getElem?_eq_getElem (by omega)⟩
              have e : (far.getD (y : Int).toNat 0 == v - 1) = (u == v - 1) := by simp [hu]
              rw [e]
              exact walk2_spec hok' (by rw [hln]; exact p3) p2 pq y hu hv (by omega) (by omega))
            rw [hj] at hspec
            have hq2 : q ≠ 2 ∧ q ≠ 3 ∧ q ≠ 1 := by omega
            have hsq : ∀ (X : Ob) (j : Nat), (o'.set q X)[j]? = if j = q then some X else o'[j]? := fun X j => set_get pq
            repeat (first | refine nav ?_ | refine bo ?_)
            (refine W_dreg (by decide +kernel) [] [0, 1, 2, 3, 4, 5, 6, 7, 8, 9, 10, 11, 12, 13, 14] [[], [0], [], [2, 0, 1], [1, 0, 2, 3], [], [5], [], [7, 5, 6], [6, 5, 7, 8], [], [10, 8, 7, 5, 6, 9], [9, 6, 5, 7, 8, 10, 11, 3, 2, 0, 1, 4], [4, 1, 0, 2, 3, 11, 10, 8, 7, 5, 6, 9, 12], [12, 9, 6, 5, 7, 8, 10, 11, 3, 2, 0, 1, 4, 13]] (by decide +kernel) rfl fun K R hK hR => ?_; simp only [List.filterMap_cons, List.filterMap_nil, List.getElem?_cons_zero, List.getElem?_cons_succ, List.cons_append, List.nil_append]; simp (maxSteps := 10000000) only [go_sem, h13, pq, p1, tups_get hl]; (try go_ints); (try simp only [go_sem, h13, pq, p1, tups_get hl]); (repeat refine And.intro side ?_); (first | refine hK _ ?_ | refine hR _ _ ?_); clear hK hR K R)
            refine D_callQ hspec (by simp only [go_sem] <;> exact rfl) rfl rfl (by simp) (by simp only [go_sem, h13] <;> exact LeA.refl _) hok' (by simp [AV.ltk, AV.ltks]; omega) rfl rfl rfl ?_
            (refine D_reg fun K R hK hR => ?_; simp (maxSteps := 10000000) only [go_sem, h13, pq, ints_get hz]; (try go_ints); (try simp only [go_sem, h13, pq, ints_get hz]); (repeat refine And.intro side ?_); (first | refine hK _ ?_ | refine hR _ _ ?_); clear hK hR K R)
            repeat (first | refine nav ?_ | refine bo ?_)
            have hia : ∀ z : Int, ints acc ++ [[.i .i64 z]] = ints (acc ++ [z]) := fun z => by simp [ints]
            simp only [List.modify_zero_cons, List.set_cons_zero]
            have hnq : (o'.set q (.cells 1 [[.i .i64 z]]))[q]? = some (.cells 1 [[.i .i64 z]]) := by rw [hsq, if_pos rfl]
            have hok3 : okO (o'.set q (.cells 1 [[.i .i64 z]])) = true := okO_set hok' rfl
            have hn1 : ∀ j, j ≠ q → (o'.set q (.cells 1 [[.i .i64 z]]))[j]? = o'[j]? := fun j hj => by rw [hsq, if_neg hj]
            have r1 := (hn1 1 (by omega)).trans p1
            have r2 := (hn1 2 (by omega)).trans p2
            have r3 := (hn1 3 (by omega)).trans p3
            generalize o'.set q (.cells 1 [[.i .i64 z]]) = o4 at hnq hok3 r1 r2 r3 ⊢
            (refine W_reg [94] fun K R hK hR => ?_; simp (maxSteps := 10000000) only [go_sem, h12, h13, hnq, hia, ints_len]; (try go_ints); (try simp only [go_sem, h12, h13, hnq, hia, ints_len]); (repeat refine And.intro side ?_); (first | refine hK _ ?_ | refine hR _ _ ?_); clear hK hR K R)
            repeat (first | refine nav ?_ | refine bo ?_)
            (refine wr fun K R hK hR => ?_; simp (maxSteps := 10000000) only [go_sem, h13, hnq]; (try go_ints); (try simp only [go_sem, h13, hnq]); (repeat refine And.intro side ?_); (first | refine hK _ ?_ | refine hR _ _ ?_); clear hK hR K R)
            repeat (first | refine nav ?_ | refine bo ?_)
            (refine wr fun K R hK hR => ?_; simp (maxSteps := 10000000) only [go_sem, List.modify_zero_cons, List.set_cons_zero]; (try go_ints); (try simp only [go_sem, List.modify_zero_cons, List.set_cons_zero]); (repeat refine And.intro side ?_); (first | refine hK _ ?_ | refine hR _ _ ?_); clear hK hR K R)
            refine forQ_normal f (by omega) ⟨z, o4.length, acc ++ [(z : Int)], zv, okO_app hok3 rfl, app_get _ r1, app_get _ r2, app_get _ r3, by simp, ?_, ?_, ?_, by omega, hzv, by omega, by omega, by rw [List.length_append]; simp only [List.length_cons, List.length_nil]; omega, by rw [List.append_assoc]; exact hacc⟩
            · have := (List.getElem?_eq_some_iff.1 r3).1; omega
            · simp only [go_sem]
            · simp only [go_sem]
          · have hxn : x = n - 1 := by simp at hb; omega
            have hp : pathF next far (n - 1) f x = [] := by
              cases f with
              | zero => rfl
              | succ f => rw [pathF, if_pos hxn]
            rw [hp, List.append_nil] at hacc
            subst hacc
            repeat (first | refine nav ?_ | refine bo ?_)
            (refine wr fun K R hK hR => ?_; simp (maxSteps := 10000000) only [go_sem, h12]; (try go_ints); (try simp only [go_sem, h12]); (repeat refine And.intro side ?_); (first | refine hK _ ?_ | refine hR _ _ ?_); clear hK hR K R)
            repeat (first | refine nav ?_ | refine bo ?_)
            refine endQ_data (by simp only [go_sem] <;> exact rfl) (Le.of_eq ?_) rfl
            rfl
end Go.AW
/-
Contracts: the reference's first walk.
-/
namespace Go.AW
open Go Go.Proofs TyTry Go.IntWalk
set_option linter.unusedSimpArgs false
set_option linter.unusedVariables false
set_option maxRecDepth 10000

def goesR (e : List (List Bool)) (n i a y : Nat) : Bool := (e.getD a []).getD y false && decide ((wk e n i).getD y 0 > 0)
def nextR (e : List (List Bool)) (n i a : Nat) : Nat := ((List.range n).find? (goesR e n i a)).getD a
def pathR (e : List (List Bool)) (n : Nat) : Nat → Nat → List Int
  | 0, _ => []
  | i + 1, a => (nextR e n i a : Int) :: pathR e n i (nextR e n i a)
def walkRA (e : List (List Bool)) (n : Nat) : AV := match (List.range (n + 1)).find? (fun k => !((wk e n k).getD 0 0 == 0)) with
  | some k => .tup [.sl 1 (ints (0 :: pathR e n k 0)), .b true]
  | none => .tup [.sl 1 [], .b false]
theorem find_range {p : Nat → Bool} {n k : Nat} (hk : k < n) (h : ∀ i < k, p i = false) (hp : p k = true) : (List.range n).find? p = some k := by
  rw [List.find?_eq_some_iff_getElem]
  refine ⟨hp, k, by simpa using hk, by simp, fun j hj => ?_⟩
  simp [h j hj]
theorem find_range_none {p : Nat → Bool} {n : Nat} (h : ∀ i < n, p i = false) : (List.range n).find? p = none := by
  rw [List.find?_eq_none]
  intro x hx
  simp [h x (List.mem_range.1 hx)]
theorem nextR_lt (e : List (List Bool)) (n i a : Nat) (ha : a < n) : nextR e n i a < n := by
  unfold nextR
  cases h : (List.range n).find? (goesR e n i a) with
  | none => simpa using ha
  | some y => simpa using List.mem_of_find?_eq_some h
theorem rwalk_spec (s : StrD) (hs : s.Ok) (hf : fitsR symsE s = true) (n : Nat) (hn : s.size = n) (h1 : 1 ≤ n) (h2 : n ≤ 64) :
    ACallsD Try.prog 13 [.agg [.i .i64 s.size, .sl 3 (rels s.rels)]] (walkRA (eMat s n) n) := by
  generalize he : eMat s n = e
  have hE := edgesM_spec s hs hf n hn h1 h2
  rw [he] at hE
  have hel : e.length = n := by rw [← he, eMat_len]
  have her : ∀ r ∈ e, r.length = n := by rw [← he]; exact eMat_row s n
  refine ACalls_of' (n := 66) (rs := [.tmp 2, .tmp 3]) (show Try.prog.funcs[13]? = some Try.f13 by kernel_rfl) rfl rfl rfl (by simp) (by decide +kernel) ?_
  repeat (first | refine nav ?_ | refine bo ?_)
  (refine wr fun K R hK hR => ?_; simp (maxSteps := 10000000) only [go_sem]; (try go_ints); (repeat refine And.intro side ?_); (first | refine hK _ ?_ | refine hR _ _ ?_); clear hK hR K R)
  repeat (first | refine nav ?_ | refine bo ?_)
  (refine wr fun K R hK hR => ?_; simp (maxSteps := 10000000) only [go_sem]; (try go_ints); (repeat refine And.intro side ?_); (first | refine hK _ ?_ | refine hR _ _ ?_); clear hK hR K R)
  refine RL_callF (hE) rfl rfl rfl (by first | (simp only [go_sem] <;> first | exact LeA.refl _ | exact Le.refl _) | exact LeA.refl _) rfl rfl ?_
  (refine rr fun K R hK hR => ?_; simp (maxSteps := 10000000) only [go_sem]; (try go_ints); (repeat refine And.intro side ?_); (first | refine hK _ ?_ | refine hR _ _ ?_); clear hK hR K R)
  repeat (first | refine nav ?_ | refine bo ?_)
  (refine wr fun K R hK hR => ?_; simp (maxSteps := 10000000) only [go_sem, hn]; (try go_ints); (try simp only [go_sem, hn]); (repeat refine And.intro side ?_); (first | refine hK _ ?_ | refine hR _ _ ?_); clear hK hR K R)
  refine RL_callF (walksM_spec e n hel her h1 h2 n (by omega)) rfl rfl rfl (by first | (simp only [go_sem] <;> first | exact LeA.refl _ | exact Le.refl _) | exact LeA.refl _) rfl rfl ?_
  (refine rr fun K R hK hR => ?_; simp (maxSteps := 10000000) only [go_sem]; (try go_ints); (repeat refine And.intro side ?_); (first | refine hK _ ?_ | refine hR _ _ ?_); clear hK hR K R)
  repeat (first | refine nav ?_ | refine bo ?_)
  (refine wr fun K R hK hR => ?_; simp (maxSteps := 10000000) only [go_sem]; (try go_ints); (repeat refine And.intro side ?_); (first | refine hK _ ?_ | refine hR _ _ ?_); clear hK hR K R)
  repeat (first | refine nav ?_ | refine bo ?_)
  refine W_for 17 66 [2, 3, 6, 7, 8, 9, 10] (fun m t o => ∃ k : Nat, [Ob.cells 2 [[.i .i64 n, .sl 3 (rels s.rels)]]] = o ∧ t 6 = .i .i64 k ∧ m = n + 1 - k ∧ k ≤ n + 1 ∧ ∀ i < k, (wk e n i).getD 0 0 = 0) (n + 1) ⟨0, rfl, by simp only [go_sem] <;> rfl, by omega, Nat.zero_le _, by simp⟩ ?_
  rintro m t o ⟨k, rfl, h6, rfl, hk, hz⟩
  repeat (first | refine nav ?_ | refine bo ?_)
  (refine wr fun K R hK hR => ?_; simp (maxSteps := 10000000) only [go_sem, h6]; (try go_ints); (try simp only [go_sem, h6]); (repeat refine And.intro side ?_); (first | refine hK _ ?_ | refine hR _ _ ?_); clear hK hR K R)
  repeat (first | refine nav ?_ | refine bo ?_)
  refine W_cond (by simp only [go_sem] <;> exact rfl) (fun hb => ?_) (fun hb => ?_)
  · simp at hb
    have hb : k < n + 1 := by omega
    have hgw := wks_get e n (n + 1) k hb
    obtain ⟨v, hv⟩ : ∃ v, (wk e n k)[0]? = some v := ⟨_, List.getElem?_eq_getElem (by rw [wk_len]; omega)⟩
    have hv0 : (wk e n k).getD 0 0 = v := by simp [hv]
    repeat (first | refine nav ?_ | refine bo ?_)
    (refine wr fun K R hK hR => ?_; simp (maxSteps := 10000000) only [go_sem, h6, tups_get hgw, wks_len, ints_get hv, wk_len]; (try go_ints); (try simp only [go_sem, h6, tups_get hgw, wks_len, ints_get hv, wk_len]); (repeat refine And.intro side ?_); (first | refine hK _ ?_ | refine hR _ _ ?_); clear hK hR K R)
    repeat (first | refine nav ?_ | refine bo ?_)
    refine W_cond (by simp only [go_sem] <;> exact rfl) (fun hc => ?_) (fun hc => ?_)
    · have hc : v = 0 := by simpa using hc
      repeat (first | refine nav ?_ | refine bo ?_)
      (refine wr fun K R hK hR => ?_; simp (maxSteps := 10000000) only [go_sem, h6]; (try go_ints); (try simp only [go_sem, h6]); (repeat refine And.intro side ?_); (first | refine hK _ ?_ | refine hR _ _ ?_); clear hK hR K R)
      refine forQ_normal (n + 1 - (k + 1)) (by omega) ⟨k + 1, rfl, ?_⟩
      ((try simp only [go_sem]); (repeat' refine And.intro ?_ ?_) <;> (try first | with_reducible rfl | omega | with_reducible assumption | (simp; done)))
      intro i hik
      rcases Nat.lt_succ_iff_lt_or_eq.1 hik with h | rfl
      · exact hz i h
      · rw [hv0, hc]
    · have hc : v ≠ 0 := by simpa using hc
      have hres : walkRA e n = .tup [.sl 1 (ints (0 :: pathR e n k 0)), .b true] := by
        rw [walkRA, find_range (k := k) hb (fun i hi => by simp only [hz i hi]; rfl) (by simp only [hv0]; simpa using hc)]
      rw [hres]
      repeat (first | refine nav ?_ | refine bo ?_)
      (refine wr fun K R hK hR => ?_; simp (maxSteps := 10000000) only [go_sem]; (try go_ints); (repeat refine And.intro side ?_); (first | refine hK _ ?_ | refine hR _ _ ?_); clear hK hR K R)
      repeat (first | refine nav ?_ | refine bo ?_)
      (refine wr fun K R hK hR => ?_; simp (maxSteps := 10000000) only [go_sem]; (try go_ints); (repeat refine And.intro side ?_); (first | refine hK _ ?_ | refine hR _ _ ?_); clear hK hR K R)
      repeat (first | refine nav ?_ | refine bo ?_)
      (refine wr fun K R hK hR => ?_; simp (maxSteps := 10000000) only [go_sem, h6]; (try go_ints); (try simp only [go_sem, h6]); (repeat refine And.intro side ?_); (first | refine hK _ ?_ | refine hR _ _ ?_); clear hK hR K R)
      repeat (first | refine nav ?_ | refine bo ?_)
      refine W_for 33 65 [7, 8, 9, 10] (fun m t o => ∃ (r a : Nat) (acc : List Int), [Ob.cells 2 [[.i .i64 n, .sl 3 (rels s.rels)]]] = o ∧ t 7 = .own 1 (ints acc) ∧ t 8 = .i .i64 a ∧ t 9 = .i .i64 ((r : Int) - 1) ∧ m = r ∧ r ≤ k ∧ a < n ∧ acc.length + r = k + 1 ∧ acc ++ pathR e n r a = 0 :: pathR e n k 0) k
        ⟨k, 0, [0], rfl, rfl, rfl, by simp only [go_sem], rfl, Nat.le_refl _, by omega, by simp only [List.length_cons, List.length_nil]; omega, rfl⟩ ?_
      rintro m t2 o ⟨r, a, acc, rfl, h7, h8, h9, rfl, hr, ha, hal, hacc⟩
      repeat (first | refine nav ?_ | refine bo ?_)
      (refine wr fun K R hK hR => ?_; simp (maxSteps := 10000000) only [go_sem, h9]; (try go_ints); (try simp only [go_sem, h9]); (repeat refine And.intro side ?_); (first | refine hK _ ?_ | refine hR _ _ ?_); clear hK hR K R)
      repeat (first | refine nav ?_ | refine bo ?_)
      refine W_cond (by simp only [go_sem] <;> exact rfl) (fun hb => ?_) (fun hb => ?_)
      · simp at hb
        obtain ⟨i, rfl⟩ : ∃ i, m = i + 1 := ⟨m - 1, by omega⟩
        have h9' : t2 9 = .i .i64 i := by rw [h9]; congr 1; omega
        rw [pathR] at hacc
        obtain ⟨ra, hra⟩ : ∃ x, e[a]? = some x := ⟨_, List.getElem?_eq_getElem (by omega)⟩
        have hral := her ra (List.mem_of_getElem? hra)
        have hgi := wks_get e n (n + 1) i (by omega)
        refine W_skip ?_
        refine seqQ_normal ?_
        refine W_seq ?_
        refine W_block ?_
        refine W_join 37 61 [8, 10] (fun t o => t 8 = .i .i64 (nextR e n i a) ∧ o = [Ob.cells 2 [[.i .i64 n, .sl 3 (rels s.rels)]]]) ?_ ?_
        · repeat (first | refine nav ?_ | refine bo ?_)
          (refine wr fun K R hK hR => ?_; simp (maxSteps := 10000000) only [go_sem]; (try go_ints); (repeat refine And.intro side ?_); (first | refine hK _ ?_ | refine hR _ _ ?_); clear hK hR K R)
          repeat (first | refine nav ?_ | refine bo ?_)
          refine W_forM 37 61 [8, 10] (fun m t o => ∃ y : Nat, o = [Ob.cells 2 [[.i .i64 n, .sl 3 (rels s.rels)]]] ∧ t 8 = .i .i64 a ∧ t 10 = .i .i64 y ∧ m = n - y ∧ y ≤ n ∧ ∀ j < y, goesR e n i a j = false) n ⟨0, rfl, ?_, by simp only [go_sem] <;> rfl, by omega, Nat.zero_le _, by simp⟩ ?_
          · simp only [go_sem, h8]
          rintro m t3 o ⟨y, rfl, h8', h10, rfl, hy, hj⟩
          repeat (first | refine nav ?_ | refine bo ?_)
          (refine wr fun K R hK hR => ?_; simp (maxSteps := 10000000) only [go_sem, h10]; (try go_ints); (try simp only [go_sem, h10]); (repeat refine And.intro side ?_); (first | refine hK _ ?_ | refine hR _ _ ?_); clear hK hR K R)
          repeat (first | refine nav ?_ | refine bo ?_)
          refine W_cond (by simp only [go_sem] <;> exact rfl) (fun hb => ?_) (fun hb => ?_)
          · simp at hb
            obtain ⟨bv, hbv⟩ : ∃ r, ra[y]? = some r := ⟨_, List.getElem?_eq_getElem (by omega)⟩
            obtain ⟨nv, hnv⟩ : ∃ r, (wk e n i)[y]? = some r := ⟨_, List.getElem?_eq_getElem (by rw [wk_len]; omega)⟩
            have hg : goesR e n i a y = (bv && decide (nv > 0)) := by
              rw [goesR, show e.getD a [] = ra by simp [hra], show ra.getD y false = bv by simp [hbv], show (wk e n i).getD y 0 = nv by simp [hnv]]
            repeat (first | refine nav ?_ | refine bo ?_)
            (refine wr fun K R hK hR => ?_; simp (maxSteps := 10000000) only [go_sem, h8', h9', h10, mat_get hra, bools_get hbv, tups_get hgi, wks_len, ints_get hnv, wk_len]; (try go_ints); (try simp only [go_sem, h8', h9', h10, mat_get hra, bools_get hbv, tups_get hgi, wks_len, ints_get hnv, wk_len]); (repeat refine And.intro side ?_); (first | refine hK _ ?_ | refine hR _ _ ?_); clear hK hR K R)
            repeat (first | refine nav ?_ | refine bo ?_)
            refine W_cond (by simp only [go_sem] <;> exact rfl) (fun hd => ?_) (fun hd => ?_)
            · have hnx : nextR e n i a = y := by
                rw [nextR, find_range hb hj (by rw [hg]; exact hd)]; rfl
              repeat (first | refine nav ?_ | refine bo ?_)
              (refine wr fun K R hK hR => ?_; simp (maxSteps := 10000000) only [go_sem, h10]; (try go_ints); (try simp only [go_sem, h10]); (repeat refine And.intro side ?_); (first | refine hK _ ?_ | refine hR _ _ ?_); clear hK hR K R)
              repeat (first | refine nav ?_ | refine bo ?_)
              refine ⟨_, rfl, ?_, rfl⟩
              simp only [go_sem]
              rw [hnx]
            · repeat (first | refine nav ?_ | refine bo ?_)
              (refine wr fun K R hK hR => ?_; simp (maxSteps := 10000000) only [go_sem, h10]; (try go_ints); (try simp only [go_sem, h10]); (repeat refine And.intro side ?_); (first | refine hK _ ?_ | refine hR _ _ ?_); clear hK hR K R)
              refine forQ_normal (n - (y + 1)) (by omega) ⟨y + 1, rfl, ?_⟩
              ((try simp only [go_sem]); (repeat' refine And.intro ?_ ?_) <;> (try first | with_reducible rfl | omega | with_reducible assumption | (simp; done)))
              intro j hjy
              rcases Nat.lt_succ_iff_lt_or_eq.1 hjy with h | rfl
              · exact hj j h
              · rw [hg]; exact hd
          · simp at hb
            have : y = n := by omega
            subst this
            have hnx : nextR e y i a = a := by
              rw [nextR, find_range_none hj]; rfl
            repeat (first | refine nav ?_ | refine bo ?_)
            refine ⟨_, rfl, ?_, rfl⟩
            simp only [go_sem, h8']
            rw [hnx]
        · rintro t3 o3 ⟨h8', rfl⟩
          rw [mix_mix rfl]
          repeat (first | refine nav ?_ | refine bo ?_)
          have hia : ∀ z : Int, ints acc ++ [[.i .i64 z]] = ints (acc ++ [z]) := fun z => by simp [ints]
          (refine W_reg [61] fun K R hK hR => ?_; simp (maxSteps := 10000000) only [go_sem, h7, h8', hia, ints_len]; (try go_ints); (try simp only [go_sem, h7, h8', hia, ints_len]); (repeat refine And.intro side ?_); (first | refine hK _ ?_ | refine hR _ _ ?_); clear hK hR K R)
          repeat (first | refine nav ?_ | refine bo ?_)
          (refine wr fun K R hK hR => ?_; simp (maxSteps := 10000000) only [go_sem, h9']; (try go_ints); (try simp only [go_sem, h9']); (repeat refine And.intro side ?_); (first | refine hK _ ?_ | refine hR _ _ ?_); clear hK hR K R)
          refine forQ_normal i (by omega) ⟨i, nextR e n i a, acc ++ [(nextR e n i a : Int)], rfl, ?_, ?_, ?_, rfl, by omega, nextR_lt e n i a ha, by rw [List.length_append]; simp only [List.length_cons, List.length_nil]; omega, by rw [List.append_assoc]; exact hacc⟩
          · simp only [go_sem]
          · simp only [go_sem, h8']
          · simp only [go_sem]
      · simp at hb
        have hm0 : m = 0 := by omega
        subst hm0
        rw [pathR, List.append_nil] at hacc
        subst hacc
        rw [mix_mix rfl]
        repeat (first | refine nav ?_ | refine bo ?_)
        (refine wr fun K R hK hR => ?_; simp (maxSteps := 10000000) only [go_sem, h7]; (try go_ints); (try simp only [go_sem, h7]); (repeat refine And.intro side ?_); (first | refine hK _ ?_ | refine hR _ _ ?_); clear hK hR K R)
        repeat (first | refine nav ?_ | refine bo ?_)
        refine endQ_data (by simp only [go_sem] <;> exact rfl) (Le.of_eq ?_) rfl
        rfl
  · simp at hb
    have hnone : walkRA e n = .tup [.sl 1 [], .b false] := by
      rw [walkRA, find_range_none (fun i hi => by simp only [hz i (by omega)]; rfl)]
    rw [hnone]
    repeat (first | refine nav ?_ | refine bo ?_)
    (refine wr fun K R hK hR => ?_; simp (maxSteps := 10000000) only [go_sem]; (try go_ints); (repeat refine And.intro side ?_); (first | refine hK _ ?_ | refine hR _ _ ?_); clear hK hR K R)
    repeat (first | refine nav ?_ | refine bo ?_)
    refine endQ_data (by simp only [go_sem] <;> exact rfl) (Le.of_eq ?_) rfl
    rfl
end Go.AW
/-
The law HardWalks, over its contracts and what is still to be shown of them.
-/
namespace Go.AW
open Go Go.Proofs TyTry Go.IntWalk
set_option linter.unusedSimpArgs false
set_option linter.unusedVariables false
set_option maxRecDepth 10000

theorem codeF_zero {s : StrD} (h : codeF s false = 0) : validF s = true ∧ fitsR symsE s = true := by
  rw [codeF] at h
  split at h
  · omega
  · rename_i hv
    split at h
    · omega
    · rename_i hf
      exact ⟨by simpa using hv, by simpa using hf⟩
/-- What the plain laws are to say. -/
def WalkLaw : Prop := ∀ s : StrD, validF s = true → fitsR symsE s = true → s.size ≤ 20 →
  (∃ l : List Int, l.length ≤ 1000 ∧ walkRA (eMat s s.size.toNat) s.size.toNat = .tup [.sl 1 (ints l), .b true] ∧ walkHA s = .tup [.sl 1 (ints l), .i .i64 0]) ∨
  (walkRA (eMat s s.size.toNat) s.size.toNat = .tup [.sl 1 [], .b false] ∧ walkHA s = .tup [.sl 1 [], .i .i64 6])
def CountLaw : Prop := ∀ (s : StrD) (most : Nat), validF s = true → fitsR symsE s = true → s.size ≤ 20 → most ≤ 200 →
  hwA s most = if totW (eMat s s.size.toNat) s.size.toNat (most + 1) ≤ 1099511627776 then .tup [.i .i64 (totW (eMat s s.size.toNat) s.size.toNat (most + 1)), .i .i64 0] else .tup [.i .i64 0, .i .i64 5]
theorem hardWalks_spec (law1 : WalkLaw) (law2 : CountLaw) (s : StrD) (hs : s.Wide) (most : Int) :
    ACallsD Try.prog 3 [.agg [.i .i64 s.size, .sl 3 (rels s.rels)], .i .i64 most] (.b true) := by
  refine ACalls_of' (n := 136) (rs := [.tmp 4]) (show Try.prog.funcs[3]? = some Try.f3 by kernel_rfl) rfl rfl rfl (by simp) (by decide +kernel) ?_
  repeat (first | refine nav ?_ | refine bo ?_)
  (refine wr fun K R hK hR => ?_; simp (maxSteps := 10000000) only [go_sem]; (try go_ints); (repeat refine And.intro side ?_); (first | refine hK _ ?_ | refine hR _ _ ?_); clear hK hR K R)
  repeat (first | refine nav ?_ | refine bo ?_)
  (refine wr fun K R hK hR => ?_; simp (maxSteps := 10000000) only [go_sem]; (try go_ints); (repeat refine And.intro side ?_); (first | refine hK _ ?_ | refine hR _ _ ?_); clear hK hR K R)
  refine RL_callF (broad_spec s hs) rfl rfl rfl (by first | (simp only [go_sem] <;> first | exact LeA.refl _ | exact Le.refl _) | exact LeA.refl _) rfl rfl ?_
  (refine rr fun K R hK hR => ?_; simp (maxSteps := 10000000) only [go_sem]; (try go_ints); (repeat refine And.intro side ?_); (first | refine hK _ ?_ | refine hR _ _ ?_); clear hK hR K R)
  repeat (first | refine nav ?_ | refine bo ?_)
  refine W_cond (by simp only [go_sem] <;> exact rfl) (fun hb => ?_) (fun hb => ?_)
  · repeat (first | refine nav ?_ | refine bo ?_)
    (refine wr fun K R hK hR => ?_; simp (maxSteps := 10000000) only [go_sem]; (try go_ints); (repeat refine And.intro side ?_); (first | refine hK _ ?_ | refine hR _ _ ?_); clear hK hR K R)
    refine RL_callF (awake_spec) rfl rfl rfl (by first | (simp only [go_sem] <;> first | exact LeA.refl _ | exact Le.refl _) | exact LeA.refl _) rfl rfl ?_
    (refine rr fun K R hK hR => ?_; simp (maxSteps := 10000000) only [go_sem]; (try go_ints); (repeat refine And.intro side ?_); (first | refine hK _ ?_ | refine hR _ _ ?_); clear hK hR K R)
    repeat (first | refine nav ?_ | refine bo ?_)
    refine endQ_data (by simp only [go_sem] <;> exact rfl) (Le.of_eq ?_) rfl
    rfl
  · simp only [Bool.or_eq_true, Bool.and_eq_true, Bool.not_eq_true', Bool.not_eq_false', Bool.and_eq_false_iff, Bool.or_eq_false_iff, decide_eq_true_eq, decide_eq_false_iff_not, Bool.not_eq_eq_eq_not, Bool.not_true, Bool.not_false] at hb
    obtain ⟨⟨hbr, hsz⟩, hmo⟩ := hb
    refine W_skip ?_
    refine seqQ_normal ?_
    refine W_weak (s' := ⟨tab [(1, .i .i64 most), (2, .ptr 0 0 0)], [Ob.cells 2 [[.i .i64 s.size, .sl 3 (rels s.rels)]]]⟩) (tab_le fun y hy => ?_) rfl ?_
    · simp only [List.mem_cons, List.not_mem_nil, or_false] at hy
      rcases hy with rfl | rfl <;> rfl
    obtain ⟨hok, htn⟩ := broad_ok hbr
    have hW := walkh_spec s hok (by omega)
    have hN := hwalks_spec s hok (by omega) most
    have hC := code_spec s hok false
    by_cases hcode : codeF s false = 0
    · obtain ⟨hv, hf⟩ := codeF_zero hcode
      obtain ⟨z1, z2, z3⟩ := valid_size hv
      rw [hcode] at hC
      obtain ⟨n, hn⟩ := Int.eq_ofNat_of_zero_le (show 0 ≤ s.size by omega)
      have hnn : s.size.toNat = n := by omega
      have hR := rwalk_spec s hok hf n hn (by omega) (by omega)
      have l1 := law1 s hv hf (by omega)
      rw [hnn] at l1
      obtain ⟨l, ok, ec, hl, e1, e2, e3⟩ : ∃ (l : List Int) (ok : Bool) (ec : Int), l.length ≤ 1000 ∧ walkRA (eMat s n) n = .tup [.sl 1 (ints l), .b ok] ∧ walkHA s = .tup [.sl 1 (ints l), .i .i64 ec] ∧ ((ok = true ∧ ec = 0) ∨ (ok = false ∧ ec = 6 ∧ l = [])) := by
        rcases l1 with ⟨l, hl, e1, e2⟩ | ⟨e1, e2⟩
        · exact ⟨l, true, 0, hl, e1, e2, .inl ⟨rfl, rfl⟩⟩
        · exact ⟨[], false, 6, by simp, e1, e2, .inr ⟨rfl, rfl, rfl⟩⟩
      obtain ⟨c, g, e4, e5, e6⟩ : ∃ c g : Int, hwA s most = .tup [.i .i64 c, .i .i64 g] ∧ (most < 0 ∨ most > 200000 → c = 0 ∧ g = 2) ∧
          (¬ (most < 0 ∨ most > 200000) → (totW (eMat s n) n (most.toNat + 1) ≤ 1099511627776 ∧ c = totW (eMat s n) n (most.toNat + 1) ∧ g = 0) ∨ (¬ totW (eMat s n) n (most.toNat + 1) ≤ 1099511627776 ∧ c = 0 ∧ g = 5)) := by
        by_cases hbad : most < 0 ∨ most > 200000
        · exact ⟨0, 2, by rw [hwA, if_neg (by simp [hcode]), if_pos hbad], fun _ => ⟨rfl, rfl⟩, fun h => absurd hbad h⟩
        · obtain ⟨mo, rfl⟩ := Int.eq_ofNat_of_zero_le (show 0 ≤ most by omega)
          have := law2 s mo hv hf (by omega) (by omega)
          rw [hnn] at this
          by_cases ht : totW (eMat s n) n (mo + 1) ≤ 1099511627776
          · rw [if_pos ht] at this
            exact ⟨_, _, this, fun h => absurd h hbad, fun _ => .inl ⟨ht, rfl, rfl⟩⟩
          · rw [if_neg ht] at this
            exact ⟨_, _, this, fun h => absurd h hbad, fun _ => .inr ⟨ht, rfl, rfl⟩⟩
      rw [e4] at hN
      rw [e1] at hR
      rw [e2] at hW
      repeat (first | refine nav ?_ | refine bo ?_)
      (refine wr fun K R hK hR => ?_; simp (maxSteps := 10000000) only [go_sem]; (try go_ints); (repeat refine And.intro side ?_); (first | refine hK _ ?_ | refine hR _ _ ?_); clear hK hR K R)
      refine RL_callF (hC) rfl rfl rfl (by first | (simp only [go_sem] <;> first | exact LeA.refl _ | exact Le.refl _) | exact LeA.refl _) rfl rfl ?_
      (refine rr fun K R hK hR => ?_; simp (maxSteps := 10000000) only [go_sem]; (try go_ints); (repeat refine And.intro side ?_); (first | refine hK _ ?_ | refine hR _ _ ?_); clear hK hR K R)
      repeat (first | refine nav ?_ | refine bo ?_)
      (refine wr fun K R hK hR => ?_; simp (maxSteps := 10000000) only [go_sem]; (try go_ints); (repeat refine And.intro side ?_); (first | refine hK _ ?_ | refine hR _ _ ?_); clear hK hR K R)
      refine RL_callF (hW) rfl rfl rfl (by first | (simp only [go_sem] <;> first | exact LeA.refl _ | exact Le.refl _) | exact LeA.refl _) rfl rfl ?_
      (refine rr fun K R hK hR => ?_; simp (maxSteps := 10000000) only [go_sem]; (try go_ints); (repeat refine And.intro side ?_); (first | refine hK _ ?_ | refine hR _ _ ?_); clear hK hR K R)
      repeat (first | refine nav ?_ | refine bo ?_)
      (refine wr fun K R hK hR => ?_; simp (maxSteps := 10000000) only [go_sem]; (try go_ints); (repeat refine And.intro side ?_); (first | refine hK _ ?_ | refine hR _ _ ?_); clear hK hR K R)
      refine RL_callF (hN) rfl rfl rfl (by first | (simp only [go_sem] <;> first | exact LeA.refl _ | exact Le.refl _) | exact LeA.refl _) rfl rfl ?_
      (refine rr fun K R hK hR => ?_; simp (maxSteps := 10000000) only [go_sem]; (try go_ints); (repeat refine And.intro side ?_); (first | refine hK _ ?_ | refine hR _ _ ?_); clear hK hR K R)
      repeat (first | refine nav ?_ | refine bo ?_)
      (refine wr fun K R hK hR => ?_; simp (maxSteps := 10000000) only [go_sem]; (try go_ints); (repeat refine And.intro side ?_); (first | refine hK _ ?_ | refine hR _ _ ?_); clear hK hR K R)
      repeat (first | refine nav ?_ | refine bo ?_)
      refine W_cond (b := false) (by simp only [go_sem]) (fun hb => by cases hb) (fun _ => ?_)
      repeat (first | refine nav ?_ | refine bo ?_)
      (refine wr fun K R hK hR => ?_; simp (maxSteps := 10000000) only [go_sem]; (try go_ints); (repeat refine And.intro side ?_); (first | refine hK _ ?_ | refine hR _ _ ?_); clear hK hR K R)
      refine RL_callF (hR) rfl rfl rfl (by first | (simp only [go_sem] <;> first | exact LeA.refl _ | exact Le.refl _) | exact LeA.refl _) rfl rfl ?_
      (refine rr fun K R hK hR => ?_; simp (maxSteps := 10000000) only [go_sem]; (try go_ints); (repeat refine And.intro side ?_); (first | refine hK _ ?_ | refine hR _ _ ?_); clear hK hR K R)
      refine seqQ_normal ?_
      refine W_join 70 94 [] (fun t o => o = [Ob.cells 2 [[.i .i64 s.size, .sl 3 (rels s.rels)]]]) ?_ ?_
      · rcases e3 with ⟨rfl, rfl⟩ | ⟨rfl, rfl, rfl⟩
        · repeat (first | refine nav ?_ | refine bo ?_)
          (refine wr fun K R hK hR => ?_; simp (maxSteps := 10000000) only [go_sem]; (try go_ints); (repeat refine And.intro side ?_); (first | refine hK _ ?_ | refine hR _ _ ?_); clear hK hR K R)
          refine RL_callDg rfl (by simp only [go_sem] <;> exact rfl) (fun e => equal_spec l l (by omega)) rfl rfl rfl (fun e => by (try simp only [go_sem] at e); simp only [go_sem, e] <;> (try simp only [go_sem]) <;> first | exact LeA.refl _ | exact Le.refl _) rfl rfl ?_
          (refine rr fun K R hK hR => ?_; simp (maxSteps := 10000000) only [go_sem]; (try go_ints); (repeat refine And.intro side ?_); (first | refine hK _ ?_ | refine hR _ _ ?_); clear hK hR K R)
          repeat (first | refine nav ?_ | refine bo ?_)
          refine W_cond (b := false) (by simp only [go_sem] <;> first | rfl | simp) (fun hb => by cases hb) (fun _ => ?_)
          repeat (first | refine nav ?_ | refine bo ?_)
          exact ⟨_, rfl, rfl⟩
        · repeat (first | refine nav ?_ | refine bo ?_)
          (refine wr fun K R hK hR => ?_; simp (maxSteps := 10000000) only [go_sem]; (try go_ints); (repeat refine And.intro side ?_); (first | refine hK _ ?_ | refine hR _ _ ?_); clear hK hR K R)
          refine RL_callDg rfl (by simp only [go_sem] <;> exact rfl) (fun e => equal_spec [] [] (by simp)) rfl rfl rfl (fun e => by (simp only [go_sem] at e)) rfl rfl ?_
          (refine rr fun K R hK hR => ?_; simp (maxSteps := 10000000) only [go_sem]; (try go_ints); (repeat refine And.intro side ?_); (first | refine hK _ ?_ | refine hR _ _ ?_); clear hK hR K R)
          repeat (first | refine nav ?_ | refine bo ?_)
          refine W_cond (b := false) (by simp only [go_sem] <;> first | rfl | simp) (fun hb => by cases hb) (fun _ => ?_)
          repeat (first | refine nav ?_ | refine bo ?_)
          exact ⟨_, rfl, rfl⟩
      rintro t o rfl
      refine W_weak (s' := ⟨tab [(1, .i .i64 most), (2, .ptr 0 0 0), (8, .i .i64 c), (9, .i .i64 g)], [Ob.cells 2 [[.i .i64 s.size, .sl 3 (rels s.rels)]]]⟩) (tab_le fun y hy => ?_) rfl ?_
      · simp only [List.mem_cons, List.not_mem_nil, or_false] at hy
        rcases hy with rfl | rfl | rfl | rfl <;> rfl
      repeat (first | refine nav ?_ | refine bo ?_)
      (refine wr fun K R hK hR => ?_; simp (maxSteps := 10000000) only [go_sem]; (try go_ints); (repeat refine And.intro side ?_); (first | refine hK _ ?_ | refine hR _ _ ?_); clear hK hR K R)
      repeat (first | refine nav ?_ | refine bo ?_)
      refine W_cond (by simp only [go_sem] <;> exact rfl) (fun hb => ?_) (fun hb => ?_)
      · simp only [Bool.or_eq_true, Bool.and_eq_true, Bool.not_eq_true', Bool.not_eq_false', Bool.and_eq_false_iff, Bool.or_eq_false_iff, decide_eq_true_eq, decide_eq_false_iff_not, Bool.not_eq_eq_eq_not, Bool.not_true, Bool.not_false] at hb
        obtain ⟨rfl, rfl⟩ := e5 hb
        repeat (first | refine nav ?_ | refine bo ?_)
        (refine wr fun K R hK hR => ?_; simp (maxSteps := 10000000) only [go_sem]; (try go_ints); (repeat refine And.intro side ?_); (first | refine hK _ ?_ | refine hR _ _ ?_); clear hK hR K R)
        refine RL_callDg rfl (by simp only [go_sem] <;> exact rfl) (fun e => awake_spec) rfl rfl rfl (fun e => by (try simp only [go_sem] at e); simp only [go_sem, e] <;> (try simp only [go_sem]) <;> first | exact LeA.refl _ | exact Le.refl _) rfl rfl ?_
        (refine rr fun K R hK hR => ?_; simp (maxSteps := 10000000) only [go_sem]; (try go_ints); (repeat refine And.intro side ?_); (first | refine hK _ ?_ | refine hR _ _ ?_); clear hK hR K R)
        repeat (first | refine nav ?_ | refine bo ?_)
        refine endQ_data (by simp only [go_sem] <;> exact rfl) (Le.of_eq ?_) rfl
        try rfl
      · simp only [Bool.or_eq_true, Bool.and_eq_true, Bool.not_eq_true', Bool.not_eq_false', Bool.and_eq_false_iff, Bool.or_eq_false_iff, decide_eq_true_eq, decide_eq_false_iff_not, Bool.not_eq_eq_eq_not, Bool.not_true, Bool.not_false] at hb
        have hnb : ¬ (most < 0 ∨ most > 200000) := by omega
        obtain ⟨mo, rfl⟩ := Int.eq_ofNat_of_zero_le (show 0 ≤ most by omega)
        have e6 := e6 hnb
        rw [Int.toNat_natCast] at e6
        have hT := rwalks_spec s hok hf n hn (by omega) (by omega) mo (by omega)
        generalize totW (eMat s n) n (mo + 1) = tot at e6 hT
        repeat (first | refine nav ?_ | refine bo ?_)
        (refine wr fun K R hK hR => ?_; simp (maxSteps := 10000000) only [go_sem]; (try go_ints); (repeat refine And.intro side ?_); (first | refine hK _ ?_ | refine hR _ _ ?_); clear hK hR K R)
        refine RL_callF (hT) rfl rfl rfl (by first | (simp only [go_sem] <;> first | exact LeA.refl _ | exact Le.refl _) | exact LeA.refl _) rfl rfl ?_
        (refine rr fun K R hK hR => ?_; simp (maxSteps := 10000000) only [go_sem]; (try go_ints); (repeat refine And.intro side ?_); (first | refine hK _ ?_ | refine hR _ _ ?_); clear hK hR K R)
        repeat (first | refine nav ?_ | refine bo ?_)
        (refine wr fun K R hK hR => ?_; simp (maxSteps := 10000000) only [go_sem]; (try go_ints); (repeat refine And.intro side ?_); (first | refine hK _ ?_ | refine hR _ _ ?_); clear hK hR K R)
        repeat (first | refine nav ?_ | refine bo ?_)
        refine W_cond (by simp only [go_sem] <;> exact rfl) (fun hb => ?_) (fun hb => ?_)
        · have hb : ¬ tot ≤ 1099511627776 := by simpa using hb
          rcases e6 with ⟨h, _, _⟩ | ⟨_, rfl, rfl⟩
          · exact absurd h hb
          · repeat (first | refine nav ?_ | refine bo ?_)
            (refine wr fun K R hK hR => ?_; simp (maxSteps := 10000000) only [go_sem]; (try go_ints); (repeat refine And.intro side ?_); (first | refine hK _ ?_ | refine hR _ _ ?_); clear hK hR K R)
            refine RL_callDg rfl (by simp only [go_sem] <;> exact rfl) (fun e => awake_spec) rfl rfl rfl (fun e => by (try simp only [go_sem] at e); simp only [go_sem, e] <;> (try simp only [go_sem]) <;> first | exact LeA.refl _ | exact Le.refl _) rfl rfl ?_
            (refine rr fun K R hK hR => ?_; simp (maxSteps := 10000000) only [go_sem]; (try go_ints); (repeat refine And.intro side ?_); (first | refine hK _ ?_ | refine hR _ _ ?_); clear hK hR K R)
            repeat (first | refine nav ?_ | refine bo ?_)
            refine endQ_data (by simp only [go_sem] <;> exact rfl) (Le.of_eq ?_) rfl
            try rfl
        · have hb : tot ≤ 1099511627776 := by simpa using hb
          rcases e6 with ⟨_, rfl, rfl⟩ | ⟨h, _, _⟩
          · repeat (first | refine nav ?_ | refine bo ?_)
            (refine wr fun K R hK hR => ?_; simp (maxSteps := 10000000) only [go_sem]; (try go_ints); (repeat refine And.intro side ?_); (first | refine hK _ ?_ | refine hR _ _ ?_); clear hK hR K R)
            refine RL_callDg rfl (by simp only [go_sem] <;> exact rfl) (fun e => awake_spec) rfl rfl rfl (fun e => by (try simp only [go_sem] at e); simp only [go_sem, e] <;> (try simp only [go_sem]) <;> first | exact LeA.refl _ | exact Le.refl _) rfl rfl ?_
            (refine rr fun K R hK hR => ?_; simp (maxSteps := 10000000) only [go_sem]; (try go_ints); (repeat refine And.intro side ?_); (first | refine hK _ ?_ | refine hR _ _ ?_); clear hK hR K R)
            repeat (first | refine nav ?_ | refine bo ?_)
            refine endQ_data (by simp only [go_sem] <;> exact rfl) (Le.of_eq ?_) rfl
            simp
          · exact absurd hb h
    · have hhw : hwA s most = .tup [.i .i64 0, .i .i64 (codeF s false)] := by rw [hwA, if_pos hcode]
      have hwh : walkHA s = .tup [.sl 1 [], .i .i64 (codeF s false)] := by rw [walkHA, if_pos hcode]
      rw [hhw] at hN
      rw [hwh] at hW
      repeat (first | refine nav ?_ | refine bo ?_)
      (refine wr fun K R hK hR => ?_; simp (maxSteps := 10000000) only [go_sem]; (try go_ints); (repeat refine And.intro side ?_); (first | refine hK _ ?_ | refine hR _ _ ?_); clear hK hR K R)
      refine RL_callF (hC) rfl rfl rfl (by first | (simp only [go_sem] <;> first | exact LeA.refl _ | exact Le.refl _) | exact LeA.refl _) rfl rfl ?_
      (refine rr fun K R hK hR => ?_; simp (maxSteps := 10000000) only [go_sem]; (try go_ints); (repeat refine And.intro side ?_); (first | refine hK _ ?_ | refine hR _ _ ?_); clear hK hR K R)
      repeat (first | refine nav ?_ | refine bo ?_)
      (refine wr fun K R hK hR => ?_; simp (maxSteps := 10000000) only [go_sem]; (try go_ints); (repeat refine And.intro side ?_); (first | refine hK _ ?_ | refine hR _ _ ?_); clear hK hR K R)
      refine RL_callF (hW) rfl rfl rfl (by first | (simp only [go_sem] <;> first | exact LeA.refl _ | exact Le.refl _) | exact LeA.refl _) rfl rfl ?_
      (refine rr fun K R hK hR => ?_; simp (maxSteps := 10000000) only [go_sem]; (try go_ints); (repeat refine And.intro side ?_); (first | refine hK _ ?_ | refine hR _ _ ?_); clear hK hR K R)
      repeat (first | refine nav ?_ | refine bo ?_)
      (refine wr fun K R hK hR => ?_; simp (maxSteps := 10000000) only [go_sem]; (try go_ints); (repeat refine And.intro side ?_); (first | refine hK _ ?_ | refine hR _ _ ?_); clear hK hR K R)
      refine RL_callF (hN) rfl rfl rfl (by first | (simp only [go_sem] <;> first | exact LeA.refl _ | exact Le.refl _) | exact LeA.refl _) rfl rfl ?_
      (refine rr fun K R hK hR => ?_; simp (maxSteps := 10000000) only [go_sem]; (try go_ints); (repeat refine And.intro side ?_); (first | refine hK _ ?_ | refine hR _ _ ?_); clear hK hR K R)
      repeat (first | refine nav ?_ | refine bo ?_)
      (refine wr fun K R hK hR => ?_; simp (maxSteps := 10000000) only [go_sem]; (try go_ints); (repeat refine And.intro side ?_); (first | refine hK _ ?_ | refine hR _ _ ?_); clear hK hR K R)
      repeat (first | refine nav ?_ | refine bo ?_)
      refine W_cond (b := true) (by simp only [go_sem]; simpa using hcode) (fun _ => ?_) (fun hb => by cases hb)
      repeat (first | refine nav ?_ | refine bo ?_)
      (refine wr fun K R hK hR => ?_; simp (maxSteps := 10000000) only [go_sem]; (try go_ints); (repeat refine And.intro side ?_); (first | refine hK _ ?_ | refine hR _ _ ?_); clear hK hR K R)
      refine RL_callDg rfl (by simp only [go_sem] <;> exact rfl) (fun e => awake_spec) rfl rfl rfl (fun e => by (try simp only [go_sem] at e); simp only [go_sem, e] <;> (try simp only [go_sem]) <;> first | exact LeA.refl _ | exact Le.refl _) rfl rfl ?_
      (refine rr fun K R hK hR => ?_; simp (maxSteps := 10000000) only [go_sem]; (try go_ints); (repeat refine And.intro side ?_); (first | refine hK _ ?_ | refine hR _ _ ?_); clear hK hR K R)
      repeat (first | refine nav ?_ | refine bo ?_)
      refine endQ_data (by simp only [go_sem] <;> exact rfl) (Le.of_eq ?_) rfl
      simp
end Go.AW
/-
Plain law: the graph's rows are the edges.
-/
namespace Go.AW
open Go Go.Proofs TyTry Go.IntWalk
set_option linter.unusedSimpArgs false
set_option linter.unusedVariables false

/-- What a list of tuples adds to the rows of a graph, where their relation is E. -/
theorem gT_E {r : RelD} (hE : isE r = true) (g : GD) (t : List Int) : gT r g t = (g.1.modify (t.getD 0 0).toNat (· ++ [t.getD 1 0]), g.2) := by
  simp [gT, hE]
theorem gT_noE {r : RelD} (hE : isE r = false) (g : GD) (t : List Int) : (gT r g t).1 = g.1 := by
  unfold gT
  rw [if_neg (by simp [hE])]
  split <;> rfl
theorem gTs_noE {r : RelD} (hE : isE r = false) : ∀ (ts : List (List Int)) (g : GD), (ts.foldl (gT r) g).1 = g.1
  | [], _ => rfl
  | t :: ts, g => by rw [List.foldl_cons, gTs_noE hE ts, gT_noE hE]
/-- Rows after the tuples of E: what there was, and the second places of the tuples that begin so. -/
theorem gTs_E {r : RelD} (hE : isE r = true) : ∀ (ts : List (List Int)) (g : GD) (x : Nat), x < g.1.length →
    (ts.foldl (gT r) g).1.getD x [] = g.1.getD x [] ++ (ts.filter fun t => (t.getD 0 0).toNat == x).map fun t => t.getD 1 0
  | [], g, x, hx => by simp
  | t :: ts, g, x, hx => by
    have hl : x < (gT r g t).1.length := by rw [(gT_len r g t).1]; exact hx
    rw [List.foldl_cons, gTs_E hE ts (gT r g t) x hl, gT_E hE]
    simp only [List.filter_cons]
    by_cases h : (t.getD 0 0).toNat = x
    · rw [if_pos (by simpa using h), List.map_cons]
      have : (g.1.modify (t.getD 0 0).toNat (· ++ [t.getD 1 0])).getD x [] = g.1.getD x [] ++ [t.getD 1 0] := by
        rw [List.getD_eq_getElem?_getD, List.getElem?_modify, List.getD_eq_getElem?_getD, List.getElem?_eq_getElem hx]
        rw [List.getD_eq_getElem?_getD] at h
        simp [h, List.getElem?_eq_getElem hx]
      rw [this, List.append_assoc]; rfl
    · rw [if_neg (by simpa using h)]
      have : (g.1.modify (t.getD 0 0).toNat (· ++ [t.getD 1 0])).getD x [] = g.1.getD x [] := by
        rw [List.getD_eq_getElem?_getD, List.getElem?_modify, List.getD_eq_getElem?_getD, List.getElem?_eq_getElem hx]
        rw [List.getD_eq_getElem?_getD] at h
        simp [h, List.getElem?_eq_getElem hx]
      rw [this]
theorem gRs_noE : ∀ (rs : List RelD) (g : GD), (∀ r ∈ rs, isE r = false) → (rs.foldl gR g).1 = g.1
  | [], _, _ => rfl
  | r :: rs, g, h => by
    rw [List.foldl_cons, gRs_noE rs (gR g r) fun q hq => h q (by simp [hq])]
    exact gTs_noE (h r (by simp)) r.tuples g
theorem gR_len (g : GD) (r : RelD) : (gR g r).1.length = g.1.length := by
  have : ∀ (ts : List (List Int)) (g : GD), (ts.foldl (gT r) g).1.length = g.1.length := by
    intro ts
    induction ts with
    | nil => intro g; rfl
    | cons t ts ih => intro g; rw [List.foldl_cons, ih, (gT_len r g t).1]
  exact this r.tuples g
/-- Where one relation is E, the rows are its tuples' second places. -/
theorem gRs_E : ∀ (rs : List RelD) (g : GD) (j : Nat) (q : RelD), rs[j]? = some q → isE q = true → (∀ (i : Nat) r, rs[i]? = some r → i ≠ j → isE r = false) → ∀ x : Nat, x < g.1.length →
    (rs.foldl gR g).1.getD x [] = g.1.getD x [] ++ (q.tuples.filter fun t => (t.getD 0 0).toNat == x).map fun t => t.getD 1 0
  | [], _, j, q, h, _, _, _, _ => by simp at h
  | r :: rs, g, 0, q, h, hE, hno, x, hx => by
    simp only [List.getElem?_cons_zero, Option.some.injEq] at h
    subst h
    rw [List.foldl_cons, gRs_noE rs (gR g r) fun p hp => by
      obtain ⟨i, hi⟩ := List.getElem?_of_mem hp
      exact hno (i + 1) p (by simpa using hi) (by omega)]
    exact gTs_E hE r.tuples g x hx
  | r :: rs, g, j + 1, q, h, hE, hno, x, hx => by
    have hr : isE r = false := hno 0 r rfl (by omega)
    rw [List.foldl_cons, gRs_E rs (gR g r) j q (by simpa using h) hE (fun i p hi hne => hno (i + 1) p (by simpa using hi) (by omega)) x (by rw [gR_len]; exact hx)]
    rw [show (gR g r).1 = g.1 from gTs_noE hr r.tuples g]
theorem names_uniq {s : StrD} (hv : validF s = true) : ∀ (i j : Nat) (p q : RelD), i < j → s.rels[i]? = some p → s.rels[j]? = some q → (p.name.toList == q.name.toList) = false := by
  intro i j p q hij hp hq
  simp only [validF, Bool.and_eq_true, List.all_eq_true, List.mem_range] at hv
  have h1 := hv.2 j (List.getElem?_eq_some_iff.1 hq).1
  rw [hq] at h1
  simp only [Bool.and_eq_true, Bool.not_eq_true', List.any_eq_false] at h1
  have := h1.2 p (List.mem_of_getElem? (i := i) (by rw [List.getElem?_take, if_pos hij]; exact hp))
  simpa using this
/-- A row of the graph: the second places of the tuples of E that begin so. -/
theorem nextE {s : StrD} (hv : validF s = true) (hf : fitsR symsE s = true) (x : Nat) (hx : x < s.size.toNat) :
    (graphD s).1.getD x [] = ((tupsOf s ⟨#[69]⟩).filter fun t => (t.getD 0 0).toNat == x).map fun t => t.getD 1 0 := by
  obtain ⟨j, q, e1, e2, e3, e4, e5⟩ := fitsR_one hf
  simp only at e1 e3 e4 e5
  have hE : isE q = true := by
    rw [isE, e3, e4]; rfl
  rw [e5, graphD, gRs_E s.rels _ j q e2 hE (fun i r hi hne => ?_) x (by simpa using hx)]
  · have : (List.replicate s.size.toNat ([] : List Int)).getD x [] = [] := by
      rw [List.getD_eq_getElem?_getD, List.getElem?_replicate]
      split <;> rfl
    rw [this, List.nil_append]
  · cases hr : isE r with
    | false => rfl
    | true =>
      exfalso
      rw [isE, Bool.and_eq_true] at hr
      have hn1 : r.name.toList = (⟨#[69]⟩ : ByteArray).toList := by simpa using hr.1
      have hn2 : q.name.toList = (⟨#[69]⟩ : ByteArray).toList := by simpa using e3
      rcases Nat.lt_or_gt_of_ne hne with h | h
      · have := names_uniq hv i j r q h hi e2
        rw [hn1, hn2] at this
        simp at this
      · have := names_uniq hv j i q r h e2 hi
        rw [hn1, hn2] at this
        simp at this
/-- The tuples of E: pairs of places. -/
theorem tupsE {s : StrD} (hv : validF s = true) (hf : fitsR symsE s = true) : ∀ t ∈ tupsOf s ⟨#[69]⟩, ∃ x y : Nat, t = [(x : Int), (y : Int)] ∧ x < s.size.toNat ∧ y < s.size.toNat := by
  obtain ⟨j, q, e1, e2, e3, e4, e5⟩ := fitsR_one hf
  simp only at e4 e5
  rw [e5]
  intro t ht
  obtain ⟨h1, h2⟩ := valid_tuple hv (List.mem_of_getElem? e2) ht
  rw [e4] at h1
  match t, h1 with
  | [a, b], _ =>
    obtain ⟨a0, a1⟩ := h2 a (by simp)
    obtain ⟨b0, b1⟩ := h2 b (by simp)
    obtain ⟨a, rfl⟩ := Int.eq_ofNat_of_zero_le a0
    obtain ⟨b, rfl⟩ := Int.eq_ofNat_of_zero_le b0
    exact ⟨a, b, rfl, by omega, by omega⟩
  | [], h => simp at h
  | [_], h => simp at h
  | _ :: _ :: _ :: _, h => simp at h; omega
theorem row_mem {s : StrD} (hv : validF s = true) (hf : fitsR symsE s = true) (x : Nat) (hx : x < s.size.toNat) (y : Int) :
    y ∈ (graphD s).1.getD x [] ↔ [(x : Int), y] ∈ tupsOf s ⟨#[69]⟩ := by
  rw [nextE hv hf x hx, List.mem_map]
  constructor
  · rintro ⟨t, ht, rfl⟩
    rw [List.mem_filter] at ht
    obtain ⟨a, b, rfl, _, _⟩ := tupsE hv hf t ht.1
    have : a = x := by simpa using ht.2
    subst this
    exact ht.1
  · intro h
    exact ⟨_, List.mem_filter.2 ⟨h, by simp⟩, rfl⟩
/-- y is led to from x just where the matrix says so. -/
theorem row_eB {s : StrD} (hv : validF s = true) (hf : fitsR symsE s = true) (x y : Nat) (hx : x < s.size.toNat) : ((y : Int) ∈ (graphD s).1.getD x []) ↔ eB s x y = true := by
  rw [row_mem hv hf x hx, eB, decide_eq_true_eq]
def lexR (t u : List Int) : Prop := t.getD 0 0 < u.getD 0 0 ∨ (t.getD 0 0 = u.getD 0 0 ∧ t.getD 1 0 < u.getD 1 0)
theorem lexR_trans {a b c : List Int} (h : lexR a b) (k : lexR b c) : lexR a c := by
  unfold lexR at *
  omega
theorem cmp_lex {a b c d : Int} (h : cmpL [a, b] [c, d] < 0) : lexR [a, b] [c, d] := by
  simp only [cmpL, cmpF] at h
  simp only [lexR, List.getD_cons_zero, List.getD_cons_succ]
  by_cases h1 : a < c
  · exact .inl h1
  · by_cases h2 : a = c
    · subst h2
      simp at h
      right
      refine ⟨rfl, ?_⟩
      by_cases h3 : b < d
      · exact h3
      · exfalso
        by_cases h4 : b = d
        · simp [h4] at h
        · simp [h3, h4] at h; omega
    · exfalso
      simp [h1, h2] at h
      omega
theorem tups_sorted {s : StrD} (hv : validF s = true) (hf : fitsR symsE s = true) : (tupsOf s ⟨#[69]⟩).Pairwise lexR := by
  have hpair := tupsE hv hf
  obtain ⟨j, q, e1, e2, e3, e4, e5⟩ := fitsR_one hf
  simp only at e5
  rw [e5] at hpair ⊢
  have hadj : ∀ (i : Nat) (t u : List Int), q.tuples[i]? = some t → q.tuples[i + 1]? = some u → lexR t u := by
    intro i t u ht hu
    have hv' := hv
    simp only [validF, Bool.and_eq_true, List.all_eq_true, List.mem_range] at hv'
    have h1 := hv'.2 j (List.getElem?_eq_some_iff.1 e2).1
    rw [e2] at h1
    simp only [Bool.and_eq_true, relOk, tuplesF, List.all_eq_true, List.mem_range] at h1
    have h2 := h1.1.2 (i + 1) (List.getElem?_eq_some_iff.1 hu).1
    simp only [tupOk, List.getD_eq_getElem?_getD, Nat.add_sub_cancel, ht, hu, Option.getD_some, Bool.and_eq_true, Bool.or_eq_true, decide_eq_true_eq] at h2
    obtain ⟨a, b, rfl, _, _⟩ := hpair t (List.mem_of_getElem? ht)
    obtain ⟨c, d, rfl, _, _⟩ := hpair u (List.mem_of_getElem? hu)
    rcases h2.2 with h | h
    · omega
    · exact cmp_lex h
  rw [List.pairwise_iff_getElem]
  have key : ∀ (k i : Nat) (t u : List Int), q.tuples[i]? = some t → q.tuples[i + k + 1]? = some u → lexR t u := by
    intro k
    induction k with
    | zero => intro i t u ht hu; exact hadj i t u ht hu
    | succ k ih =>
      intro i t u ht hu
      have hlt := (List.getElem?_eq_some_iff.1 hu).1
      obtain ⟨w, hw⟩ : ∃ w, q.tuples[i + k + 1]? = some w := ⟨_, List.getElem?_eq_getElem (by omega)⟩
      exact lexR_trans (ih i t w ht hw) (hadj (i + k + 1) w u hw hu)
  intro i j hi hj hij
  exact key (j - i - 1) i _ _ (List.getElem?_eq_getElem hi) (by rw [show i + (j - i - 1) + 1 = j by omega]; exact List.getElem?_eq_getElem hj)
/-- A row rises. -/
theorem row_sorted {s : StrD} (hv : validF s = true) (hf : fitsR symsE s = true) (x : Nat) (hx : x < s.size.toNat) : ((graphD s).1.getD x []).Pairwise (· < ·) := by
  rw [nextE hv hf x hx, List.pairwise_map]
  refine List.Pairwise.imp_of_mem ?_ ((tups_sorted hv hf).filter _)
  intro t u ht hu h
  rw [List.mem_filter] at ht hu
  obtain ⟨a, b, rfl, _, _⟩ := tupsE hv hf t ht.1
  obtain ⟨c, d, rfl, _, _⟩ := tupsE hv hf u hu.1
  have h1 : a = x := by simpa using ht.2
  have h2 : c = x := by simpa using hu.2
  subst h1 h2
  simp only [lexR, List.getD_cons_zero, List.getD_cons_succ] at h ⊢
  omega
/-- Two rising lists of the same members are one. -/
theorem sorted_ext : ∀ {a b : List Int}, a.Pairwise (· < ·) → b.Pairwise (· < ·) → (∀ y, y ∈ a ↔ y ∈ b) → a = b
  | [], [], _, _, _ => rfl
  | [], y :: b, _, _, h => by have := (h y).2 (by simp); simp at this
  | x :: a, [], _, _, h => by have := (h x).1 (by simp); simp at this
  | x :: a, y :: b, ha, hb, h => by
    rw [List.pairwise_cons] at ha hb
    have hxy : x = y := by
      have h1 := (h x).1 (by simp)
      have h2 := (h y).2 (by simp)
      rcases List.mem_cons.1 h1 with e | e
      · exact e
      · rcases List.mem_cons.1 h2 with e' | e'
        · exact e'.symm
        · have := ha.1 y e'
          have := hb.1 x e
          omega
    subst hxy
    congr 1
    refine sorted_ext ha.2 hb.2 fun z => ?_
    have := h z
    simp only [List.mem_cons] at this
    constructor
    · intro hz
      rcases this.1 (.inr hz) with e | e
      · subst e; exact absurd (ha.1 z hz) (by omega)
      · exact e
    · intro hz
      rcases this.2 (.inr hz) with e | e
      · subst e; exact absurd (hb.1 z hz) (by omega)
      · exact e
/-- A row, by the matrix. -/
theorem row_eq {s : StrD} (hv : validF s = true) (hf : fitsR symsE s = true) (x : Nat) (hx : x < s.size.toNat) :
    (graphD s).1.getD x [] = ((List.range s.size.toNat).filter fun y => eB s x y).map fun y : Nat => (y : Int) := by
  refine sorted_ext (row_sorted hv hf x hx) ?_ fun y => ?_
  · rw [List.pairwise_map]
    refine List.Pairwise.imp ?_ ((List.pairwise_lt_range).filter _)
    intro a b h
    exact_mod_cast h
  · rw [List.mem_map]
    constructor
    · intro h
      rw [row_mem hv hf x hx] at h
      obtain ⟨a, b, e, ha, hb⟩ := tupsE hv hf _ h
      simp only [List.cons.injEq, and_true] at e
      obtain ⟨_, rfl⟩ := e
      exact ⟨b, List.mem_filter.2 ⟨List.mem_range.2 hb, decide_eq_true h⟩, rfl⟩
    · rintro ⟨b, hb, rfl⟩
      rw [List.mem_filter] at hb
      exact (row_eB hv hf x b hx).2 hb.2
end Go.AW
/-
Plain law: counts of walks, exact and capped.
-/
namespace Go.AW
open Go Go.Proofs TyTry Go.IntWalk
set_option linter.unusedSimpArgs false
set_option linter.unusedVariables false

/-- Sums over the first places. -/
def sumN (f : Nat → Nat) : Nat → Nat
  | 0 => 0
  | k + 1 => sumN f k + f k
/-- The number of walks of some steps from x to the last place. -/
def backN (E : Nat → Nat → Bool) (n : Nat) : Nat → Nat → Nat
  | 0, x => if x = n - 1 then 1 else 0
  | k + 1, x => sumN (fun y => if E x y then backN E n k y else 0) n
/-- The number of walks of some steps from the first place to y. -/
def fwdN (E : Nat → Nat → Bool) (n : Nat) : Nat → Nat → Nat
  | 0, y => if y = 0 then 1 else 0
  | k + 1, y => sumN (fun x => if E x y then fwdN E n k x else 0) n
theorem sumN_congr {f g : Nat → Nat} : ∀ {k : Nat}, (∀ i < k, f i = g i) → sumN f k = sumN g k
  | 0, _ => rfl
  | k + 1, h => by rw [sumN, sumN, sumN_congr fun i hi => h i (by omega), h k (by omega)]
theorem sumN_zero : ∀ k : Nat, sumN (fun _ => 0) k = 0
  | 0 => rfl
  | k + 1 => by rw [sumN, sumN_zero k]
theorem sumN_add (f g : Nat → Nat) : ∀ k : Nat, sumN (fun i => f i + g i) k = sumN f k + sumN g k
  | 0 => rfl
  | k + 1 => by simp only [sumN, sumN_add f g k]; omega
theorem sumN_mul (c : Nat) (f : Nat → Nat) : ∀ k : Nat, sumN (fun i => c * f i) k = c * sumN f k
  | 0 => rfl
  | k + 1 => by simp only [sumN, sumN_mul c f k, Nat.mul_add]
theorem sumN_swap (f : Nat → Nat → Nat) (m : Nat) : ∀ k : Nat, sumN (fun i => sumN (f i) m) k = sumN (fun j => sumN (fun i => f i j) k) m
  | 0 => by simp only [sumN]; rw [sumN_zero]
  | k + 1 => by simp only [sumN, sumN_swap f m k]; rw [sumN_add]
theorem sumN_one (f : Nat → Nat) (j : Nat) : ∀ k : Nat, sumN (fun i => if i = j then f i else 0) k = if j < k then f j else 0
  | 0 => rfl
  | k + 1 => by
    rw [sumN, sumN_one f j k]
    by_cases h : j < k
    · rw [if_pos h, if_neg (by omega), if_pos (by omega)]; omega
    · rw [if_neg h]
      by_cases h2 : k = j
      · subst h2; simp
      · rw [if_neg h2, if_neg (by omega)]
/-- Walks met half way: forward by a, backward by b. -/
theorem meet (E : Nat → Nat → Bool) (n : Nat) (a b : Nat) : sumN (fun y => fwdN E n (a + 1) y * backN E n b y) n = sumN (fun x => fwdN E n a x * backN E n (b + 1) x) n := by
  have h1 : ∀ y, fwdN E n (a + 1) y * backN E n b y = sumN (fun x => if E x y then fwdN E n a x * backN E n b y else 0) n := by
    intro y
    rw [fwdN, Nat.mul_comm, ← sumN_mul]
    exact sumN_congr fun x _ => by split <;> simp [Nat.mul_comm]
  have h2 : ∀ x, fwdN E n a x * backN E n (b + 1) x = sumN (fun y => if E x y then fwdN E n a x * backN E n b y else 0) n := by
    intro x
    rw [backN, ← sumN_mul]
    exact sumN_congr fun y _ => by split <;> simp
  rw [sumN_congr fun y _ => h1 y, sumN_congr fun x _ => h2 x]
  exact sumN_swap (fun y x => if E x y then fwdN E n a x * backN E n b y else 0) n n
theorem meet_all (E : Nat → Nat → Bool) (n : Nat) : ∀ (a b : Nat), sumN (fun y => fwdN E n a y * backN E n b y) n = sumN (fun y => fwdN E n 0 y * backN E n (a + b) y) n
  | 0, b => by rw [Nat.zero_add]
  | a + 1, b => by rw [meet, meet_all E n a (b + 1), show a + (b + 1) = a + 1 + b by omega]
/-- Forward to the last is backward from the first. -/
theorem fwd_back (E : Nat → Nat → Bool) (n : Nat) (hn : 1 ≤ n) (k : Nat) : fwdN E n k (n - 1) = backN E n k 0 := by
  have h := meet_all E n k 0
  have h1 : sumN (fun y => fwdN E n k y * backN E n 0 y) n = fwdN E n k (n - 1) := by
    rw [sumN_congr (g := fun y => if y = n - 1 then fwdN E n k y else 0) fun y _ => by rw [backN]; split <;> simp]
    rw [sumN_one, if_pos (by omega)]
  have h2 : sumN (fun y => fwdN E n 0 y * backN E n (k + 0) y) n = backN E n k 0 := by
    rw [sumN_congr (g := fun y => if y = 0 then backN E n k y else 0) fun y _ => by rw [fwdN, Nat.add_zero]; split <;> simp]
    rw [sumN_one, if_pos (by omega)]
  rw [← h1, h, h2]
theorem accW_exact (r : List Bool) (now : List Int) (N : Nat → Nat) (n : Nat) (h : ∀ y < n, now.getD y 0 = min ((N y : Nat) : Int) capC) :
    ∀ j ≤ n, accW r now j = min ((sumN (fun y => if r.getD y false then N y else 0) j : Nat) : Int) capC
  | 0, _ => by simp [accW, sumN, capC]; omega
  | j + 1, hj => by
    have hc : (0 : Int) ≤ capC := by decide
    rw [accW_succ, accW_exact r now N n h j (by omega), sumN]
    by_cases hr : r.getD j false = true
    · rw [if_pos hr, if_pos hr, h j (by omega)]
      omega
    · rw [if_neg hr, if_neg hr]; simp
theorem eMat_getD (s : StrD) (n x y : Nat) (hx : x < n) (hy : y < n) : ((eMat s n).getD x []).getD y false = eB s x y := by
  simp [eMat, eRow, hx, hy]
/-- The reference's counts are the capped exact ones. -/
theorem wk_exact (s : StrD) (n : Nat) (hn : 1 ≤ n) : ∀ (k x : Nat), x < n → (wk (eMat s n) n k).getD x 0 = min ((backN (eB s) n k x : Nat) : Int) capC
  | 0, x, hx => by
    rw [wk, backN, List.getD_eq_getElem?_getD, List.getElem?_set]
    by_cases h : n - 1 = x
    · rw [if_pos h, if_pos (by simpa using by omega), if_pos h.symm]; rfl
    · rw [if_neg h, if_neg (fun e => h e.symm)]; simp [hx, capC]; omega
  | k + 1, x, hx => by
    rw [wk, stepW, List.getD_eq_getElem?_getD, List.getElem?_map, List.getElem?_range hx]
    simp only [Option.map_some, Option.getD_some]
    rw [accW_exact _ _ (backN (eB s) n k) n (fun y hy => wk_exact s n hn k y hy) n (Nat.le_refl _), backN]
    congr 2
    exact sumN_congr fun y hy => by rw [eMat_getD s n x y hx hy]
/-- And so is their sum. -/
theorem totW_exact (s : StrD) (n : Nat) (hn : 1 ≤ n) : ∀ k : Nat, totW (eMat s n) n k = min ((sumN (fun i => backN (eB s) n i 0) k : Nat) : Int) capC
  | 0 => by simp [totW, sumN, capC]; omega
  | k + 1 => by
    have hc : (0 : Int) ≤ capC := by decide
    rw [totW_succ, totW_exact s n hn k, wk_exact s n hn k 0 (by omega), sumN]
    omega
theorem addH_get (w : Int) (acc : List Int) (z y : Nat) (hy : y < acc.length) : (addH w acc (z : Int)).getD y 0 = if y = z then min (acc.getD y 0 + w) capH else acc.getD y 0 := by
  rw [addH, Int.toNat_natCast, List.getD_eq_getElem?_getD, List.getElem?_set]
  by_cases h : z = y
  · subst h; rw [if_pos rfl, if_pos hy, if_pos rfl]; rfl
  · rw [if_neg h, if_neg (fun e => h e.symm), List.getD_eq_getElem?_getD]
theorem inH_get (w : Int) : ∀ (l : List Nat) (acc : List Int) (y : Nat), l.Pairwise (· < ·) → y < acc.length →
    (inH w (l.map fun z : Nat => (z : Int)) acc).getD y 0 = if y ∈ l then min (acc.getD y 0 + w) capH else acc.getD y 0
  | [], acc, y, _, _ => by simp [inH]
  | z :: l, acc, y, hp, hy => by
    rw [List.pairwise_cons] at hp
    rw [List.map_cons, inH, List.foldl_cons]
    have ih := inH_get w l (addH w acc (z : Int)) y hp.2 (by rw [addH_len]; exact hy)
    rw [inH] at ih
    rw [ih, addH_get w acc z y hy]
    by_cases h : y = z
    · subst h
      have hno : y ∉ l := fun hm => by have := hp.1 y hm; omega
      rw [if_neg hno, if_pos rfl, if_pos (by simp)]
    · rw [if_neg h]
      simp [h]
theorem outH_exact (next : List (List Int)) (E : Nat → Nat → Bool) (n : Nat) (hnext : ∀ x < n, next.getD x [] = ((List.range n).filter fun y => E x y).map fun y : Nat => (y : Int)) (now : List Int) (N : Nat → Nat)
    (h : ∀ x < n, now.getD x 0 = min ((N x : Nat) : Int) capH) (y : Nat) (hy : y < n) : ∀ k ≤ n, (outH next now n k).getD y 0 = min ((sumN (fun x => if E x y then N x else 0) k : Nat) : Int) capH
  | 0, _ => by simp [outH, sumN, capH, hy]; omega
  | k + 1, hk => by
    have hc : (0 : Int) ≤ capH := by decide
    rw [outH_succ, hnext k (by omega), inH_get _ _ _ y ((List.pairwise_lt_range).filter _) (by rw [outH_len]; exact hy), outH_exact next E n hnext now N h y hy k (by omega), h k (by omega), sumN]
    simp only [List.mem_filter, List.mem_range, hy, true_and]
    by_cases hE : E k y = true
    · rw [if_pos hE, if_pos hE]; omega
    · rw [if_neg hE, if_neg hE]; simp
/-- The program's counts are the capped exact ones. -/
theorem fwd_exact (next : List (List Int)) (E : Nat → Nat → Bool) (n : Nat) (hnext : ∀ x < n, next.getD x [] = ((List.range n).filter fun y => E x y).map fun y : Nat => (y : Int)) : ∀ (k y : Nat), y < n →
    (fwd next n k).getD y 0 = min ((fwdN E n k y : Nat) : Int) capH
  | 0, y, hy => by
    rw [fwd, fwdN, List.getD_eq_getElem?_getD, List.getElem?_set]
    by_cases h : 0 = y
    · rw [if_pos h, if_pos (by simp; omega), if_pos h.symm]; rfl
    · rw [if_neg h, if_neg (fun e => h e.symm)]; simp [hy, capH]; omega
  | k + 1, y, hy => by
    rw [fwd, outH_exact next E n hnext _ (fwdN E n k) (fun x hx => fwd_exact next E n hnext k x hx) y hy n (Nat.le_refl _)]
    rfl
end Go.AW
/-
Plain law: both numbers of walks are one (CountLaw).
-/
namespace Go.AW
open Go Go.Proofs TyTry Go.IntWalk
set_option linter.unusedSimpArgs false
set_option linter.unusedVariables false

theorem foldl_max_ge : ∀ (l : List Int) (a : Int), a ≤ l.foldl max a ∧ ∀ y ∈ l, y ≤ l.foldl max a
  | [], a => by simp
  | x :: l, a => by
    obtain ⟨h1, h2⟩ := foldl_max_ge l (max a x)
    rw [List.foldl_cons]
    refine ⟨by omega, fun y hy => ?_⟩
    rcases List.mem_cons.1 hy with rfl | hy
    · omega
    · exact h2 y hy
theorem maxI_ge (l : List Int) (y : Nat) (hy : y < l.length) : l.getD y 0 ≤ maxI l := by
  cases l with
  | nil => simp at hy
  | cons a l =>
    obtain ⟨h1, h2⟩ := foldl_max_ge l a
    cases y with
    | zero => simpa [maxI] using h1
    | succ y =>
      have hy' : y < l.length := by simpa using hy
      have := h2 l[y] (List.getElem_mem hy')
      simpa [maxI, hy'] using this
theorem fwdN_dead (E : Nat → Nat → Bool) (n d : Nat) (h : ∀ y < n, fwdN E n d y = 0) : ∀ (i y : Nat), y < n → fwdN E n (d + i) y = 0
  | 0, y, hy => h y hy
  | i + 1, y, hy => by
    rw [show d + (i + 1) = (d + i) + 1 by omega, fwdN, sumN_congr (g := fun _ => 0) fun x hx => by rw [fwdN_dead E n d h i x hx]; split <;> rfl]
    exact sumN_zero n
theorem sumN_mono (f : Nat → Nat) : ∀ (a i : Nat), sumN f a ≤ sumN f (a + i)
  | _, 0 => Nat.le_refl _
  | a, i + 1 => by
    have := sumN_mono f a i
    rw [show a + (i + 1) = (a + i) + 1 by omega, sumN]; omega
theorem sumN_still (f : Nat → Nat) (a : Nat) (h : ∀ i, f (a + i) = 0) : ∀ i : Nat, sumN f (a + i) = sumN f a
  | 0 => rfl
  | i + 1 => by rw [show a + (i + 1) = (a + i) + 1 by omega, sumN, sumN_still f a h i, h i]; rfl
theorem hwF_exact (next : List (List Int)) (E : Nat → Nat → Bool) (n : Nat) (hn : 1 ≤ n) (hnext : ∀ x < n, next.getD x [] = ((List.range n).filter fun y => E x y).map fun y : Nat => (y : Int)) :
    ∀ (f d : Nat), sumN (fun i => backN E n i 0) d ≤ 1099511627776 → hwF next n f d ((sumN (fun i => backN E n i 0) d : Nat) : Int) =
      if sumN (fun i => backN E n i 0) (d + f) ≤ 1099511627776 then some ((sumN (fun i => backN E n i 0) (d + f) : Nat) : Int) else none
  | 0, d, h => by rw [hwF, Nat.add_zero, if_pos h]
  | f + 1, d, h => by
    have hcap : capH = 1099511627777 := rfl
    have hv := fwd_exact next E n hnext d (n - 1) (by omega)
    rw [fwd_back E n hn] at hv
    have hs : sumN (fun i => backN E n i 0) (d + 1) = sumN (fun i => backN E n i 0) d + backN E n d 0 := rfl
    rw [hwF]
    by_cases hmax : maxI (fwd next n d) > 0
    · rw [if_pos hmax, hv]
      by_cases hbig : sumN (fun i => backN E n i 0) (d + 1) ≤ 1099511627776
      · rw [if_neg (by omega)]
        have e : (((sumN (fun i => backN E n i 0) d : Nat) : Int) + min ((backN E n d 0 : Nat) : Int) capH) = ((sumN (fun i => backN E n i 0) (d + 1) : Nat) : Int) := by omega
        rw [e, hwF_exact next E n hn hnext f (d + 1) hbig, show d + 1 + f = d + (f + 1) by omega]
      · have hm := sumN_mono (fun i => backN E n i 0) (d + 1) f
        rw [show d + 1 + f = d + (f + 1) by omega] at hm
        rw [if_pos (by omega), if_neg (by omega)]
    · rw [if_neg hmax]
      have hz : ∀ y < n, fwdN E n d y = 0 := by
        intro y hy
        have h1 := maxI_ge (fwd next n d) y (by rw [fwd_len]; exact hy)
        rw [fwd_exact next E n hnext d y hy] at h1
        omega
      have hb : ∀ i, backN E n (d + i) 0 = 0 := fun i => by rw [← fwd_back E n hn]; exact fwdN_dead E n d hz i (n - 1) (by omega)
      rw [sumN_still _ d hb (f + 1), if_pos h]
theorem countLaw : CountLaw := by
  intro s most hv hf hsz hmo
  obtain ⟨z1, z2, z3⟩ := valid_size hv
  have hn : 1 ≤ s.size.toNat := by omega
  have hcode : codeF s false = 0 := codeF_ok hv (by rw [← fitsR_eq hv]; exact hf)
  have hC : capC = 2199023255552 := rfl
  have hex := hwF_exact (graphD s).1 (eB s) s.size.toNat hn (fun x hx => row_eq hv hf x hx) (most + 1) 0 (by simp [sumN])
  rw [Nat.zero_add, show ((sumN (fun i => backN (eB s) s.size.toNat i 0) 0 : Nat) : Int) = 0 from rfl] at hex
  rw [hwA, if_neg (by simp [hcode]), if_neg (by omega), Int.toNat_natCast, hex, totW_exact s _ hn]
  by_cases h : sumN (fun i => backN (eB s) s.size.toNat i 0) (most + 1) ≤ 1099511627776
  · rw [if_pos h, if_pos (by omega)]
    have : min ((sumN (fun i => backN (eB s) s.size.toNat i 0) (most + 1) : Nat) : Int) capC = ((sumN (fun i => backN (eB s) s.size.toNat i 0) (most + 1) : Nat) : Int) := by omega
    rw [this]
  · rw [if_neg h, if_neg (by omega)]
end Go.AW
/-
Plain law: a round finds all of its places at once.
-/
namespace Go.AW
open Go Go.Proofs TyTry Go.IntWalk
set_option linter.unusedSimpArgs false
set_option linter.unusedVariables false

/-- What a round makes of a place. -/
def newF (next : List (List Int)) (d : Int) (far : List Int) (x : Nat) : Int := if (decide (far.getD x 0 < 0) && (next.getD x []).any fun y => far.getD y.toNat 0 == d - 1) = true then d else far.getD x 0
theorem farP_get {next : List (List Int)} {d : Int} {far : List Int} (hd : 1 ≤ d) (hold : ∀ (x : Nat) (v : Int), far[x]? = some v → v < d) : ∀ (k x : Nat), k ≤ far.length → x < far.length →
    (farP next d far k).getD x 0 = if x < k then newF next d far x else far.getD x 0
  | 0, x, _, _ => by rw [if_neg (by omega)]; rfl
  | k + 1, x, hk, hx => by
    have ih := fun y hy => farP_get (next := next) hd hold k y (by omega) hy
    have hlen : (farP next d far k).length = far.length := farP_len next d far k
    -- the test sees the old state
    have htest : ∀ y : Int, ((farP next d far k).getD y.toNat 0 == d - 1) = (far.getD y.toNat 0 == d - 1) := by
      intro y
      by_cases hy : y.toNat < far.length
      · rw [ih y.toNat hy]
        split
        · unfold newF
          split
          · rename_i hc
            rw [Bool.and_eq_true, decide_eq_true_eq] at hc
            have h1 : (d == d - 1) = false := by simp; omega
            have h2 : (far.getD y.toNat 0 == d - 1) = false := by simp only [beq_eq_false_iff_ne, ne_eq]; omega
            rw [h1, h2]
          · rfl
        · rfl
      · rw [List.getD_eq_getElem?_getD, List.getD_eq_getElem?_getD, List.getElem?_eq_none (by omega), List.getElem?_eq_none (by omega)]
    have hk' := ih k (by omega)
    rw [if_neg (by omega)] at hk'
    rw [farP_succ, farX, hk']
    simp only [htest]
    by_cases hc : (decide (far.getD k 0 < 0) && (next.getD k []).any fun y => far.getD y.toNat 0 == d - 1) = true
    · rw [if_pos hc, List.getD_eq_getElem?_getD, List.getElem?_set]
      by_cases hxk : k = x
      · subst hxk
        rw [if_pos rfl, if_pos (by omega), if_pos (by omega), newF, if_pos hc]; rfl
      · rw [if_neg hxk, ← List.getD_eq_getElem?_getD, ih x hx]
        by_cases h : x < k
        · rw [if_pos h, if_pos (by omega)]
        · rw [if_neg h, if_neg (by omega)]
    · rw [if_neg hc, ih x hx]
      by_cases hxk : k = x
      · subst hxk
        rw [if_neg (by omega), if_pos (by omega), newF, if_neg hc]
      · by_cases h : x < k
        · rw [if_pos h, if_pos (by omega)]
        · rw [if_neg h, if_neg (by omega)]
end Go.AW
