/-
Contracts: relations; shape.Valid; literal.Fits.
-/
import Derived.Test.YtilaieleaiadeaaKaf
namespace Go.AW
open Go Go.Proofs TyTry Go.IntWalk
set_option linter.unusedSimpArgs false
set_option linter.unusedVariables false
set_option maxRecDepth 10000

theorem indexRel_spec {oc : List Ob} (ho : okO oc = true) {f : FuncId} {caps : List AV} (hc : caps.all (AV.ltk oc.length) = true) (hcd : caps.map AV.dat = caps) (p : RelD → Bool) (l : List RelD) (hl : l.length ≤ 1099511627776)
    (h : ∀ x ∈ l, ACallsQ Try.prog f (.agg [.s x.name, .i .i64 x.arity, .sl 1 (tups x.tuples)] :: caps) oc (.b (p x))) : ACallsQ Try.prog 95 [.sl 3 (rels l), .fn f caps] oc (.i .i64 (idxI p l 0)) := by
  refine ACalls_of' (n := 19) (rs := [.tmp 4]) (show Try.prog.funcs[95]? = some Try.f95 by kernel_rfl) rfl rfl rfl (by simp) (by decide +kernel) ?_
  repeat (first | refine nav ?_ | refine bo ?_)
  (refine wr fun K R hK hR => ?_; simp (maxSteps := 10000000) only [go_sem]; (try go_ints); (repeat refine And.intro side ?_); (first | refine hK _ ?_ | refine hR _ _ ?_); clear hK hR K R)
  repeat (first | refine nav ?_ | refine bo ?_)
  (refine wr fun K R hK hR => ?_; simp (maxSteps := 10000000) only [go_sem]; (try go_ints); (repeat refine And.intro side ?_); (first | refine hK _ ?_ | refine hR _ _ ?_); clear hK hR K R)
  repeat (first | refine nav ?_ | refine bo ?_)
  refine W_for 8 19 [5] (fun m t o => ∃ k : Nat, oc = o ∧ t 8 = .i .i64 k ∧ m = l.length - k ∧ k ≤ l.length ∧ idxI p (l.drop k) k = idxI p l 0) l.length ⟨0, rfl, by simp only [go_sem] <;> rfl, by omega, Nat.zero_le _, by simp⟩ ?_
  rintro m t o ⟨k, rfl, h8, rfl, hk, hi⟩
  repeat (first | refine nav ?_ | refine bo ?_)
  (refine wr fun K R hK hR => ?_; simp (maxSteps := 10000000) only [go_sem, h8]; (try go_ints); (try simp only [go_sem, h8]); (repeat refine And.intro side ?_); (first | refine hK _ ?_ | refine hR _ _ ?_); clear hK hR K R)
  repeat (first | refine nav ?_ | refine bo ?_)
  refine W_cond (by simp only [go_sem] <;> exact rfl) (fun hb => ?_) (fun hb => ?_)
  · simp at hb
    obtain ⟨x, hx⟩ : ∃ x, l[k]? = some x := ⟨_, List.getElem?_eq_getElem hb⟩
    rw [drop_cons hx, idxI] at hi
    repeat (first | refine nav ?_ | refine bo ?_)
    (refine wr fun K R hK hR => ?_; simp (maxSteps := 10000000) only [go_sem, h8]; (try go_ints); (try simp only [go_sem, h8]); (repeat refine And.intro side ?_); (first | refine hK _ ?_ | refine hR _ _ ?_); clear hK hR K R)
    repeat (first | refine nav ?_ | refine bo ?_)
    (refine wr fun K R hK hR => ?_; simp (maxSteps := 10000000) only [go_sem, h8, rels_get hx]; (try go_ints); (try simp only [go_sem, h8, rels_get hx]); (repeat refine And.intro side ?_); (first | refine hK _ ?_ | refine hR _ _ ?_); clear hK hR K R)
    refine RL_callQ (h x (List.mem_of_getElem? hx)) (by simp only [go_sem] <;> exact rfl) rfl rfl (by simp) (by simp only [go_sem, hcd] <;> exact LeA.refl _) ho ?_ rfl ?_
    · simpa [AV.ltk, AV.ltks] using hc
    (refine rr fun K R hK hR => ?_; simp (maxSteps := 10000000) only [go_sem]; (try go_ints); (repeat refine And.intro side ?_); (first | refine hK _ ?_ | refine hR _ _ ?_); clear hK hR K R)
    repeat (first | refine nav ?_ | refine bo ?_)
    refine W_cond (by simp only [go_sem] <;> exact rfl) (fun hb => ?_) (fun hb => ?_)
    · rw [if_pos hb] at hi
      repeat (first | refine nav ?_ | refine bo ?_)
      (refine wr fun K R hK hR => ?_; simp (maxSteps := 10000000) only [go_sem]; (try go_ints); (repeat refine And.intro side ?_); (first | refine hK _ ?_ | refine hR _ _ ?_); clear hK hR K R)
      repeat (first | refine nav ?_ | refine bo ?_)
      refine endQ_quiet0 (by simp only [go_sem] <;> exact rfl) (Le.of_eq ?_) (by assumption) rfl
      rw [hi]
    · rw [if_neg (by simp [hb])] at hi
      repeat (first | refine nav ?_ | refine bo ?_)
      (refine wr fun K R hK hR => ?_; simp (maxSteps := 10000000) only [go_sem, h8]; (try go_ints); (try simp only [go_sem, h8]); (repeat refine And.intro side ?_); (first | refine hK _ ?_ | refine hR _ _ ?_); clear hK hR K R)
      refine forQ_normal (l.length - (k + 1)) (by omega) ⟨k + 1, ?_⟩
      ((try simp only [go_sem]); (repeat' refine And.intro ?_ ?_) <;> (try first | with_reducible rfl | omega | with_reducible assumption | (simp; done)))
      exact hi
  · simp at hb
    have : k = l.length := by omega
    subst this
    simp [idxI] at hi
    repeat (first | refine nav ?_ | refine bo ?_)
    (refine wr fun K R hK hR => ?_; simp (maxSteps := 10000000) only [go_sem]; (try go_ints); (repeat refine And.intro side ?_); (first | refine hK _ ?_ | refine hR _ _ ?_); clear hK hR K R)
    repeat (first | refine nav ?_ | refine bo ?_)
    refine endQ_quiet0 (by simp only [go_sem] <;> exact rfl) (Le.of_eq ?_) (by assumption) rfl
    rw [hi]
theorem containsRel_spec {oc : List Ob} (ho : okO oc = true) {f : FuncId} {caps : List AV} (hc : caps.all (AV.ltk oc.length) = true) (hcd : caps.map AV.dat = caps) (p : RelD → Bool) (l : List RelD) (hl : l.length ≤ 1099511627776)
    (h : ∀ x ∈ l, ACallsQ Try.prog f (.agg [.s x.name, .i .i64 x.arity, .sl 1 (tups x.tuples)] :: caps) oc (.b (p x))) : ACallsQ Try.prog 76 [.sl 3 (rels l), .fn f caps] oc (.b (l.any p)) := by
  refine ACalls_of' (n := 9) (rs := [.tmp 4]) (show Try.prog.funcs[76]? = some Try.f76 by kernel_rfl) rfl rfl rfl (by simp) (by decide +kernel) ?_
  repeat (first | refine nav ?_ | refine bo ?_)
  (refine wr fun K R hK hR => ?_; simp (maxSteps := 10000000) only [go_sem]; (try go_ints); (repeat refine And.intro side ?_); (first | refine hK _ ?_ | refine hR _ _ ?_); clear hK hR K R)
  repeat (first | refine nav ?_ | refine bo ?_)
  (refine wr fun K R hK hR => ?_; simp (maxSteps := 10000000) only [go_sem]; (try go_ints); (repeat refine And.intro side ?_); (first | refine hK _ ?_ | refine hR _ _ ?_); clear hK hR K R)
  refine RL_callQ (indexRel_spec ho hc hcd p l hl h) (by simp only [go_sem] <;> exact rfl) rfl rfl (by simp) (by simp only [go_sem]) ho ?_ rfl ?_
  · simpa [AV.ltk, ltks_all] using hc
  (refine rr fun K R hK hR => ?_; simp (maxSteps := 10000000) only [go_sem]; (try go_ints); (repeat refine And.intro side ?_); (first | refine hK _ ?_ | refine hR _ _ ?_); clear hK hR K R)
  repeat (first | refine nav ?_ | refine bo ?_)
  refine endQ_quiet0 (by simp only [go_sem] <;> exact rfl) (Le.of_eq ?_) (by assumption) rfl
  rw [idxI_any p l 0 (by omega)]
theorem valid1_spec {oc : List Ob} (ho : okO oc = true) {i : Nat} {r : RelD} (hi : oc[i]? = some (.cells 3 [[.s r.name, .i .i64 r.arity, .sl 1 (tups r.tuples)]])) (q : RelD) :
    ACallsQ Try.prog 77 [.agg [.s q.name, .i .i64 q.arity, .sl 1 (tups q.tuples)], .ptr i 0 0] oc (.b (q.name.toList == r.name.toList)) := by
  have hi' := fun l => app_get l hi
  refine ACalls_of' (n := 9) (rs := [.tmp 3]) (show Try.prog.funcs[77]? = some Try.f77 by kernel_rfl) rfl rfl rfl (by simp) (by decide +kernel) ?_
  repeat (first | refine nav ?_ | refine bo ?_)
  (refine wr fun K R hK hR => ?_; simp (maxSteps := 10000000) only [go_sem]; (try go_ints); (repeat refine And.intro side ?_); (first | refine hK _ ?_ | refine hR _ _ ?_); clear hK hR K R)
  repeat (first | refine nav ?_ | refine bo ?_)
  (refine wr fun K R hK hR => ?_; simp (maxSteps := 10000000) only [go_sem, hi']; (try go_ints); (try simp only [go_sem, hi']); (repeat refine And.intro side ?_); (first | refine hK _ ?_ | refine hR _ _ ?_); clear hK hR K R)
  repeat (first | refine nav ?_ | refine bo ?_)
  refine endQ_quiet (by simp only [go_sem] <;> exact rfl) (Le.of_eq ?_) (by assumption) rfl
  rfl
theorem fits1_spec {oc : List Ob} (ho : okO oc = true) {i : Nat} {name : ByteArray} {arity : Int} (hi : oc[i]? = some (.cells 2 [[.s name, .i .i64 arity]])) (q : RelD) :
    ACallsQ Try.prog 78 [.agg [.s q.name, .i .i64 q.arity, .sl 1 (tups q.tuples)], .ptr i 0 0] oc (.b (q.name.toList == name.toList && (q.arity == arity))) := by
  have hi' := fun l => app_get l hi
  refine ACalls_of' (n := 16) (rs := [.tmp 3]) (show Try.prog.funcs[78]? = some Try.f78 by kernel_rfl) rfl rfl rfl (by simp) (by decide +kernel) ?_
  repeat (first | refine nav ?_ | refine bo ?_)
  (refine wr fun K R hK hR => ?_; simp (maxSteps := 10000000) only [go_sem]; (try go_ints); (repeat refine And.intro side ?_); (first | refine hK _ ?_ | refine hR _ _ ?_); clear hK hR K R)
  repeat (first | refine nav ?_ | refine bo ?_)
  (refine wr fun K R hK hR => ?_; simp (maxSteps := 10000000) only [go_sem, hi']; (try go_ints); (try simp only [go_sem, hi']); (repeat refine And.intro side ?_); (first | refine hK _ ?_ | refine hR _ _ ?_); clear hK hR K R)
  repeat (first | refine nav ?_ | refine bo ?_)
  refine endQ_quiet (by simp only [go_sem] <;> exact rfl) (Le.of_eq ?_) (by assumption) rfl
  rfl
def tupOk (n a : Int) (l : List (List Int)) (i : Nat) : Bool :=
  let t := l.getD i []
  ((t.length : Int) == a) && !(t.any fun x => decide (x < 0) || decide (x ≥ n)) && (decide (i = 0) || decide (cmpL (l.getD (i - 1) []) t < 0))
def tuplesF (n a : Int) (l : List (List Int)) : Bool := (List.range l.length).all (tupOk n a l)
structure RelD.Ok (r : RelD) : Prop where
  name : r.name.size ≤ 1099511627776
  len : r.tuples.length ≤ 1099511627776
  tup : ∀ t ∈ r.tuples, t.length ≤ 1099511627776
theorem tuples_spec (n : Int) (r : RelD) (hr : r.Ok) : ACallsD Try.prog 75 [.i .i64 n, .agg [.s r.name, .i .i64 r.arity, .sl 1 (tups r.tuples)]] (.b (tuplesF n r.arity r.tuples)) := by
  refine ACalls_of' (n := 42) (rs := [.tmp 4]) (show Try.prog.funcs[75]? = some Try.f75 by kernel_rfl) rfl rfl rfl (by simp) (by decide +kernel) ?_
  repeat (first | refine nav ?_ | refine bo ?_)
  (refine wr fun K R hK hR => ?_; simp (maxSteps := 10000000) only [go_sem]; (try go_ints); (repeat refine And.intro side ?_); (first | refine hK _ ?_ | refine hR _ _ ?_); clear hK hR K R)
  repeat (first | refine nav ?_ | refine bo ?_)
  (refine wr fun K R hK hR => ?_; simp (maxSteps := 10000000) only [go_sem]; (try go_ints); (repeat refine And.intro side ?_); (first | refine hK _ ?_ | refine hR _ _ ?_); clear hK hR K R)
  repeat (first | refine nav ?_ | refine bo ?_)
  refine W_for 10 42 [5, 6] (fun m t o => ∃ k : Nat, [Ob.cells 3 [[.s r.name, .i .i64 r.arity, .sl 1 (tups r.tuples)]]] = o ∧ t 10 = .i .i64 k ∧ m = r.tuples.length - k ∧ k ≤ r.tuples.length ∧ ∀ i < k, tupOk n r.arity r.tuples i = true) r.tuples.length ⟨0, rfl, by simp only [go_sem] <;> rfl, by omega, Nat.zero_le _, by simp⟩ ?_
  rintro m t o ⟨k, rfl, h10, rfl, hk, hi⟩
  have hlen := hr.len
  repeat (first | refine nav ?_ | refine bo ?_)
  (refine wr fun K R hK hR => ?_; simp (maxSteps := 10000000) only [go_sem, h10]; (try go_ints); (try simp only [go_sem, h10]); (repeat refine And.intro side ?_); (first | refine hK _ ?_ | refine hR _ _ ?_); clear hK hR K R)
  repeat (first | refine nav ?_ | refine bo ?_)
  refine W_cond (by simp only [go_sem] <;> exact rfl) (fun hb => ?_) (fun hb => ?_)
  · simp at hb
    obtain ⟨x, hx⟩ : ∃ x, r.tuples[k]? = some x := ⟨_, List.getElem?_eq_getElem hb⟩
    have hxl := hr.tup x (List.mem_of_getElem? hx)
    repeat (first | refine nav ?_ | refine bo ?_)
    (refine wr fun K R hK hR => ?_; simp (maxSteps := 10000000) only [go_sem, h10, tups_get hx]; (try go_ints); (try simp only [go_sem, h10, tups_get hx]); (repeat refine And.intro side ?_); (first | refine hK _ ?_ | refine hR _ _ ?_); clear hK hR K R)
    repeat (first | refine nav ?_ | refine bo ?_)
    (refine wr fun K R hK hR => ?_; simp (maxSteps := 10000000) only [go_sem, h10]; (try go_ints); (try simp only [go_sem, h10]); (repeat refine And.intro side ?_); (first | refine hK _ ?_ | refine hR _ _ ?_); clear hK hR K R)
    have e1 : ((k : Int) - 1).toNat = k - 1 := by omega
    obtain ⟨y, hy⟩ : ∃ y, r.tuples[k - 1]? = some y := ⟨_, List.getElem?_eq_getElem (by omega)⟩
    have hyl := hr.tup y (List.mem_of_getElem? hy)
    refine RL_callDg rfl (by simp only [go_sem] <;> exact rfl) (fun e => elements_spec n x hxl) rfl rfl rfl (fun e => by (try simp only [go_sem] at e); simp only [go_sem, e] <;> (try simp only [go_sem]) <;> first | exact LeA.refl _ | exact Le.refl _) rfl rfl ?_
    (refine rr fun K R hK hR => ?_; simp (maxSteps := 10000000) only [go_sem, e1, tups_get hy]; (try go_ints); (try simp only [go_sem, e1, tups_get hy]); (repeat refine And.intro side ?_); (first | refine hK _ ?_ | refine hR _ _ ?_); clear hK hR K R)
    refine RL_callDg rfl (by simp only [go_sem] <;> exact rfl) (fun e => compare_spec y x hyl hxl) rfl rfl rfl (fun e => by (try simp only [go_sem] at e); simp only [go_sem, e] <;> (try simp only [go_sem]) <;> first | exact LeA.refl _ | exact Le.refl _) rfl rfl ?_
    (refine rr fun K R hK hR => ?_; simp (maxSteps := 10000000) only [go_sem]; (try go_ints); (repeat refine And.intro side ?_); (first | refine hK _ ?_ | refine hR _ _ ?_); clear hK hR K R)
    have hspec : tupOk n r.arity r.tuples k = (((x.length : Int) == r.arity) && !(x.any fun x => decide (x < 0) || decide (x ≥ n)) && (decide (k = 0) || decide (cmpL y x < 0))) := by
      simp only [tupOk, List.getD_eq_getElem?_getD, hx, hy, Option.getD_some]
    have hk0 : decide ((k : Int) > 0) = !decide (k = 0) := by
      by_cases h : k = 0
      · simp [h]
      · simp [h]; omega
    have hcm : decide (cmpL y x ≥ 0) = !decide (cmpL y x < 0) := by
      by_cases h : cmpL y x < 0
      · simp [h]
      · simp [h]; omega
    repeat (first | refine nav ?_ | refine bo ?_)
    refine W_cond (by simp only [go_sem] <;> exact rfl) (fun hc => ?_) (fun hc => ?_)
    · rw [hk0, hcm] at hc
      have hno : tupOk n r.arity r.tuples k = false := by
        rw [hspec]
        revert hc
        simp only [bne]
        cases ((x.length : Int) == r.arity) <;> cases (x.any fun x => decide (x < 0) || decide (x ≥ n)) <;> cases decide (k = 0) <;> cases decide (cmpL y x < 0) <;> simp
      repeat (first | refine nav ?_ | refine bo ?_)
      (refine wr fun K R hK hR => ?_; simp (maxSteps := 10000000) only [go_sem]; (try go_ints); (repeat refine And.intro side ?_); (first | refine hK _ ?_ | refine hR _ _ ?_); clear hK hR K R)
      repeat (first | refine nav ?_ | refine bo ?_)
      refine endQ_data (by simp only [go_sem] <;> exact rfl) (Le.of_eq ?_) rfl
      rw [AV.b.injEq, eq_comm, tuplesF, List.all_eq_false]
      exact ⟨k, by simpa using hb, by simp [hno]⟩
    · rw [hk0, hcm] at hc
      have hyes : tupOk n r.arity r.tuples k = true := by
        rw [hspec]
        revert hc
        simp only [bne]
        cases ((x.length : Int) == r.arity) <;> cases (x.any fun x => decide (x < 0) || decide (x ≥ n)) <;> cases decide (k = 0) <;> cases decide (cmpL y x < 0) <;> simp
      repeat (first | refine nav ?_ | refine bo ?_)
      (refine wr fun K R hK hR => ?_; simp (maxSteps := 10000000) only [go_sem, h10]; (try go_ints); (try simp only [go_sem, h10]); (repeat refine And.intro side ?_); (first | refine hK _ ?_ | refine hR _ _ ?_); clear hK hR K R)
      refine forQ_normal (r.tuples.length - (k + 1)) (by omega) ⟨k + 1, ?_⟩
      ((try simp only [go_sem]); (repeat' refine And.intro ?_ ?_) <;> (try first | with_reducible rfl | omega | with_reducible assumption | (simp; done)))
      intro i hik
      rcases Nat.lt_succ_iff_lt_or_eq.1 hik with h | rfl
      · exact hi i h
      · exact hyes
  · simp at hb
    have : k = r.tuples.length := by omega
    subst this
    repeat (first | refine nav ?_ | refine bo ?_)
    (refine wr fun K R hK hR => ?_; simp (maxSteps := 10000000) only [go_sem]; (try go_ints); (repeat refine And.intro side ?_); (first | refine hK _ ?_ | refine hR _ _ ?_); clear hK hR K R)
    repeat (first | refine nav ?_ | refine bo ?_)
    refine endQ_data (by simp only [go_sem] <;> exact rfl) (Le.of_eq ?_) rfl
    rw [AV.b.injEq, eq_comm, tuplesF, List.all_eq_true]
    exact fun i hi' => hi i (by simpa using hi')
structure StrD.Ok (s : StrD) : Prop where
  len : s.rels.length ≤ 1099511627776
  rel : ∀ r ∈ s.rels, r.Ok
def relOk (n : Int) (r : RelD) : Bool := nameF r.name && decide (0 ≤ r.arity) && decide (r.arity ≤ 12) && decide (powL n 4096 r.arity.toNat 1 ≥ 0) && tuplesF n r.arity r.tuples
def validF (s : StrD) : Bool := decide (1 ≤ s.size) && decide (s.size ≤ 64) && decide (s.rels.length ≤ 8) && (List.range s.rels.length).all fun i =>
  match s.rels[i]? with
  | some r => relOk s.size r && !(s.rels.take i).any fun q => q.name.toList == r.name.toList
  | none => true
theorem valid_spec (s : StrD) (hs : s.Ok) : ACallsD Try.prog 59 [.agg [.i .i64 s.size, .sl 3 (rels s.rels)]] (.b (validF s)) := by
  refine ACalls_of' (n := 63) (rs := [.tmp 2]) (show Try.prog.funcs[59]? = some Try.f59 by kernel_rfl) rfl rfl rfl (by simp) (by decide +kernel) ?_
  repeat (first | refine nav ?_ | refine bo ?_)
  (refine wr fun K R hK hR => ?_; simp (maxSteps := 10000000) only [go_sem]; (try go_ints); (repeat refine And.intro side ?_); (first | refine hK _ ?_ | refine hR _ _ ?_); clear hK hR K R)
  repeat (first | refine nav ?_ | refine bo ?_)
  (refine wr fun K R hK hR => ?_; simp (maxSteps := 10000000) only [go_sem]; (try go_ints); (repeat refine And.intro side ?_); (first | refine hK _ ?_ | refine hR _ _ ?_); clear hK hR K R)
  repeat (first | refine nav ?_ | refine bo ?_)
  refine W_cond (by simp only [go_sem] <;> exact rfl) (fun hb => ?_) (fun hb => ?_)
  · simp only [Bool.or_eq_true, Bool.and_eq_true, Bool.not_eq_true', Bool.not_eq_false', Bool.and_eq_false_iff, Bool.or_eq_false_iff, decide_eq_true_eq, decide_eq_false_iff_not, Bool.not_eq_eq_eq_not, Bool.not_true, Bool.not_false] at hb
    repeat (first | refine nav ?_ | refine bo ?_)
    (refine wr fun K R hK hR => ?_; simp (maxSteps := 10000000) only [go_sem]; (try go_ints); (repeat refine And.intro side ?_); (first | refine hK _ ?_ | refine hR _ _ ?_); clear hK hR K R)
    repeat (first | refine nav ?_ | refine bo ?_)
    refine endQ_data (by simp only [go_sem] <;> exact rfl) (Le.of_eq ?_) rfl
    rw [AV.b.injEq, eq_comm, validF]
    rcases hb with (hb | hb) | hb
    · rw [decide_eq_false (show ¬ 1 ≤ s.size by omega)]; simp
    · rw [decide_eq_false (show ¬ s.size ≤ 64 by omega)]; simp
    · rw [decide_eq_false (show ¬ s.rels.length ≤ 8 by omega)]; simp
  · simp only [Bool.or_eq_true, Bool.and_eq_true, Bool.not_eq_true', Bool.not_eq_false', Bool.and_eq_false_iff, Bool.or_eq_false_iff, decide_eq_true_eq, decide_eq_false_iff_not, Bool.not_eq_eq_eq_not, Bool.not_true, Bool.not_false] at hb
    obtain ⟨⟨hb1, hb2⟩, hb3⟩ := hb
    repeat (first | refine nav ?_ | refine bo ?_)
    (refine wr fun K R hK hR => ?_; simp (maxSteps := 10000000) only [go_sem]; (try go_ints); (repeat refine And.intro side ?_); (first | refine hK _ ?_ | refine hR _ _ ?_); clear hK hR K R)
    repeat (first | refine nav ?_ | refine bo ?_)
    refine W_for 22 63 [3, 4] (fun m t o => ∃ k : Nat, okO o = true ∧ o[0]? = some (.cells 2 [[.i .i64 s.size, .sl 3 (rels s.rels)]]) ∧ t 22 = .i .i64 k ∧ m = s.rels.length - k ∧ k ≤ s.rels.length ∧ ∀ i < k, ∀ r, s.rels[i]? = some r → (relOk s.size r && !(s.rels.take i).any fun q => q.name.toList == r.name.toList) = true) s.rels.length ⟨0, rfl, rfl, by simp only [go_sem] <;> rfl, by omega, Nat.zero_le _, by simp⟩ ?_
    rintro m t o ⟨k, hok, h0, h22, rfl, hk, hi⟩
    have h0' := fun l => app_get l h0
    repeat (first | refine nav ?_ | refine bo ?_)
    (refine wr fun K R hK hR => ?_; simp (maxSteps := 10000000) only [go_sem, h22]; (try go_ints); (try simp only [go_sem, h22]); (repeat refine And.intro side ?_); (first | refine hK _ ?_ | refine hR _ _ ?_); clear hK hR K R)
    repeat (first | refine nav ?_ | refine bo ?_)
    refine W_cond (by simp only [go_sem] <;> exact rfl) (fun hb => ?_) (fun hb => ?_)
    · simp at hb
      obtain ⟨r, hr⟩ : ∃ r, s.rels[k]? = some r := ⟨_, List.getElem?_eq_getElem hb⟩
      have hro := hs.rel r (List.mem_of_getElem? hr)
      repeat (first | refine nav ?_ | refine bo ?_)
      (refine wr fun K R hK hR => ?_; simp (maxSteps := 10000000) only [go_sem, h22, rels_get hr]; (try go_ints); (try simp only [go_sem, h22, rels_get hr]); (repeat refine And.intro side ?_); (first | refine hK _ ?_ | refine hR _ _ ?_); clear hK hR K R)
      repeat (first | refine nav ?_ | refine bo ?_)
      (refine wr fun K R hK hR => ?_; simp (maxSteps := 10000000) only [go_sem]; (try go_ints); (repeat refine And.intro side ?_); (first | refine hK _ ?_ | refine hR _ _ ?_); clear hK hR K R)
      refine RL_callF (name_spec r.name hro.name) rfl rfl rfl (by first | (simp only [go_sem] <;> first | exact LeA.refl _ | exact Le.refl _) | exact LeA.refl _) rfl rfl ?_
      (refine rr fun K R hK hR => ?_; simp (maxSteps := 10000000) only [go_sem, h0']; (try go_ints); (try simp only [go_sem, h0']); (repeat refine And.intro side ?_); (first | refine hK _ ?_ | refine hR _ _ ?_); clear hK hR K R)
      refine RL_callDg rfl (by simp only [go_sem] <;> exact rfl) (fun e => power_spec s.size r.arity (by omega) (by omega) (by have := e; simp at this; omega) (by have := e; simp at this; omega)) rfl rfl rfl (fun e => by (try simp only [go_sem] at e); simp only [go_sem, e] <;> (try simp only [go_sem]) <;> first | exact LeA.refl _ | exact Le.refl _) rfl rfl ?_
      (refine rr fun K R hK hR => ?_; simp (maxSteps := 10000000) only [go_sem, h0']; (try go_ints); (try simp only [go_sem, h0']); (repeat refine And.intro side ?_); (first | refine hK _ ?_ | refine hR _ _ ?_); clear hK hR K R)
      refine RL_callDg rfl (by simp only [go_sem] <;> exact rfl) (fun e => tuples_spec s.size r hro) rfl rfl rfl (fun e => by (try simp only [go_sem] at e); simp only [go_sem, e] <;> (try simp only [go_sem]) <;> first | exact LeA.refl _ | exact Le.refl _) rfl rfl ?_
      (refine rr fun K R hK hR => ?_; simp (maxSteps := 10000000) only [go_sem]; (try go_ints); (repeat refine And.intro side ?_); (first | refine hK _ ?_ | refine hR _ _ ?_); clear hK hR K R)
      have hcm : decide (powL s.size 4096 r.arity.toNat 1 < 0) = !decide (powL s.size 4096 r.arity.toNat 1 ≥ 0) := by
        by_cases h : powL s.size 4096 r.arity.toNat 1 < 0
        · simp [h]
        · simp [h]; omega
      have hc1 : decide (r.arity < 0) = !decide (0 ≤ r.arity) := by
        by_cases h : r.arity < 0
        · simp [h]
        · simp [h]; omega
      have hc2 : decide (r.arity > 12) = !decide (r.arity ≤ 12) := by
        by_cases h : r.arity > 12
        · simp [h]
        · simp [h]; omega
      repeat (first | refine nav ?_ | refine bo ?_)
      refine W_cond (by simp only [go_sem, hcm, hc1, hc2] <;> exact rfl) (fun hc => ?_) (fun hc => ?_)
      · have hno : relOk s.size r = false := by
          rw [relOk]
          revert hc
          cases nameF r.name <;> cases decide (0 ≤ r.arity) <;> cases decide (r.arity ≤ 12) <;> cases decide (powL s.size 4096 r.arity.toNat 1 ≥ 0) <;> cases tuplesF s.size r.arity r.tuples <;> simp
        repeat (first | refine nav ?_ | refine bo ?_)
        (refine wr fun K R hK hR => ?_; simp (maxSteps := 10000000) only [go_sem]; (try go_ints); (repeat refine And.intro side ?_); (first | refine hK _ ?_ | refine hR _ _ ?_); clear hK hR K R)
        repeat (first | refine nav ?_ | refine bo ?_)
        refine endQ_data (by simp only [go_sem] <;> exact rfl) (Le.of_eq ?_) rfl
        rw [AV.b.injEq, eq_comm, validF]
        simp only [Bool.and_eq_false_iff]
        right
        rw [List.all_eq_false]
        exact ⟨k, by simpa using hb, by simp [hr, hno]⟩
      · have hyes : relOk s.size r = true := by
          rw [relOk]
          revert hc
          cases nameF r.name <;> cases decide (0 ≤ r.arity) <;> cases decide (r.arity ≤ 12) <;> cases decide (powL s.size 4096 r.arity.toNat 1 ≥ 0) <;> cases tuplesF s.size r.arity r.tuples <;> simp
        repeat (first | refine nav ?_ | refine bo ?_)
        (refine wr fun K R hK hR => ?_; simp (maxSteps := 10000000) only [go_sem, h0', rels_take]; (try go_ints); (try simp only [go_sem, h0', rels_take]); (repeat refine And.intro side ?_); (first | refine hK _ ?_ | refine hR _ _ ?_); clear hK hR K R)
        have hok2 : okO (o ++ [.cells 3 [[.s r.name, .i .i64 r.arity, .sl 1 (tups r.tuples)]]]) = true := okO_app hok rfl
        refine RL_callQ (containsRel_spec hok2 (by simp [AV.ltk]) rfl (fun q => q.name.toList == r.name.toList) (s.rels.take k) (by rw [List.length_take]; have := hs.len; omega) fun q _ => valid1_spec (i := o.length) hok2 (by simp) q) (by simp only [go_sem] <;> exact rfl) rfl rfl (by simp) (by simp only [go_sem]) hok2 (by simp [AV.ltk, AV.ltks]) rfl ?_
        (refine rr fun K R hK hR => ?_; simp (maxSteps := 10000000) only [go_sem]; (try go_ints); (repeat refine And.intro side ?_); (first | refine hK _ ?_ | refine hR _ _ ?_); clear hK hR K R)
        repeat (first | refine nav ?_ | refine bo ?_)
        refine W_cond (by simp only [go_sem] <;> exact rfl) (fun hd => ?_) (fun hd => ?_)
        · repeat (first | refine nav ?_ | refine bo ?_)
          (refine wr fun K R hK hR => ?_; simp (maxSteps := 10000000) only [go_sem]; (try go_ints); (repeat refine And.intro side ?_); (first | refine hK _ ?_ | refine hR _ _ ?_); clear hK hR K R)
          repeat (first | refine nav ?_ | refine bo ?_)
          refine endQ_data (by simp only [go_sem] <;> exact rfl) (Le.of_eq ?_) rfl
          rw [AV.b.injEq, eq_comm, validF]
          simp only [Bool.and_eq_false_iff]
          right
          rw [List.all_eq_false]
          exact ⟨k, by simpa using hb, by simp only [hr, hd]; simp⟩
        · repeat (first | refine nav ?_ | refine bo ?_)
          (refine wr fun K R hK hR => ?_; simp (maxSteps := 10000000) only [go_sem, h22]; (try go_ints); (try simp only [go_sem, h22]); (repeat refine And.intro side ?_); (first | refine hK _ ?_ | refine hR _ _ ?_); clear hK hR K R)
          refine forQ_normal (s.rels.length - (k + 1)) (by omega) ⟨k + 1, hok2, h0' _, ?_⟩
          ((try simp only [go_sem]); (repeat' refine And.intro ?_ ?_) <;> (try first | with_reducible rfl | omega | with_reducible assumption | (simp; done)))
          intro i hik r' hr'
          rcases Nat.lt_succ_iff_lt_or_eq.1 hik with h | rfl
          · exact hi i h r' hr'
          · rw [hr] at hr'
            obtain rfl := Option.some.inj hr'
            rw [hyes, hd]; rfl
    · simp at hb
      have : k = s.rels.length := by omega
      subst this
      repeat (first | refine nav ?_ | refine bo ?_)
      (refine wr fun K R hK hR => ?_; simp (maxSteps := 10000000) only [go_sem]; (try go_ints); (repeat refine And.intro side ?_); (first | refine hK _ ?_ | refine hR _ _ ?_); clear hK hR K R)
      repeat (first | refine nav ?_ | refine bo ?_)
      refine endQ_data (by simp only [go_sem] <;> exact rfl) (Le.of_eq ?_) rfl
      rw [AV.b.injEq, eq_comm, validF, decide_eq_true (show 1 ≤ s.size by omega), decide_eq_true (show s.size ≤ 64 by omega), decide_eq_true (show s.rels.length ≤ 8 by omega)]
      simp only [Bool.true_and]
      rw [List.all_eq_true]
      intro i hi'
      have hlt : i < s.rels.length := by simpa using hi'
      rw [List.getElem?_eq_getElem hlt]
      exact hi i hlt _ (List.getElem?_eq_getElem hlt)
structure SymD where
  name : ByteArray
  arity : Int
def syms (l : List SymD) : List (List AV) := l.map fun x => [.s x.name, .i .i64 x.arity]
theorem syms_len (l : List SymD) : (syms l).length = l.length := by simp [syms]
theorem syms_get {l : List SymD} {i : Nat} {x : SymD} (h : l[i]? = some x) : (syms l).getD i [] = [.s x.name, .i .i64 x.arity] := by simp [syms, h]
attribute [go_sem] syms_len
def fitsF (l : List SymD) (s : StrD) : Bool := l.all fun x => s.rels.any fun q => q.name.toList == x.name.toList && (q.arity == x.arity)
theorem fits_spec (l : List SymD) (hl : l.length ≤ 1099511627776) (s : StrD) (hs : s.Ok) : ACallsD Try.prog 60 [.sl 2 (syms l), .agg [.i .i64 s.size, .sl 3 (rels s.rels)]] (.b (fitsF l s)) := by
  refine ACalls_of' (n := 19) (rs := [.tmp 4]) (show Try.prog.funcs[60]? = some Try.f60 by kernel_rfl) rfl rfl rfl (by simp) (by decide +kernel) ?_
  repeat (first | refine nav ?_ | refine bo ?_)
  (refine wr fun K R hK hR => ?_; simp (maxSteps := 10000000) only [go_sem]; (try go_ints); (repeat refine And.intro side ?_); (first | refine hK _ ?_ | refine hR _ _ ?_); clear hK hR K R)
  repeat (first | refine nav ?_ | refine bo ?_)
  (refine wr fun K R hK hR => ?_; simp (maxSteps := 10000000) only [go_sem]; (try go_ints); (repeat refine And.intro side ?_); (first | refine hK _ ?_ | refine hR _ _ ?_); clear hK hR K R)
  repeat (first | refine nav ?_ | refine bo ?_)
  refine W_for 9 19 [6] (fun m t o => ∃ k : Nat, okO o = true ∧ o[0]? = some (.cells 2 [[.i .i64 s.size, .sl 3 (rels s.rels)]]) ∧ t 9 = .i .i64 k ∧ m = l.length - k ∧ k ≤ l.length ∧ ∀ i < k, ∀ x, l[i]? = some x → (s.rels.any fun q => q.name.toList == x.name.toList && (q.arity == x.arity)) = true) l.length ⟨0, rfl, rfl, by simp only [go_sem] <;> rfl, by omega, Nat.zero_le _, by simp⟩ ?_
  rintro m t o ⟨k, hok, h0, h9, rfl, hk, hi⟩
  have h0' := fun l => app_get l h0
  repeat (first | refine nav ?_ | refine bo ?_)
  (refine wr fun K R hK hR => ?_; simp (maxSteps := 10000000) only [go_sem, h9]; (try go_ints); (try simp only [go_sem, h9]); (repeat refine And.intro side ?_); (first | refine hK _ ?_ | refine hR _ _ ?_); clear hK hR K R)
  repeat (first | refine nav ?_ | refine bo ?_)
  refine W_cond (by simp only [go_sem] <;> exact rfl) (fun hb => ?_) (fun hb => ?_)
  · simp at hb
    obtain ⟨x, hx⟩ : ∃ x, l[k]? = some x := ⟨_, List.getElem?_eq_getElem hb⟩
    repeat (first | refine nav ?_ | refine bo ?_)
    (refine wr fun K R hK hR => ?_; simp (maxSteps := 10000000) only [go_sem, h9, syms_get hx]; (try go_ints); (try simp only [go_sem, h9, syms_get hx]); (repeat refine And.intro side ?_); (first | refine hK _ ?_ | refine hR _ _ ?_); clear hK hR K R)
    repeat (first | refine nav ?_ | refine bo ?_)
    (refine wr fun K R hK hR => ?_; simp (maxSteps := 10000000) only [go_sem, h0']; (try go_ints); (try simp only [go_sem, h0']); (repeat refine And.intro side ?_); (first | refine hK _ ?_ | refine hR _ _ ?_); clear hK hR K R)
    have hok2 : okO (o ++ [.cells 2 [[.s x.name, .i .i64 x.arity]]]) = true := okO_app hok rfl
    refine RL_callQ (containsRel_spec hok2 (by simp [AV.ltk]) rfl (fun q => q.name.toList == x.name.toList && (q.arity == x.arity)) s.rels hs.len fun q _ => fits1_spec (i := o.length) hok2 (by simp) q) (by simp only [go_sem] <;> exact rfl) rfl rfl (by simp) (by simp only [go_sem]) hok2 (by simp [AV.ltk, AV.ltks]) rfl ?_
    (refine rr fun K R hK hR => ?_; simp (maxSteps := 10000000) only [go_sem]; (try go_ints); (repeat refine And.intro side ?_); (first | refine hK _ ?_ | refine hR _ _ ?_); clear hK hR K R)
    repeat (first | refine nav ?_ | refine bo ?_)
    refine W_cond (by simp only [go_sem] <;> exact rfl) (fun hd => ?_) (fun hd => ?_)
    · simp only [Bool.not_eq_true'] at hd
      repeat (first | refine nav ?_ | refine bo ?_)
      (refine wr fun K R hK hR => ?_; simp (maxSteps := 10000000) only [go_sem]; (try go_ints); (repeat refine And.intro side ?_); (first | refine hK _ ?_ | refine hR _ _ ?_); clear hK hR K R)
      repeat (first | refine nav ?_ | refine bo ?_)
      refine endQ_data (by simp only [go_sem] <;> exact rfl) (Le.of_eq ?_) rfl
      rw [AV.b.injEq, eq_comm, fitsF, List.all_eq_false]
      exact ⟨x, List.mem_of_getElem? hx, by rw [hd]; simp⟩
    · simp only [Bool.not_eq_false'] at hd
      repeat (first | refine nav ?_ | refine bo ?_)
      (refine wr fun K R hK hR => ?_; simp (maxSteps := 10000000) only [go_sem, h9]; (try go_ints); (try simp only [go_sem, h9]); (repeat refine And.intro side ?_); (first | refine hK _ ?_ | refine hR _ _ ?_); clear hK hR K R)
      refine forQ_normal (l.length - (k + 1)) (by omega) ⟨k + 1, hok2, h0' _, ?_⟩
      ((try simp only [go_sem]); (repeat' refine And.intro ?_ ?_) <;> (try first | with_reducible rfl | omega | with_reducible assumption | (simp; done)))
      intro i hik y hy
      rcases Nat.lt_succ_iff_lt_or_eq.1 hik with h | rfl
      · exact hi i h y hy
      · rw [hx] at hy
        obtain rfl := Option.some.inj hy
        exact hd
  · simp at hb
    have : k = l.length := by omega
    subst this
    repeat (first | refine nav ?_ | refine bo ?_)
    (refine wr fun K R hK hR => ?_; simp (maxSteps := 10000000) only [go_sem]; (try go_ints); (repeat refine And.intro side ?_); (first | refine hK _ ?_ | refine hR _ _ ?_); clear hK hR K R)
    repeat (first | refine nav ?_ | refine bo ?_)
    refine endQ_data (by simp only [go_sem] <;> exact rfl) (Le.of_eq ?_) rfl
    rw [AV.b.injEq, eq_comm, fitsF, List.all_eq_true]
    intro x hx
    obtain ⟨i, hi'⟩ := List.getElem?_of_mem hx
    exact hi i (List.getElem?_eq_some_iff.1 hi').1 x hi'
end Go.AW
/-
Contracts: graphOf.
-/
namespace Go.AW
open Go Go.Proofs TyTry Go.IntWalk
set_option linter.unusedSimpArgs false
set_option linter.unusedVariables false
set_option maxRecDepth 10000

def isE (r : RelD) : Bool := r.name.toList == (⟨#[69]⟩ : ByteArray).toList && (r.arity == 2)
def isAr (r : RelD) : Bool := r.name.toList == (⟨#[65]⟩ : ByteArray).toList && (r.arity == 1)
abbrev GD := List (List Int) × List Bool
def gT (r : RelD) (g : GD) (t : List Int) : GD :=
  if isE r then (g.1.modify (t.getD 0 0).toNat (· ++ [t.getD 1 0]), g.2) else if isAr r then (g.1, g.2.set (t.getD 0 0).toNat true) else g
def gR (g : GD) (r : RelD) : GD := r.tuples.foldl (gT r) g
def graphD (s : StrD) : GD := s.rels.foldl gR (List.replicate s.size.toNat [], List.replicate s.size.toNat false)
def bools (l : List Bool) : List (List AV) := l.map fun b => [.b b]
theorem bools_len (l : List Bool) : (bools l).length = l.length := by simp [bools]
theorem bools_get {l : List Bool} {i : Nat} {x : Bool} (h : l[i]? = some x) : (bools l).getD i [] = [.b x] := by simp [bools, h]
attribute [go_sem] bools_len
def ownC (l : List Int) : AV := if l = [] then .nsl else .own 1 (ints l)
theorem ownC_nil : ownC [] = .nsl := rfl
theorem ownC_ne {l : List Int} (h : l ≠ []) : ownC l = .own 1 (ints l) := if_neg h
def ownR (l : List (List Int)) : List (List AV) := l.map fun x => [ownC x]
theorem ownR_len (l : List (List Int)) : (ownR l).length = l.length := by simp [ownR]
theorem ownR_get {l : List (List Int)} {i : Nat} {x : List Int} (h : l[i]? = some x) : (ownR l).getD i [] = [ownC x] := by simp [ownR, h]
attribute [go_sem] ownR_len
theorem ownR_modify {l : List (List Int)} {p : Nat} {row0 : List Int} {x : Int} {v : AV} (h : l[p]? = some row0) (hv : v = ownC (row0 ++ [x])) : (ownR l).modify p (fun row => row.set 0 v) = ownR (l.modify p (· ++ [x])) := by
  apply List.ext_getElem?
  intro i
  simp only [ownR, List.getElem?_modify, List.getElem?_map]
  by_cases hi : p = i
  · subst hi
    simp [h, hv]
  · simp [hi]
theorem ownR_modify2 (l : List (List AV)) (p : Nat) (a b : AV) : (l.modify p (fun row => row.set 0 a)).modify p (fun row => row.set 0 b) = l.modify p (fun row => row.set 0 b) := by
  apply List.ext_getElem?
  intro i
  simp only [List.getElem?_modify]
  by_cases hi : p = i
  · subst hi
    cases l[p]? <;> simp
  · simp [hi]
theorem ownR_modify_get {l : List (List Int)} {p : Nat} {row0 : List Int} (h : l[p]? = some row0) (v : AV) : ((ownR l).modify p (fun row => row.set 0 v)).getD p [] = [v] := by
  rw [List.getD_eq_getElem?_getD, List.getElem?_modify]
  simp [ownR, h]
theorem bools_set (l : List Bool) (p : Nat) (b : Bool) : (bools l).modify p (fun row => row.set 0 (.b b)) = bools (l.set p b) := by
  apply List.ext_getElem?
  intro i
  simp only [bools, List.getElem?_modify, List.getElem?_map, List.getElem?_set]
  by_cases hi : p = i
  · subst hi
    cases h : l[p]? with
    | none => have := List.getElem?_eq_none_iff.1 h; simp; omega
    | some x => have := (List.getElem?_eq_some_iff.1 h).1; simp [this]
  · simp [hi]
theorem mem_modify {l : List (List Int)} {p : Nat} {x : Int} {r : List Int} (h : r ∈ l.modify p (· ++ [x])) : r ∈ l ∨ ∃ r0 ∈ l, r = r0 ++ [x] := by
  obtain ⟨i, hi⟩ := List.getElem?_of_mem h
  rw [List.getElem?_modify] at hi
  cases hq : l[i]? with
  | none => rw [hq] at hi; simp at hi
  | some y =>
    rw [hq] at hi
    have hy := List.mem_of_getElem? hq
    by_cases hp : p = i
    · simp [hp] at hi; exact .inr ⟨y, hy, hi.symm⟩
    · simp [hp] at hi; exact .inl (hi ▸ hy)
theorem okO_set {o : List Ob} {i : Nat} {x : Ob} (h : okO o = true) (hx : x.ltk o.length = true) : okO (o.set i x) = true := by
  unfold okO at h ⊢
  rw [List.length_set, List.all_eq_true]
  rw [List.all_eq_true] at h
  intro y hy
  rcases List.mem_or_eq_of_mem_set hy with hy | rfl
  · exact h y hy
  · exact hx
theorem ownR_ltk (l : List (List Int)) (k : Nat) : (Ob.cells 1 (ownR l)).ltk k = true := by
  simp only [Ob.ltk, ownR, List.all_map, List.all_eq_true, Function.comp, List.mem_map]
  rintro x _ y hy
  simp only [List.mem_singleton] at hy
  subst hy
  unfold ownC
  split <;> rfl
theorem bools_ltk (l : List Bool) (k : Nat) : (Ob.cells 1 (bools l)).ltk k = true := by
  simp [Ob.ltk, bools, AV.ltk]
theorem gT_len (r : RelD) (g : GD) (t : List Int) : (gT r g t).1.length = g.1.length ∧ (gT r g t).2.length = g.2.length := by
  unfold gT
  split
  · simp
  · split <;> simp
theorem valid_tuple {s : StrD} (h : validF s = true) {r : RelD} (hr : r ∈ s.rels) {t : List Int} (ht : t ∈ r.tuples) : (t.length : Int) = r.arity ∧ ∀ x ∈ t, 0 ≤ x ∧ x < s.size := by
  obtain ⟨i, hi⟩ := List.getElem?_of_mem hr
  obtain ⟨j, hj⟩ := List.getElem?_of_mem ht
  have hil := (List.getElem?_eq_some_iff.1 hi).1
  have hjl := (List.getElem?_eq_some_iff.1 hj).1
  simp only [validF, Bool.and_eq_true, List.all_eq_true, List.mem_range] at h
  have h1 := h.2 i hil
  rw [hi] at h1
  simp only [Bool.and_eq_true, relOk, tuplesF, List.all_eq_true, List.mem_range] at h1
  have h2 := h1.1.2 j hjl
  simp only [tupOk, List.getD_eq_getElem?_getD, hj, Option.getD_some, Bool.and_eq_true, beq_iff_eq, Bool.not_eq_true', List.any_eq_false, Bool.or_eq_true, decide_eq_true_eq] at h2
  refine ⟨h2.1.1, fun x hx => ?_⟩
  have := h2.1.2 x hx
  omega
theorem valid_size {s : StrD} (h : validF s = true) : 1 ≤ s.size ∧ s.size ≤ 64 ∧ s.rels.length ≤ 8 := by
  simp only [validF, Bool.and_eq_true, decide_eq_true_eq] at h
  exact ⟨h.1.1.1, h.1.1.2, h.1.2⟩

def graphA (g : GD) : AV := .agg [.sl 1 (tups g.1), .sl 1 (bools g.2)]
def graphR (s : StrD) (l : List SymD) : AV := if validF s = false then .tup [graphA ([], []), .i .i64 1] else if fitsF l s = false then .tup [graphA ([], []), .i .i64 4] else .tup [graphA (graphD s), .i .i64 0]
theorem graphOf_spec (s : StrD) (hs : s.Ok) (l : List SymD) (hl : l.length ≤ 1099511627776) :
    ACallsD Try.prog 34 [.agg [.i .i64 s.size, .sl 3 (rels s.rels)], .sl 2 (syms l)] (graphR s l) := by
  refine ACalls_of' (n := 86) (rs := [.cell 4 70, .tmp 5]) (show Try.prog.funcs[34]? = some Try.f34 by kernel_rfl) rfl rfl rfl (by simp) (by decide +kernel) ?_
  repeat (first | refine nav ?_ | refine bo ?_)
  (refine wr fun K R hK hR => ?_; simp (maxSteps := 10000000) only [go_sem]; (try go_ints); (repeat refine And.intro side ?_); (first | refine hK _ ?_ | refine hR _ _ ?_); clear hK hR K R)
  repeat (first | refine nav ?_ | refine bo ?_)
  (refine wr fun K R hK hR => ?_; simp (maxSteps := 10000000) only [go_sem]; (try go_ints); (repeat refine And.intro side ?_); (first | refine hK _ ?_ | refine hR _ _ ?_); clear hK hR K R)
  refine RL_callF (valid_spec s hs) rfl rfl rfl (by first | (simp only [go_sem] <;> first | exact LeA.refl _ | exact Le.refl _) | exact LeA.refl _) rfl rfl ?_
  (refine rr fun K R hK hR => ?_; simp (maxSteps := 10000000) only [go_sem]; (try go_ints); (repeat refine And.intro side ?_); (first | refine hK _ ?_ | refine hR _ _ ?_); clear hK hR K R)
  repeat (first | refine nav ?_ | refine bo ?_)
  refine W_cond (by simp only [go_sem] <;> exact rfl) (fun hv => ?_) (fun hv => ?_)
  · simp only [Bool.not_eq_true'] at hv
    rw [show graphR s l = .tup [graphA ([], []), .i .i64 1] by simp [graphR, hv]]
    repeat (first | refine nav ?_ | refine bo ?_)
    (refine wr fun K R hK hR => ?_; simp (maxSteps := 10000000) only [go_sem]; (try go_ints); (repeat refine And.intro side ?_); (first | refine hK _ ?_ | refine hR _ _ ?_); clear hK hR K R)
    repeat (first | refine nav ?_ | refine bo ?_)
    refine endQ_data (by simp only [go_sem] <;> exact rfl) (Le.of_eq ?_) rfl
    rfl
  · simp only [Bool.not_eq_false'] at hv
    repeat (first | refine nav ?_ | refine bo ?_)
    (refine wr fun K R hK hR => ?_; simp (maxSteps := 10000000) only [go_sem]; (try go_ints); (repeat refine And.intro side ?_); (first | refine hK _ ?_ | refine hR _ _ ?_); clear hK hR K R)
    refine RL_callF (fits_spec l hl s hs) rfl rfl rfl (by first | (simp only [go_sem] <;> first | exact LeA.refl _ | exact Le.refl _) | exact LeA.refl _) rfl rfl ?_
    (refine rr fun K R hK hR => ?_; simp (maxSteps := 10000000) only [go_sem]; (try go_ints); (repeat refine And.intro side ?_); (first | refine hK _ ?_ | refine hR _ _ ?_); clear hK hR K R)
    repeat (first | refine nav ?_ | refine bo ?_)
    refine W_cond (by simp only [go_sem] <;> exact rfl) (fun hf => ?_) (fun hf => ?_)
    · simp only [Bool.not_eq_true'] at hf
      rw [show graphR s l = .tup [graphA ([], []), .i .i64 4] by simp [graphR, hv, hf]]
      repeat (first | refine nav ?_ | refine bo ?_)
      (refine wr fun K R hK hR => ?_; simp (maxSteps := 10000000) only [go_sem]; (try go_ints); (repeat refine And.intro side ?_); (first | refine hK _ ?_ | refine hR _ _ ?_); clear hK hR K R)
      repeat (first | refine nav ?_ | refine bo ?_)
      refine endQ_data (by simp only [go_sem] <;> exact rfl) (Le.of_eq ?_) rfl
      rfl
    · simp only [Bool.not_eq_false'] at hf
      rw [show graphR s l = .tup [graphA (graphD s), .i .i64 0] by simp [graphR, hv, hf]]
      obtain ⟨z1, z2, z3⟩ := valid_size hv
      obtain ⟨n, hn⟩ := Int.eq_ofNat_of_zero_le (show 0 ≤ s.size by omega)
      refine W_skip ?_
      refine seqQ_normal ?_
      refine W_then (fun st => st.t 2 = .ptr 0 0 0 ∧ st.t 4 = .ptr 1 0 0 ∧ st.t 6 = .ptr 4 0 0 ∧
        st.o = [.cells 2 [[.i .i64 s.size, .sl 3 (rels s.rels)]], .cells 2 [[.own 1 [], .own 1 []]], .cells 1 (List.replicate n [.nsl]), .cells 1 (List.replicate n [.b false]), .cells 2 [[.ref 2 0 n, .ref 3 0 n]]]) ?_ ?_
      · refine W_drawA (by decide +kernel) [] [0, 1, 3, 4] [2, 5, 7] [6, 8] [[], [0], [0, 1], [], [3], [3, 4], [4, 3, 5, 1, 0, 2], [], [2, 0, 1, 5, 3, 4, 6, 7]] [[2, 5, 7], [2, 7, 5], [5, 2, 7], [5, 7, 2], [7, 2, 5], [7, 5, 2]] (by decide +kernel) (by decide +kernel) (by decide) ?_
        intro tt htt
        simp only [List.mem_cons, List.not_mem_nil, or_false] at htt
        have hn64 : n ≤ 64 := by omega
        rcases htt with rfl | rfl | rfl | rfl | rfl | rfl
        · simp only [List.filterMap_cons, List.filterMap_nil, List.getElem?_cons_zero, List.getElem?_cons_succ, List.cons_append, List.nil_append]
          (refine D_reg fun K R hK hR => ?_; simp (maxSteps := 10000000) only [go_sem, hn]; (try go_ints); (try simp only [go_sem, hn]); (repeat refine And.intro side ?_); (first | refine hK _ ?_ | refine hR _ _ ?_); clear hK hR K R)
          skip
          refine Fin.id ?_
          refine thenQ_normal ?_
          simp [swS, swO, sw, AV.ren, AV.rens, Ob.ren, List.range, List.range.loop, upd, hn]
        · simp only [List.filterMap_cons, List.filterMap_nil, List.getElem?_cons_zero, List.getElem?_cons_succ, List.cons_append, List.nil_append]
          (refine D_reg fun K R hK hR => ?_; simp (maxSteps := 10000000) only [go_sem, hn]; (try go_ints); (try simp only [go_sem, hn]); (repeat refine And.intro side ?_); (first | refine hK _ ?_ | refine hR _ _ ?_); clear hK hR K R)
          refine Fin.sw 3 4 (by simp) (by simp) (by simp [swS, swO]) (by simp [swS, swO]) ?_
          refine Fin.id ?_
          refine thenQ_normal ?_
          simp [swS, swO, sw, AV.ren, AV.rens, Ob.ren, List.range, List.range.loop, upd, hn]
        · simp only [List.filterMap_cons, List.filterMap_nil, List.getElem?_cons_zero, List.getElem?_cons_succ, List.cons_append, List.nil_append]
          (refine D_reg fun K R hK hR => ?_; simp (maxSteps := 10000000) only [go_sem, hn]; (try go_ints); (try simp only [go_sem, hn]); (repeat refine And.intro side ?_); (first | refine hK _ ?_ | refine hR _ _ ?_); clear hK hR K R)
          refine Fin.sw 2 3 (by simp) (by simp) (by simp [swS, swO]) (by simp [swS, swO]) ?_
          refine Fin.id ?_
          refine thenQ_normal ?_
          simp [swS, swO, sw, AV.ren, AV.rens, Ob.ren, List.range, List.range.loop, upd, hn]
        · simp only [List.filterMap_cons, List.filterMap_nil, List.getElem?_cons_zero, List.getElem?_cons_succ, List.cons_append, List.nil_append]
          (refine D_reg fun K R hK hR => ?_; simp (maxSteps := 10000000) only [go_sem, hn]; (try go_ints); (try simp only [go_sem, hn]); (repeat refine And.intro side ?_); (first | refine hK _ ?_ | refine hR _ _ ?_); clear hK hR K R)
          refine Fin.sw 2 4 (by simp) (by simp) (by simp [swS, swO]) (by simp [swS, swO]) ?_
          refine Fin.sw 3 4 (by simp) (by simp) (by simp [swS, swO]) (by simp [swS, swO]) ?_
          refine Fin.id ?_
          refine thenQ_normal ?_
          simp [swS, swO, sw, AV.ren, AV.rens, Ob.ren, List.range, List.range.loop, upd, hn]
        · simp only [List.filterMap_cons, List.filterMap_nil, List.getElem?_cons_zero, List.getElem?_cons_succ, List.cons_append, List.nil_append]
          (refine D_reg fun K R hK hR => ?_; simp (maxSteps := 10000000) only [go_sem, hn]; (try go_ints); (try simp only [go_sem, hn]); (repeat refine And.intro side ?_); (first | refine hK _ ?_ | refine hR _ _ ?_); clear hK hR K R)
          refine Fin.sw 2 3 (by simp) (by simp) (by simp [swS, swO]) (by simp [swS, swO]) ?_
          refine Fin.sw 3 4 (by simp) (by simp) (by simp [swS, swO]) (by simp [swS, swO]) ?_
          refine Fin.id ?_
          refine thenQ_normal ?_
          simp [swS, swO, sw, AV.ren, AV.rens, Ob.ren, List.range, List.range.loop, upd, hn]
        · simp only [List.filterMap_cons, List.filterMap_nil, List.getElem?_cons_zero, List.getElem?_cons_succ, List.cons_append, List.nil_append]
          (refine D_reg fun K R hK hR => ?_; simp (maxSteps := 10000000) only [go_sem, hn]; (try go_ints); (try simp only [go_sem, hn]); (repeat refine And.intro side ?_); (first | refine hK _ ?_ | refine hR _ _ ?_); clear hK hR K R)
          refine Fin.sw 2 4 (by simp) (by simp) (by simp [swS, swO]) (by simp [swS, swO]) ?_
          refine Fin.id ?_
          refine thenQ_normal ?_
          simp [swS, swO, sw, AV.ren, AV.rens, Ob.ren, List.range, List.range.loop, upd, hn]
      · rintro ⟨t, o⟩ ⟨h2, h4, h6, ho⟩
        simp only at h2 h4 h6 ho
        subst ho
        repeat (first | refine nav ?_ | refine bo ?_)
        (refine wr fun K R hK hR => ?_; simp (maxSteps := 10000000) only [go_sem, h2]; (try go_ints); (try simp only [go_sem, h2]); (repeat refine And.intro side ?_); (first | refine hK _ ?_ | refine hR _ _ ?_); clear hK hR K R)
        repeat (first | refine nav ?_ | refine bo ?_)
        refine W_for 30 85 [8, 10] (fun m t o => ∃ (k : Nat) (g : GD), okO o = true ∧ o[0]? = some (.cells 2 [[.i .i64 s.size, .sl 3 (rels s.rels)]]) ∧ o[1]? = some (.cells 2 [[.own 1 [], .own 1 []]]) ∧
          o[2]? = some (.cells 1 (ownR g.1)) ∧ o[3]? = some (.cells 1 (bools g.2)) ∧ o[4]? = some (.cells 2 [[.ref 2 0 n, .ref 3 0 n]]) ∧ t 30 = .i .i64 k ∧ m = s.rels.length - k ∧ k ≤ s.rels.length ∧
          g.1.length = n ∧ g.2.length = n ∧ (∀ l ∈ g.1, l.length ≤ k * 1099511627776) ∧ (s.rels.drop k).foldl gR g = graphD s) s.rels.length
          ⟨0, (List.replicate n [], List.replicate n false), ?_, rfl, rfl, by simp [ownR, ownC], by simp [bools], rfl, by simp only [go_sem] <;> rfl, by omega, Nat.zero_le _, by simp, by simp, ?_, ?_⟩ ?_
        · simp [okO, Ob.ltk, AV.ltk]
        · intro l hl
          simp only [List.mem_replicate] at hl
          simp [hl.2]
        · simp [graphD, hn]
        rintro m t' o ⟨k, g, hok, o0, o1, o2, o3, o4, h30, rfl, hk, g1, g2, gb, hi⟩
        repeat (first | refine nav ?_ | refine bo ?_)
        (refine wr fun K R hK hR => ?_; simp (maxSteps := 10000000) only [go_sem, h30]; (try go_ints); (try simp only [go_sem, h30]); (repeat refine And.intro side ?_); (first | refine hK _ ?_ | refine hR _ _ ?_); clear hK hR K R)
        repeat (first | refine nav ?_ | refine bo ?_)
        refine W_cond (by simp only [go_sem] <;> exact rfl) (fun hb => ?_) (fun hb => ?_)
        · simp at hb
          obtain ⟨r, hr⟩ : ∃ r, s.rels[k]? = some r := ⟨_, List.getElem?_eq_getElem hb⟩
          have hrm := List.mem_of_getElem? hr
          have hro := hs.rel r hrm
          have hrl := hro.len
          rw [drop_cons hr, List.foldl_cons] at hi
          have a0 := fun l => app_get l o0
          repeat (first | refine nav ?_ | refine bo ?_)
          (refine wr fun K R hK hR => ?_; simp (maxSteps := 10000000) only [go_sem, h30, rels_get hr]; (try go_ints); (try simp only [go_sem, h30, rels_get hr]); (repeat refine And.intro side ?_); (first | refine hK _ ?_ | refine hR _ _ ?_); clear hK hR K R)
          repeat (first | refine nav ?_ | refine bo ?_)
          (refine wr fun K R hK hR => ?_; simp (maxSteps := 10000000) only [go_sem]; (try go_ints); (repeat refine And.intro side ?_); (first | refine hK _ ?_ | refine hR _ _ ?_); clear hK hR K R)
          repeat (first | refine nav ?_ | refine bo ?_)
          refine W_for 37 84 [10] (fun m t o' => ∃ (j : Nat) (g' : GD), okO o' = true ∧ o'[0]? = some (.cells 2 [[.i .i64 s.size, .sl 3 (rels s.rels)]]) ∧ o'[1]? = some (.cells 2 [[.own 1 [], .own 1 []]]) ∧
            o'[2]? = some (.cells 1 (ownR g'.1)) ∧ o'[3]? = some (.cells 1 (bools g'.2)) ∧ o'[4]? = some (.cells 2 [[.ref 2 0 n, .ref 3 0 n]]) ∧ o'[o.length]? = some (.cells 3 [[.s r.name, .i .i64 r.arity, .sl 1 (tups r.tuples)]]) ∧
            t 37 = .i .i64 j ∧ m = r.tuples.length - j ∧ j ≤ r.tuples.length ∧
            g'.1.length = n ∧ g'.2.length = n ∧ (∀ l ∈ g'.1, l.length ≤ k * 1099511627776 + j) ∧ (r.tuples.drop j).foldl (gT r) g' = gR g r) r.tuples.length
            ⟨0, g, okO_app hok rfl, a0 _, app_get _ o1, app_get _ o2, app_get _ o3, app_get _ o4, by simp, by simp only [go_sem] <;> rfl, by omega, Nat.zero_le _, g1, g2, by simpa using gb, by simp [gR]⟩ ?_
          rintro m t2 o' ⟨j, g', hok', p0, p1, p2, p3, p4, p5, h37, rfl, hj, q1, q2, qb, hgi⟩
          have hne : o.length ≠ 2 ∧ o.length ≠ 3 := by
            have := (List.getElem?_eq_some_iff.1 o4).1
            omega
          repeat (first | refine nav ?_ | refine bo ?_)
          (refine wr fun K R hK hR => ?_; simp (maxSteps := 10000000) only [go_sem, h37]; (try go_ints); (try simp only [go_sem, h37]); (repeat refine And.intro side ?_); (first | refine hK _ ?_ | refine hR _ _ ?_); clear hK hR K R)
          repeat (first | refine nav ?_ | refine bo ?_)
          refine W_cond (by simp only [go_sem] <;> exact rfl) (fun hb => ?_) (fun hb => ?_)
          · simp at hb
            obtain ⟨tt, htt⟩ : ∃ x, r.tuples[j]? = some x := ⟨_, List.getElem?_eq_getElem hb⟩
            have htm := List.mem_of_getElem? htt
            obtain ⟨vt1, vt2⟩ := valid_tuple hv hrm htm
            rw [drop_cons htt, List.foldl_cons] at hgi
            repeat (first | refine nav ?_ | refine bo ?_)
            (refine wr fun K R hK hR => ?_; simp (maxSteps := 10000000) only [go_sem, h37, tups_get htt]; (try go_ints); (try simp only [go_sem, h37, tups_get htt]); (repeat refine And.intro side ?_); (first | refine hK _ ?_ | refine hR _ _ ?_); clear hK hR K R)
            repeat (first | refine nav ?_ | refine bo ?_)
            (refine wr fun K R hK hR => ?_; simp (maxSteps := 10000000) only [go_sem, p5]; (try go_ints); (try simp only [go_sem, p5]); (repeat refine And.intro side ?_); (first | refine hK _ ?_ | refine hR _ _ ?_); clear hK hR K R)
            repeat (first | refine nav ?_ | refine bo ?_)
            refine W_cond (by simp only [go_sem] <;> exact rfl) (fun hE => ?_) (fun hE => ?_)
            · have hE' : isE r = true := hE
              obtain ⟨x0, x1, rfl⟩ : ∃ x0 x1, tt = [x0, x1] := by
                simp only [isE, Bool.and_eq_true, beq_iff_eq] at hE'
                rw [hE'.2] at vt1
                match tt, vt1 with
                | [x0, x1], _ => exact ⟨x0, x1, rfl⟩
                | [], h => simp at h
                | [_], h => simp at h
                | _ :: _ :: _ :: _, h => simp at h; omega
              obtain ⟨y0, y1⟩ := vt2 x0 (by simp)
              obtain ⟨p, rfl⟩ := Int.eq_ofNat_of_zero_le y0
              have hpn : p < n := by omega
              obtain ⟨row, hrow⟩ : ∃ row, g'.1[p]? = some row := ⟨_, List.getElem?_eq_getElem (by omega)⟩
              have hrb := qb row (List.mem_of_getElem? hrow)
              have hG : gT r g' [↑p, x1] = (g'.1.modify p (· ++ [x1]), g'.2) := by simp [gT, hE']
              rw [hG] at hgi
              repeat (first | refine nav ?_ | refine bo ?_)
              by_cases hrow0 : row = []
              · subst hrow0
                have hs2 : ∀ (x : Ob) (i : Nat), (o'.set 2 x)[i]? = if i = 2 then some x else o'[i]? := fun x i => set_get p2
                (refine W_dreg (by decide +kernel) [61] [0, 1, 2, 3, 4, 5, 6, 7, 8, 9, 10, 12, 13, 14, 15, 11, 16, 17, 18] [[], [0], [], [2], [2, 3], [], [5], [], [7], [7, 8], [8, 7, 9, 5, 6], [6, 5, 9, 7, 8, 10], [], [12], [12, 13], [13, 12, 14], [14, 12, 13, 15, 10, 8, 7, 9, 5, 6, 11], [16, 15, 14, 13, 12, 11, 10, 9, 8, 7, 6, 5, 3, 2, 4, 0, 1], [1, 0, 4, 2, 3, 5, 6, 7, 8, 9, 10, 11, 12, 13, 14, 15, 16, 17]] (by decide +kernel) rfl fun K R hK hR => ?_; simp only [List.filterMap_cons, List.filterMap_nil, List.getElem?_cons_zero, List.getElem?_cons_succ, List.cons_append, List.nil_append]; simp (maxSteps := 10000000) only [go_sem, h6, p4, p2, ints_get (l := [↑p, x1]) (i := 0) rfl, ints_get (l := [↑p, x1]) (i := 1) rfl, ownR_get hrow, ownC_nil]; (try go_ints); (try simp only [go_sem, h6, p4, p2, ints_get (l := [↑p, x1]) (i := 0) rfl, ints_get (l := [↑p, x1]) (i := 1) rfl, ownR_get hrow, ownC_nil]); (repeat refine And.intro side ?_); (first | refine hK _ ?_ | refine hR _ _ ?_); clear hK hR K R)
                rw [ownR_modify (x := x1) (v := .own 1 [[.i .i64 x1]]) hrow rfl]
                repeat (first | refine nav ?_ | refine bo ?_)
                (refine wr fun K R hK hR => ?_; simp (maxSteps := 10000000) only [go_sem, h37]; (try go_ints); (try simp only [go_sem, h37]); (repeat refine And.intro side ?_); (first | refine hK _ ?_ | refine hR _ _ ?_); clear hK hR K R)
                refine forQ_normal (r.tuples.length - (j + 1)) (by omega) ⟨j + 1, (g'.1.modify p (· ++ [x1]), g'.2), okO_set hok' (ownR_ltk _ _), ?_⟩
                ((try simp only [go_sem, hs2]); (repeat' refine And.intro ?_ ?_) <;> (try first | with_reducible rfl | omega | with_reducible assumption | (simp; done)))
                · simpa [hne.1] using p5
                · simpa using q1
                · intro l hl
                  rcases mem_modify hl with h | ⟨r0, h, rfl⟩
                  · have := qb l h; omega
                  · have := qb r0 h; simp only [List.length_append, List.length_cons, List.length_nil]; omega
              · have hs2 : ∀ (x : Ob) (i : Nat), (o'.set 2 x)[i]? = if i = 2 then some x else o'[i]? := fun x i => set_get p2
                (refine W_dreg (by decide +kernel) [61] [0, 1, 2, 3, 4, 5, 6, 7, 8, 9, 10, 12, 13, 14, 15, 11, 16, 17, 18] [[], [0], [], [2], [2, 3], [], [5], [], [7], [7, 8], [8, 7, 9, 5, 6], [6, 5, 9, 7, 8, 10], [], [12], [12, 13], [13, 12, 14], [14, 12, 13, 15, 10, 8, 7, 9, 5, 6, 11], [16, 15, 14, 13, 12, 11, 10, 9, 8, 7, 6, 5, 3, 2, 4, 0, 1], [1, 0, 4, 2, 3, 5, 6, 7, 8, 9, 10, 11, 12, 13, 14, 15, 16, 17]] (by decide +kernel) rfl fun K R hK hR => ?_; simp only [List.filterMap_cons, List.filterMap_nil, List.getElem?_cons_zero, List.getElem?_cons_succ, List.cons_append, List.nil_append]; simp (maxSteps := 10000000) only [go_sem, h6, p4, p2, ints_get (l := [↑p, x1]) (i := 0) rfl, ints_get (l := [↑p, x1]) (i := 1) rfl, ownR_get hrow, ownC_ne hrow0, hs2, List.set_set, List.length_modify, ownR_modify_get hrow, ownR_modify2]; (try go_ints); (try simp only [go_sem, h6, p4, p2, ints_get (l := [↑p, x1]) (i := 0) rfl, ints_get (l := [↑p, x1]) (i := 1) rfl, ownR_get hrow, ownC_ne hrow0, hs2, List.set_set, List.length_modify, ownR_modify_get hrow, ownR_modify2]); (repeat refine And.intro side ?_); (first | refine hK _ ?_ | refine hR _ _ ?_); clear hK hR K R)
                rw [ownR_modify (x := x1) hrow (by rw [ownC_ne (by simp)]; simp [ints])]
                repeat (first | refine nav ?_ | refine bo ?_)
                (refine wr fun K R hK hR => ?_; simp (maxSteps := 10000000) only [go_sem, h37]; (try go_ints); (try simp only [go_sem, h37]); (repeat refine And.intro side ?_); (first | refine hK _ ?_ | refine hR _ _ ?_); clear hK hR K R)
                refine forQ_normal (r.tuples.length - (j + 1)) (by omega) ⟨j + 1, (g'.1.modify p (· ++ [x1]), g'.2), okO_set hok' (ownR_ltk _ _), ?_⟩
                ((try simp only [go_sem, hs2]); (repeat' refine And.intro ?_ ?_) <;> (try first | with_reducible rfl | omega | with_reducible assumption | (simp; done)))
                · simpa [hne.1] using p5
                · simpa using q1
                · intro l hl
                  rcases mem_modify hl with h | ⟨r0, h, rfl⟩
                  · have := qb l h; omega
                  · have := qb r0 h; simp only [List.length_append, List.length_cons, List.length_nil]; omega
            · have hE' : isE r = false := hE
              repeat (first | refine nav ?_ | refine bo ?_)
              (refine wr fun K R hK hR => ?_; simp (maxSteps := 10000000) only [go_sem, p5]; (try go_ints); (try simp only [go_sem, p5]); (repeat refine And.intro side ?_); (first | refine hK _ ?_ | refine hR _ _ ?_); clear hK hR K R)
              repeat (first | refine nav ?_ | refine bo ?_)
              refine W_cond (by simp only [go_sem] <;> exact rfl) (fun hA => ?_) (fun hA => ?_)
              · have hA' : isAr r = true := hA
                obtain ⟨x0, rfl⟩ : ∃ x0, tt = [x0] := by
                  simp only [isAr, Bool.and_eq_true, beq_iff_eq] at hA'
                  rw [hA'.2] at vt1
                  match tt, vt1 with
                  | [x0], _ => exact ⟨x0, rfl⟩
                  | [], h => simp at h
                  | _ :: _ :: _, h => simp at h; omega
                obtain ⟨y0, y1⟩ := vt2 x0 (by simp)
                obtain ⟨p, rfl⟩ := Int.eq_ofNat_of_zero_le y0
                have hpn : p < n := by omega
                obtain ⟨row, hrow⟩ : ∃ row, g'.2[p]? = some row := ⟨_, List.getElem?_eq_getElem (by omega)⟩
                have hG : gT r g' [↑p] = (g'.1, g'.2.set p true) := by simp [gT, hE', hA']
                rw [hG] at hgi
                have hs3 : ∀ (x : Ob) (i : Nat), (o'.set 3 x)[i]? = if i = 3 then some x else o'[i]? := fun x i => set_get p3
                repeat (first | refine nav ?_ | refine bo ?_)
                (refine W_dreg (by decide +kernel) [] [0, 1, 2, 3, 4, 5, 6] [[], [0], [], [2], [2, 3], [3, 2, 4, 0, 1], [1, 0, 4, 2, 3, 5]] (by decide +kernel) rfl fun K R hK hR => ?_; simp only [List.filterMap_cons, List.filterMap_nil, List.getElem?_cons_zero, List.getElem?_cons_succ, List.cons_append, List.nil_append]; simp (maxSteps := 10000000) only [go_sem, h6, p4, p3, ints_get (l := [↑p]) (i := 0) rfl, bools_get hrow, bools_set]; (try go_ints); (try simp only [go_sem, h6, p4, p3, ints_get (l := [↑p]) (i := 0) rfl, bools_get hrow, bools_set]); (repeat refine And.intro side ?_); (first | refine hK _ ?_ | refine hR _ _ ?_); clear hK hR K R)
                repeat (first | refine nav ?_ | refine bo ?_)
                (refine wr fun K R hK hR => ?_; simp (maxSteps := 10000000) only [go_sem, h37]; (try go_ints); (try simp only [go_sem, h37]); (repeat refine And.intro side ?_); (first | refine hK _ ?_ | refine hR _ _ ?_); clear hK hR K R)
                refine forQ_normal (r.tuples.length - (j + 1)) (by omega) ⟨j + 1, (g'.1, g'.2.set p true), okO_set hok' (bools_ltk _ _), ?_⟩
                ((try simp only [go_sem, hs3]); (repeat' refine And.intro ?_ ?_) <;> (try first | with_reducible rfl | omega | with_reducible assumption | (simp; done)))
                · simpa [hne.2] using p5
                · simpa using q2
                · intro l hl
                  have := qb l hl; omega
              · have hA' : isAr r = false := hA
                have hG : gT r g' tt = g' := by simp [gT, hE', hA']
                rw [hG] at hgi
                repeat (first | refine nav ?_ | refine bo ?_)
                (refine wr fun K R hK hR => ?_; simp (maxSteps := 10000000) only [go_sem, h37]; (try go_ints); (try simp only [go_sem, h37]); (repeat refine And.intro side ?_); (first | refine hK _ ?_ | refine hR _ _ ?_); clear hK hR K R)
                refine forQ_normal (r.tuples.length - (j + 1)) (by omega) ⟨j + 1, g', hok', ?_⟩
                ((try simp only [go_sem]); (repeat' refine And.intro ?_ ?_) <;> (try first | with_reducible rfl | omega | with_reducible assumption | (simp; done)))
                · intro l hl
                  have := qb l hl; omega
          · simp at hb
            have : j = r.tuples.length := by omega
            subst this
            simp only [List.drop_length, List.foldl_nil] at hgi
            subst hgi
            rw [mix_mix rfl]
            repeat (first | refine nav ?_ | refine bo ?_)
            (refine wr fun K R hK hR => ?_; simp (maxSteps := 10000000) only [go_sem, h30]; (try go_ints); (try simp only [go_sem, h30]); (repeat refine And.intro side ?_); (first | refine hK _ ?_ | refine hR _ _ ?_); clear hK hR K R)
            refine forQ_normal (s.rels.length - (k + 1)) (by omega) ⟨k + 1, gR g r, hok', ?_⟩
            ((try simp only [go_sem]); (repeat' refine And.intro ?_ ?_) <;> (try first | with_reducible rfl | omega | with_reducible assumption | (simp; done)))
            intro l hl
            have := qb l hl
            omega
        · simp at hb
          have : k = s.rels.length := by omega
          subst this
          simp only [List.drop_length, List.foldl_nil] at hi
          subst hi
          repeat (first | refine nav ?_ | refine bo ?_)
          (refine wr fun K R hK hR => ?_; simp (maxSteps := 10000000) only [go_sem, h4, h6, o4, o1]; (try go_ints); (try simp only [go_sem, h4, h6, o4, o1]); (repeat refine And.intro side ?_); (first | refine hK _ ?_ | refine hR _ _ ?_); clear hK hR K R)
          refine seqQ_normal ?_
          have hs1 : ∀ (x : Ob) (i : Nat), (o.set 1 x)[i]? = if i = 1 then some x else o[i]? := fun x i => set_get o1
          refine W_freeze 2 (sz := 1) (rows := ownR (graphD s).1) (by simp only [hs1]; simpa using o2) ?_ ?_
          · simp only [ownR, List.all_map, List.all_eq_true, Function.comp]
            rintro x _ y hy
            simp only [List.mem_singleton] at hy
            subst hy
            unfold ownC
            split <;> rfl
          have e2 : (ownR (graphD s).1).map (fun r => r.map AV.dat) = (graphD s).1.map fun l => [(ownC l).dat] := by simp [ownR, Function.comp_def]
          have e3 : (bools (graphD s).2).map (fun r => r.map AV.dat) = bools (graphD s).2 := by simp [bools, Function.comp_def, AV.dat]
          refine W_freeze 3 (sz := 1) (rows := bools (graphD s).2) ?_ ?_ ?_
          · simp [frS, hs1, o3, Ob.unref, bools, AV.unref, Function.comp_def, List.getElem?_set]
          · simp [bools, AV.dat, AV.ltk, AV.plain]
          refine W_ret ?_
          have hlen1 : 1 < o.length := (List.getElem?_eq_some_iff.1 o1).1
          refine endQ_data (r := .tup [.agg [.sl 1 (((graphD s).1.map fun l => [(ownC l).dat])), .sl 1 (bools (graphD s).2)], .i .i64 0]) ?_ (Le.tup (LeL.cons (fun w Y m v h => (Le.agg (LeL.cons (fun w Y m v h => (Le.sl ?_).v w Y m v h) (LeL.refl _))).v w Y m v h) (LeL.refl _))) rfl
          · simp [resAV, resL, res1, loadR, frS, hs1, Ob.unref, AV.unref, AV.unrefs, e2, e3, g1, g2, List.getElem?_set, upd, mix_at, inL, h4, ung, loadOk, loadAV, uk70, sz70, UK.agg, AV.dat, hlen1]
            have hb2 : (bools (graphD s).2).length = n := by rw [bools_len, g2]
            refine ⟨List.take_of_length_le (by simp [g1]), ?_⟩
            rw [if_pos (by omega), List.take_of_length_le (by omega)]; rfl
          · refine ⟨by simp [tups], fun i x y hx hy => ?_⟩
            simp only [tups, List.getElem?_map] at hx hy
            cases hq : (graphD s).1[i]? with
            | none => rw [hq] at hx; cases hx
            | some q =>
              rw [hq] at hx hy
              simp only [Option.map_some, Option.some.injEq] at hx hy
              subst hx hy
              refine LeL.cons (fun w Y m v h => ?_) LeL.nil
              unfold ownC at h
              split at h
              · rename_i e; subst e; exact (Le.nsl 1).v w Y m v h
              · exact h
end Go.AW
/-
Contracts: the games' small functions.
-/
namespace Go.AW
open Go Go.Proofs TyTry Go.IntWalk
set_option linter.unusedSimpArgs false
set_option linter.unusedVariables false
set_option maxRecDepth 10000

theorem edges_spec : ACallsD Try.prog 35 [] (.agg [.s ⟨#[69]⟩, .i .i64 2]) := by
  refine ACalls_of' (n := 2) (rs := [.cell 0 68]) (show Try.prog.funcs[35]? = some Try.f35 by kernel_rfl) rfl rfl rfl (by simp) (by decide +kernel) ?_
  repeat (first | refine nav ?_ | refine bo ?_)
  (refine wr fun K R hK hR => ?_; simp (maxSteps := 10000000) only [go_sem]; (try go_ints); (repeat refine And.intro side ?_); (first | refine hK _ ?_ | refine hR _ _ ?_); clear hK hR K R)
  repeat (first | refine nav ?_ | refine bo ?_)
  (refine wr fun K R hK hR => ?_; simp (maxSteps := 10000000) only [go_sem]; (try go_ints); (repeat refine And.intro side ?_); (first | refine hK _ ?_ | refine hR _ _ ?_); clear hK hR K R)
  repeat (first | refine nav ?_ | refine bo ?_)
  refine endQ_data (by simp only [go_sem] <;> exact rfl) (Le.of_eq ?_) rfl
  rfl
theorem universal_spec : ACallsD Try.prog 50 [] (.agg [.s ⟨#[65]⟩, .i .i64 1]) := by
  refine ACalls_of' (n := 2) (rs := [.cell 0 68]) (show Try.prog.funcs[50]? = some Try.f50 by kernel_rfl) rfl rfl rfl (by simp) (by decide +kernel) ?_
  repeat (first | refine nav ?_ | refine bo ?_)
  (refine wr fun K R hK hR => ?_; simp (maxSteps := 10000000) only [go_sem]; (try go_ints); (repeat refine And.intro side ?_); (first | refine hK _ ?_ | refine hR _ _ ?_); clear hK hR K R)
  repeat (first | refine nav ?_ | refine bo ?_)
  (refine wr fun K R hK hR => ?_; simp (maxSteps := 10000000) only [go_sem]; (try go_ints); (repeat refine And.intro side ?_); (first | refine hK _ ?_ | refine hR _ _ ?_); clear hK hR K R)
  repeat (first | refine nav ?_ | refine bo ?_)
  refine endQ_data (by simp only [go_sem] <;> exact rfl) (Le.of_eq ?_) rfl
  rfl
theorem always_spec {oc : List Ob} (ho : okO oc = true) (x y : Int) : ACallsQ Try.prog 54 [.i .i64 x, .i .i64 y] oc (.b true) := by
  refine ACalls_of' (n := 5) (rs := [.tmp 4]) (show Try.prog.funcs[54]? = some Try.f54 by kernel_rfl) rfl rfl rfl (by simp) (by decide +kernel) ?_
  repeat (first | refine nav ?_ | refine bo ?_)
  (refine wr fun K R hK hR => ?_; simp (maxSteps := 10000000) only [go_sem]; (try go_ints); (repeat refine And.intro side ?_); (first | refine hK _ ?_ | refine hR _ _ ?_); clear hK hR K R)
  repeat (first | refine nav ?_ | refine bo ?_)
  (refine wr fun K R hK hR => ?_; simp (maxSteps := 10000000) only [go_sem]; (try go_ints); (repeat refine And.intro side ?_); (first | refine hK _ ?_ | refine hR _ _ ?_); clear hK hR K R)
  repeat (first | refine nav ?_ | refine bo ?_)
  refine endQ_quiet0 (by simp only [go_sem] <;> exact rfl) (Le.of_eq ?_) (by assumption) rfl
  rfl
theorem wins1_spec {oc : List Ob} (ho : okO oc = true) {i : Nat} {s : StrD} (hi : oc[i]? = some (.cells 2 [[.i .i64 s.size, .sl 3 (rels s.rels)]])) (x : Int) :
    ACallsQ Try.prog 51 [.i .i64 x, .ptr i 0 0] oc (.b (decide (x < -1) || decide (x ≥ s.size))) := by
  refine ACalls_of' (n := 12) (rs := [.tmp 3]) (show Try.prog.funcs[51]? = some Try.f51 by kernel_rfl) rfl rfl rfl (by simp) (by decide +kernel) ?_
  repeat (first | refine nav ?_ | refine bo ?_)
  (refine wr fun K R hK hR => ?_; simp (maxSteps := 10000000) only [go_sem]; (try go_ints); (repeat refine And.intro side ?_); (first | refine hK _ ?_ | refine hR _ _ ?_); clear hK hR K R)
  repeat (first | refine nav ?_ | refine bo ?_)
  (refine wr fun K R hK hR => ?_; simp (maxSteps := 10000000) only [go_sem, hi]; (try go_ints); (try simp only [go_sem, hi]); (repeat refine And.intro side ?_); (first | refine hK _ ?_ | refine hR _ _ ?_); clear hK hR K R)
  repeat (first | refine nav ?_ | refine bo ?_)
  refine endQ_quiet0 (by simp only [go_sem] <;> exact rfl) (Le.of_eq ?_) (by assumption) rfl
  rfl
theorem wins2_spec {oc : List Ob} (ho : okO oc = true) {i : Nat} {l : List Int} (hi : oc[i]? = some (.cells 1 [[.sl 1 (ints l)]])) (x : Nat) (y : Int) {v : Int} (hv : l[x]? = some v) (hl : l.length ≤ 1099511627776) :
    ACallsQ Try.prog 53 [.i .i64 x, .i .i64 y, .ptr i 0 0] oc (.b (v == y)) := by
  have hlt := (List.getElem?_eq_some_iff.1 hv).1
  refine ACalls_of' (n := 12) (rs := [.tmp 5]) (show Try.prog.funcs[53]? = some Try.f53 by kernel_rfl) rfl rfl rfl (by simp) (by decide +kernel) ?_
  repeat (first | refine nav ?_ | refine bo ?_)
  (refine wr fun K R hK hR => ?_; simp (maxSteps := 10000000) only [go_sem]; (try go_ints); (repeat refine And.intro side ?_); (first | refine hK _ ?_ | refine hR _ _ ?_); clear hK hR K R)
  repeat (first | refine nav ?_ | refine bo ?_)
  (refine wr fun K R hK hR => ?_; simp (maxSteps := 10000000) only [go_sem, hi, ints_get hv]; (try go_ints); (try simp only [go_sem, hi, ints_get hv]); (repeat refine And.intro side ?_); (first | refine hK _ ?_ | refine hR _ _ ?_); clear hK hR K R)
  repeat (first | refine nav ?_ | refine bo ?_)
  refine endQ_quiet0 (by simp only [go_sem] <;> exact rfl) (Le.of_eq ?_) (by assumption) rfl
  rfl
theorem won2_spec {oc : List Ob} (ho : okO oc = true) {i : Nat} {l : List Bool} {a : AV} (ha : a = .own 1 (bools l) ∨ a = .sl 1 (bools l)) (hi : oc[i]? = some (.cells 1 [[a]])) (x : Nat) {v : Bool} (hv : l[x]? = some v) (hl : l.length ≤ 1099511627776) :
    ACallsQ Try.prog 69 [.i .i64 x, .ptr i 0 0] oc (.b (!v)) := by
  have hlt := (List.getElem?_eq_some_iff.1 hv).1
  have had : a.dat = .sl 1 (bools l) := by rcases ha with rfl | rfl <;> rfl
  refine ACalls_of' (n := 9) (rs := [.tmp 3]) (show Try.prog.funcs[69]? = some Try.f69 by kernel_rfl) rfl rfl rfl (by simp) (by decide +kernel) ?_
  repeat (first | refine nav ?_ | refine bo ?_)
  (refine wr fun K R hK hR => ?_; simp (maxSteps := 10000000) only [go_sem]; (try go_ints); (repeat refine And.intro side ?_); (first | refine hK _ ?_ | refine hR _ _ ?_); clear hK hR K R)
  repeat (first | refine nav ?_ | refine bo ?_)
  rcases ha with rfl | rfl
  · (refine wr fun K R hK hR => ?_; simp (maxSteps := 10000000) only [go_sem, hi, bools_get hv]; (try go_ints); (try simp only [go_sem, hi, bools_get hv]); (repeat refine And.intro side ?_); (first | refine hK _ ?_ | refine hR _ _ ?_); clear hK hR K R)
    repeat (first | refine nav ?_ | refine bo ?_)
    refine endQ_quiet0 (by simp only [go_sem] <;> exact rfl) (Le.of_eq ?_) (by assumption) rfl
    rfl
  · (refine wr fun K R hK hR => ?_; simp (maxSteps := 10000000) only [go_sem, hi, bools_get hv]; (try go_ints); (try simp only [go_sem, hi, bools_get hv]); (repeat refine And.intro side ?_); (first | refine hK _ ?_ | refine hR _ _ ?_); clear hK hR K R)
    repeat (first | refine nav ?_ | refine bo ?_)
    refine endQ_quiet0 (by simp only [go_sem] <;> exact rfl) (Le.of_eq ?_) (by assumption) rfl
    rfl
theorem won1_spec {oc : List Ob} (ho : okO oc = true) {i j k : Nat} {l : List Bool} {f : FuncId} {caps : List AV} (hi : oc[i]? = some (.cells 1 [[.own 1 (bools l)]])) (hj : oc[j]? = some (.cells 1 [[.fn f caps]])) (hc : caps.all (AV.ltk oc.length) = true) (hcd : caps.map AV.dat = caps)
    (x y : Nat) (hk : oc[k]? = some (.cells 1 [[.i .i64 x]])) {v b : Bool} (hv : l[y]? = some v) (hl : l.length ≤ 1099511627776) (hf : ACallsQ Try.prog f (.i .i64 x :: .i .i64 y :: caps) oc (.b b)) :
    ACallsQ Try.prog 68 [.i .i64 y, .ptr i 0 0, .ptr j 0 0, .ptr k 0 0] oc (.b (v && b)) := by
  have hlt := (List.getElem?_eq_some_iff.1 hv).1
  refine ACalls_of' (n := 16) (rs := [.tmp 5]) (show Try.prog.funcs[68]? = some Try.f68 by kernel_rfl) rfl rfl rfl (by simp) (by decide +kernel) ?_
  repeat (first | refine nav ?_ | refine bo ?_)
  (refine wr fun K R hK hR => ?_; simp (maxSteps := 10000000) only [go_sem]; (try go_ints); (repeat refine And.intro side ?_); (first | refine hK _ ?_ | refine hR _ _ ?_); clear hK hR K R)
  repeat (first | refine nav ?_ | refine bo ?_)
  (refine wr fun K R hK hR => ?_; simp (maxSteps := 10000000) only [go_sem, hi, hj, hk, bools_get hv]; (try go_ints); (try simp only [go_sem, hi, hj, hk, bools_get hv]); (repeat refine And.intro side ?_); (first | refine hK _ ?_ | refine hR _ _ ?_); clear hK hR K R)
  refine RL_callQg rfl (by simp only [go_sem] <;> exact rfl) (fun e => hf) (fun e => by (try simp only [go_sem] at e); simp only [go_sem, e] <;> exact rfl) rfl rfl (by simp) (fun e => by (try simp only [go_sem] at e); simp only [go_sem, e, hcd] <;> exact LeA.refl _) ho ?_ rfl ?_
  · simpa [AV.ltk] using hc
  (refine rr fun K R hK hR => ?_; simp (maxSteps := 10000000) only [go_sem]; (try go_ints); (repeat refine And.intro side ?_); (first | refine hK _ ?_ | refine hR _ _ ?_); clear hK hR K R)
  repeat (first | refine nav ?_ | refine bo ?_)
  refine endQ_quiet0 (by simp only [go_sem] <;> exact rfl) (Le.of_eq ?_) (by assumption) rfl
  rfl
theorem bools_ok (l : List Bool) : rowsOk true (bools l) = true := by
  simp [rowsOk, bools, AV.isOwn, AV.ltk, AV.plain]
theorem cloneB_spec {oc : List Ob} (ho : okO oc = true) {i : Nat} {l : List Bool} (hi : oc[i]? = some (.cells 1 (bools l))) (h1 : 0 < l.length) (h2 : l.length ≤ 1048576) :
    ACallsQ Try.prog 67 [.ref i 0 l.length] oc (.own 1 (bools l)) := by
  refine ACalls_of' (n := 8) (rs := [.tmp 2]) (show Try.prog.funcs[67]? = some Try.f67 by kernel_rfl) rfl rfl rfl (by simp) (by decide +kernel) ?_
  repeat (first | refine nav ?_ | refine bo ?_)
  (refine wr fun K R hK hR => ?_; simp (maxSteps := 10000000) only [go_sem]; (try go_ints); (repeat refine And.intro side ?_); (first | refine hK _ ?_ | refine hR _ _ ?_); clear hK hR K R)
  repeat (first | refine nav ?_ | refine bo ?_)
  (refine wr fun K R hK hR => ?_; simp (maxSteps := 10000000) only [go_sem, h1]; (try go_ints); (try simp only [go_sem, h1]); (repeat refine And.intro side ?_); (first | refine hK _ ?_ | refine hR _ _ ?_); clear hK hR K R)
  repeat (first | refine nav ?_ | refine bo ?_)
  refine W_cond (b := false) (by simp only [go_sem]) (fun hb => by cases hb) (fun _ => ?_)
  repeat (first | refine nav ?_ | refine bo ?_)
  have htk : List.take l.length (bools l) = bools l := List.take_of_length_le (by simp [bools])
  refine W_reg [5] fun K R hK hR => ?_
  simp only [go_sem, hi, bools_ok, Nat.le_refl, and_self, List.drop_zero, htk]
  refine ⟨by simp; omega, hK _ ?_⟩
  clear hK hR K R
  repeat (first | refine nav ?_ | refine bo ?_)
  refine endQ_quiet0 (by simp only [go_sem] <;> exact rfl) (Le.of_eq ?_) (by assumption) rfl
  rfl
/-- One round's new state, and whether anything turned. -/
def isF (may : Nat → Nat → Bool) (next : List (List Int)) (all was : List Bool) (x : Nat) : Bool :=
  if all.getD x false then !((next.getD x []).any fun y => !(was.getD y.toNat false)) else (next.getD x []).any fun y => was.getD y.toNat false && may x y.toNat
def stepI (may : Nat → Nat → Bool) (next : List (List Int)) (all was : List Bool) : List Bool := (List.range was.length).map fun x => was.getD x false || isF may next all was x
def stepR (may : Nat → Nat → Bool) (next : List (List Int)) (all was : List Bool) (d : Int) (r : List Int) : List Int := (List.range was.length).map fun x => if isF may next all was x && !(was.getD x false) then d else r.getD x 0
def stepM (may : Nat → Nat → Bool) (next : List (List Int)) (all was : List Bool) : Bool := (List.range was.length).any fun x => isF may next all was x && !(was.getD x false)
def wonL (may : Nat → Nat → Bool) (next : List (List Int)) (all : List Bool) : Nat → Int → List Bool → List Int → List Bool × List Int
  | 0, _, i, r => (i, r)
  | f + 1, d, i, r => if stepM may next all i then wonL may next all f (d + 1) (stepI may next all i) (stepR may next all i d r) else (stepI may next all i, stepR may next all i d r)
def wonF (may : Nat → Nat → Bool) (next : List (List Int)) (all : List Bool) (n : Nat) : List Bool × List Int := wonL may next all (n + 1) 1 ((List.replicate n false).set (n - 1) true) (List.replicate n 0)
def cntF (l : List Bool) : Nat := (l.filter fun b => !b).length
theorem step_get (may : Nat → Nat → Bool) (next : List (List Int)) (all was : List Bool) (d : Int) (r : List Int) (x : Nat) (h : x < was.length) :
    (stepI may next all was)[x]? = some (was.getD x false || isF may next all was x) ∧ (stepR may next all was d r)[x]? = some (if isF may next all was x && !(was.getD x false) then d else r.getD x 0) := by
  simp [stepI, stepR, h]
theorem step_len (may : Nat → Nat → Bool) (next : List (List Int)) (all was : List Bool) (d : Int) (r : List Int) : (stepI may next all was).length = was.length ∧ (stepR may next all was d r).length = was.length := by
  simp [stepI, stepR]
theorem cntF_le (l : List Bool) : cntF l ≤ l.length := List.length_filter_le _ _
/-- Where something turned, fewer are left. -/
theorem cntF_lt : ∀ (a b : List Bool), a.length = b.length → (∀ x : Nat, a[x]? = some true → b[x]? = some true) → (∃ x : Nat, a[x]? = some false ∧ b[x]? = some true) → cntF b < cntF a
  | [], [], _, _, ⟨x, h, _⟩ => by simp at h
  | [], _ :: _, h, _, _ => by simp at h
  | _ :: _, [], h, _, _ => by simp at h
  | a :: l, b :: r, hl, h1, ⟨x, h2, h3⟩ => by
    have hle : ∀ (a b : List Bool), a.length = b.length → (∀ x : Nat, a[x]? = some true → b[x]? = some true) → cntF b ≤ cntF a := by
      intro a
      induction a with
      | nil => intro b hb _; cases b with | nil => exact Nat.le_refl _ | cons => simp at hb
      | cons a l ih =>
        intro b hb h
        cases b with
        | nil => simp at hb
        | cons b r =>
          have h4 := ih r (by simpa using hb) (fun x hx => by have := h (x + 1) (by simpa using hx); simpa using this)
          have h0 := h 0
          simp only [List.getElem?_cons_zero, Option.some.injEq] at h0
          simp only [cntF, List.filter_cons] at h4 ⊢
          cases a <;> cases b <;> simp at h0 ⊢ <;> omega
    have hl' : l.length = r.length := by simpa using hl
    have h1' : ∀ x : Nat, l[x]? = some true → r[x]? = some true := fun x hx => by have := h1 (x + 1) (by simpa using hx); simpa using this
    cases x with
    | zero =>
      simp only [List.getElem?_cons_zero, Option.some.injEq] at h2 h3
      subst h2 h3
      have := hle l r hl' h1'
      simp only [cntF, List.filter_cons] at this ⊢
      simp; omega
    | succ x =>
      have := cntF_lt l r hl' h1' ⟨x, by simpa using h2, by simpa using h3⟩
      have h0 := h1 0
      simp only [List.getElem?_cons_zero, Option.some.injEq] at h0
      simp only [cntF, List.filter_cons] at this ⊢
      cases a <;> cases b <;> simp at h0 ⊢ <;> omega
theorem stepM_cnt {may : Nat → Nat → Bool} {next : List (List Int)} {all was : List Bool} (h : stepM may next all was = true) : cntF (stepI may next all was) < cntF was := by
  refine cntF_lt _ _ (step_len may next all was 0 []).1.symm ?_ ?_
  · intro x hx
    have hlt := (List.getElem?_eq_some_iff.1 hx).1
    rw [(step_get may next all was 0 [] x hlt).1, List.getD_eq_getElem?_getD, hx]
    simp
  · simp only [stepM, List.any_eq_true, List.mem_range] at h
    obtain ⟨x, hlt, hx⟩ := h
    simp only [Bool.and_eq_true, Bool.not_eq_true'] at hx
    refine ⟨x, ?_, ?_⟩
    · have := hx.2
      rw [List.getD_eq_getElem?_getD, List.getElem?_eq_getElem hlt] at this
      rw [List.getElem?_eq_getElem hlt]
      simpa using this
    · rw [(step_get may next all was 0 [] x hlt).1, hx.1]
      simp
end Go.AW
/-
Contracts: who wins where.
-/
namespace Go.AW
open Go Go.Proofs TyTry Go.IntWalk
set_option linter.unusedSimpArgs false
set_option linter.unusedVariables false
set_option maxRecDepth 10000

mutual
theorem unref_ltk {id sz : Nat} {rows : List (List AV)} {k : Nat} (hk : k ≤ id) : ∀ (a : AV), a.ltk k = true → a.unref id sz rows = a
  | .ref j _ _, h => by
    simp only [AV.ltk, decide_eq_true_eq] at h
    simp only [AV.unref]
    rw [if_neg]
    omega
  | .fn _ l, h => by simp only [AV.ltk] at h; simp only [AV.unref, unrefs_ltk hk l h]
  | .agg l, h => by simp only [AV.ltk] at h; simp only [AV.unref, unrefs_ltk hk l h]
  | .tup l, h => by simp only [AV.ltk] at h; simp only [AV.unref, unrefs_ltk hk l h]
  | .ifc _ v, h => by simp only [AV.ltk] at h; simp only [AV.unref, unref_ltk hk v h]
  | .gd _ v, h => by simp only [AV.ltk] at h; simp only [AV.unref, unref_ltk hk v h]
  | .any, _ | .b _, _ | .i _ _, _ | .s _, _ | .sl _ _, _ | .own _ _, _ | .ep _ _, _ | .nilp, _ | .nilm, _ | .nsl, _ | .esl, _ | .nilf, _ | .nili, _ | .ptr _ _ _, _ | .mp _, _ => rfl
theorem unrefs_ltk {id sz : Nat} {rows : List (List AV)} {k : Nat} (hk : k ≤ id) : ∀ (l : List AV), AV.ltks k l = true → AV.unrefs id sz rows l = l
  | [], _ => rfl
  | a :: l, h => by
    simp only [AV.ltks, Bool.and_eq_true] at h
    simp only [AV.unrefs, unref_ltk hk a h.1, unrefs_ltk hk l h.2]
end
theorem Ob.unref_ltk {id sz : Nat} {rows : List (List AV)} {k : Nat} (hk : k ≤ id) (x : Ob) (h : x.ltk k = true) : x.unref id sz rows = x := by
  cases x with
  | cells s rs =>
    simp only [Ob.ltk, List.all_eq_true] at h
    simp only [Ob.unref, Ob.cells.injEq, true_and]
    conv => rhs; rw [← List.map_id rs]
    refine List.map_congr_left fun r hr => ?_
    conv => rhs; rw [show (_root_.id r) = r from rfl, ← List.map_id r]
    exact List.map_congr_left fun a ha => AW.unref_ltk hk a (h r hr a ha)
  | mapo es =>
    simp only [Ob.ltk, List.all_eq_true, Bool.and_eq_true] at h
    simp only [Ob.unref, Ob.mapo.injEq]
    conv => rhs; rw [← List.map_id es]
    refine List.map_congr_left fun x hx => ?_
    rw [AW.unref_ltk hk _ (h x hx).1, AW.unref_ltk hk _ (h x hx).2]; rfl
  | _ => rfl
/-- The first objects stay as they are where one that came later becomes data. -/
theorem fr_take {oc o : List Ob} (hoc : okO oc = true) (hp : ∀ (k : Nat) (x : Ob), oc[k]? = some x → o[k]? = some x) {id sz : Nat} {rows : List (List AV)} (hid : oc.length ≤ id) {x : Ob} {k : Nat} (h : oc[k]? = some x) :
    ((o.set id (.frz sz rows)).map (Ob.unref id sz rows))[k]? = some x := by
  have hlt := (List.getElem?_eq_some_iff.1 h).1
  have hx := hp k x h
  rw [List.getElem?_map, List.getElem?_set_ne (by omega), hx]
  simp only [Option.map_some, Option.some.injEq]
  refine Ob.unref_ltk hid x ?_
  unfold okO at hoc
  rw [List.all_eq_true] at hoc
  exact hoc x (List.mem_of_getElem? h)
theorem take_of_pre {oc o : List Ob} (hp : ∀ (k : Nat) (x : Ob), oc[k]? = some x → o[k]? = some x) : ∃ ex, o = oc ++ ex := by
  refine ⟨o.drop oc.length, ?_⟩
  apply List.ext_getElem?
  intro k
  by_cases hk : k < oc.length
  · rw [List.getElem?_append_left hk]
    rw [hp k oc[k] (List.getElem?_eq_getElem hk), List.getElem?_eq_getElem hk]
  · rw [List.getElem?_append_right (by omega), List.getElem?_drop]
    congr 1
    omega
/-- A round's state after its first x. -/
def inI (may : Nat → Nat → Bool) (next : List (List Int)) (all was : List Bool) (k : Nat) : List Bool := (List.range was.length).map fun x => was.getD x false || (decide (x < k) && isF may next all was x)
def inR (may : Nat → Nat → Bool) (next : List (List Int)) (all was : List Bool) (d : Int) (r : List Int) (k : Nat) : List Int := (List.range was.length).map fun x => if decide (x < k) && (isF may next all was x && !(was.getD x false)) then d else r.getD x 0
def inM (may : Nat → Nat → Bool) (next : List (List Int)) (all was : List Bool) (k : Nat) : Bool := (List.range k).any fun x => isF may next all was x && !(was.getD x false)
section
variable {may : Nat → Nat → Bool} {next : List (List Int)} {all was : List Bool} {d : Int} {r : List Int} {k : Nat}
theorem inI_len : (inI may next all was k).length = was.length := by simp [inI]
theorem inR_len : (inR may next all was d r k).length = was.length := by simp [inR]
theorem inI_zero : inI may next all was 0 = was := by
  apply List.ext_getElem?
  intro i
  simp only [inI, List.getElem?_map]
  by_cases h : i < was.length
  · simp [List.getElem?_range h, h]
  · simp [h]
theorem inR_zero (hr : r.length = was.length) : inR may next all was d r 0 = r := by
  apply List.ext_getElem?
  intro i
  simp only [inR, List.getElem?_map]
  by_cases h : i < was.length
  · simp [List.getElem?_range h, h, hr]
  · simp [h, hr]
theorem inM_zero : inM may next all was 0 = false := rfl
theorem inM_succ : inM may next all was (k + 1) = (inM may next all was k || (isF may next all was k && !(was.getD k false))) := by
  simp [inM, List.range_succ]
theorem inM_full : inM may next all was was.length = stepM may next all was := rfl
theorem inI_full : inI may next all was was.length = stepI may next all was := by
  unfold inI stepI
  refine List.map_congr_left fun x hx => ?_
  simp [List.mem_range.1 hx]
theorem inR_full : inR may next all was d r was.length = stepR may next all was d r := by
  unfold inR stepR
  refine List.map_congr_left fun x hx => ?_
  simp [List.mem_range.1 hx]
theorem inI_get (h : k < was.length) : (inI may next all was k)[k]? = some (was.getD k false) := by simp [inI, h]
theorem inI_no (h : (isF may next all was k && !(was.getD k false)) = false) : inI may next all was (k + 1) = inI may next all was k := by
  unfold inI
  refine List.map_congr_left fun x hx => ?_
  by_cases e : x = k
  · subst e
    cases h1 : was.getD x false <;> cases h2 : isF may next all was x <;> rw [h1, h2] at h <;> simp [h1, h2] at h ⊢
  · have : (x < k + 1) = (x < k) := by apply propext; omega
    simp only [this]
theorem inR_no (h : (isF may next all was k && !(was.getD k false)) = false) : inR may next all was d r (k + 1) = inR may next all was d r k := by
  unfold inR
  refine List.map_congr_left fun x hx => ?_
  by_cases e : x = k
  · subst e
    rw [h]; simp
  · have : (x < k + 1) = (x < k) := by apply propext; omega
    simp only [this]
theorem inI_yes (hk : k < was.length) (h : (isF may next all was k && !(was.getD k false)) = true) : inI may next all was (k + 1) = (inI may next all was k).set k true := by
  simp only [Bool.and_eq_true, Bool.not_eq_true'] at h
  apply List.ext_getElem?
  intro i
  rw [List.getElem?_set]
  by_cases hi : i < was.length
  · by_cases e : k = i
    · subst e; simp [inI, hi, h.1]
    · have : (i < k + 1) = (i < k) := by apply propext; omega
      simp [inI, hi, e, this]
  · have : k ≠ i := by omega
    simp [inI, hi, this]
theorem inR_yes (hk : k < was.length) (h : (isF may next all was k && !(was.getD k false)) = true) : inR may next all was d r (k + 1) = (inR may next all was d r k).set k d := by
  apply List.ext_getElem?
  intro i
  rw [List.getElem?_set]
  by_cases hi : i < was.length
  · by_cases e : k = i
    · subst e; simp only [inR, List.getElem?_map, List.getElem?_range hi, Option.map_some, List.length_map, List.length_range, hi, if_pos]; rw [h]; simp
    · have : (i < k + 1) = (i < k) := by apply propext; omega
      simp [inR, hi, e, this]
  · have : k ≠ i := by omega
    simp [inR, hi, this]
end
theorem ints_set (l : List Int) (p : Nat) (b : Int) : (ints l).modify p (fun row => row.set 0 (.i .i64 b)) = ints (l.set p b) := by
  apply List.ext_getElem?
  intro i
  simp only [ints, List.getElem?_modify, List.getElem?_map, List.getElem?_set]
  by_cases hi : p = i
  · subst hi
    cases h : l[p]? with
    | none => have := List.getElem?_eq_none_iff.1 h; simp; omega
    | some x => have := (List.getElem?_eq_some_iff.1 h).1; simp [this]
  · simp [hi]
theorem ints_ltk (l : List Int) (k : Nat) : (Ob.cells 1 (ints l)).ltk k = true := by
  simp [Ob.ltk, ints, AV.ltk]
theorem won_spec {oc : List Ob} (hoc : okO oc = true) (next : List (List Int)) (all : List Bool) (n : Nat) (h1 : 1 ≤ n) (h2 : n ≤ 64) (hn : next.length = n) (ha : all.length = n)
    (hb' : ∀ l ∈ next, l.length ≤ 1099511627776 ∧ ∀ x ∈ l, 0 ≤ x ∧ x < n) {fm : FuncId} {capsm : List AV} (hc : capsm.all (AV.ltk oc.length) = true) (hcd : capsm.map AV.dat = capsm) (may : Nat → Nat → Bool)
    (hm : ∀ oc', (∀ (k : Nat) (x : Ob), oc[k]? = some x → oc'[k]? = some x) → okO oc' = true → ∀ x y : Nat, x < n → y < n → ACallsQ Try.prog fm (.i .i64 x :: .i .i64 y :: capsm) oc' (.b (may x y))) :
    ACallsQ Try.prog 52 [.agg [.sl 1 (tups next), .sl 1 (bools all)], .fn fm capsm] oc (.tup [.sl 1 (bools (wonF may next all n).1), .sl 1 (ints (wonF may next all n).2)]) := by
  refine ACalls_of' (n := 72) (rs := [.tmp 4, .tmp 5]) (show Try.prog.funcs[52]? = some Try.f52 by kernel_rfl) rfl rfl rfl (by simp) (by decide +kernel) ?_
  repeat (first | refine nav ?_ | refine bo ?_)
  (refine wr fun K R hK hR => ?_; simp (maxSteps := 10000000) only [go_sem]; (try go_ints); (repeat refine And.intro side ?_); (first | refine hK _ ?_ | refine hR _ _ ?_); clear hK hR K R)
  refine seqQ_normal ?_
  refine W_then (fun st => ∃ ii ri, (ii = oc.length + 2 ∧ ri = oc.length + 3 ∨ ii = oc.length + 3 ∧ ri = oc.length + 2) ∧ st.t 2 = .ptr oc.length 0 0 ∧ st.t 3 = .ptr (oc.length + 1) 0 0 ∧ st.t 6 = .ref ii 0 n ∧ st.t 7 = .ref ri 0 n ∧
    okO st.o = true ∧ (∀ (k : Nat) (x : Ob), oc[k]? = some x → st.o[k]? = some x) ∧ st.o[oc.length]? = some (.cells 2 [[.sl 1 (tups next), .sl 1 (bools all)]]) ∧ st.o[oc.length + 1]? = some (.cells 1 [[.fn fm capsm]]) ∧
    st.o[ii]? = some (.cells 1 (bools (List.replicate n false))) ∧ st.o[ri]? = some (.cells 1 (ints (List.replicate n 0)))) ?_ ?_
  · refine W_drawA (by decide +kernel) [] [0, 1, 2, 4, 5, 6] [3, 7] [8, 9] [[], [0], [0, 1], [1, 0, 2], [], [4], [4, 5], [5, 4, 6], [2, 0, 1, 3], [3, 1, 0, 2, 8, 6, 4, 5, 7]] [[3, 7], [7, 3]] (by decide +kernel) (by decide +kernel) (by decide) ?_
    intro tt htt
    simp only [List.mem_cons, List.not_mem_nil, or_false] at htt
    rcases htt with rfl | rfl
    · simp only [List.filterMap_cons, List.filterMap_nil, List.getElem?_cons_zero, List.getElem?_cons_succ, List.cons_append, List.nil_append]
      (refine D_reg fun K R hK hR => ?_; simp (maxSteps := 10000000) only [go_sem, hn]; (try go_ints); (try simp only [go_sem, hn]); (repeat refine And.intro side ?_); (first | refine hK _ ?_ | refine hR _ _ ?_); clear hK hR K R)
      refine Fin.id ?_
      refine thenQ_normal ?_
      refine ⟨oc.length + 2, oc.length + 3, .inl ⟨rfl, rfl⟩, ?_⟩
      exact ⟨rfl, rfl, rfl, rfl, okO_app hoc (by simp [Ob.ltk, AV.ltk]; rw [ltks_all]; exact all_ltk_mono (by omega) hc), fun k x hx => app_get _ hx, by simp, by simp, by simp [bools], by simp [ints]⟩
    · simp only [List.filterMap_cons, List.filterMap_nil, List.getElem?_cons_zero, List.getElem?_cons_succ, List.cons_append, List.nil_append]
      (refine D_reg fun K R hK hR => ?_; simp (maxSteps := 10000000) only [go_sem, hn]; (try go_ints); (try simp only [go_sem, hn]); (repeat refine And.intro side ?_); (first | refine hK _ ?_ | refine hR _ _ ?_); clear hK hR K R)
      refine Fin.id ?_
      refine thenQ_normal ?_
      refine ⟨oc.length + 3, oc.length + 2, .inr ⟨rfl, rfl⟩, ?_⟩
      exact ⟨rfl, rfl, rfl, rfl, okO_app hoc (by simp [Ob.ltk, AV.ltk]; rw [ltks_all]; exact all_ltk_mono (by omega) hc), fun k x hx => app_get _ hx, by simp, by simp, by simp [bools], by simp [ints]⟩
  · rintro ⟨t, o⟩ ⟨ii, ri, hir, h2', h3', h6, h7, hok, hp, o0, o1, oi, or⟩
    simp only at h2' h3' h6 h7 hok hp o0 o1 oi or
    have hne : ii ≠ ri := by omega
    have hii : oc.length + 2 ≤ ii := by omega
    have hri : oc.length + 2 ≤ ri := by omega
    repeat (first | refine nav ?_ | refine bo ?_)
    have hg0 : (bools (List.replicate n false)).getD (n - 1) [] = [.b false] := bools_get (by rw [List.getElem?_replicate, if_pos (by omega)])
    (refine wr fun K R hK hR => ?_; simp (maxSteps := 10000000) only [go_sem, h6, oi, bools_set, hg0, List.length_replicate]; (try go_ints); (try simp only [go_sem, h6, oi, bools_set, hg0, List.length_replicate]); (repeat refine And.intro side ?_); (first | refine hK _ ?_ | refine hR _ _ ?_); clear hK hR K R)
    repeat (first | refine nav ?_ | refine bo ?_)
    (refine wr fun K R hK hR => ?_; simp (maxSteps := 10000000) only [go_sem]; (try go_ints); (repeat refine And.intro side ?_); (first | refine hK _ ?_ | refine hR _ _ ?_); clear hK hR K R)
    repeat (first | refine nav ?_ | refine bo ?_)
    have hsi : ∀ (x : Ob) (i : Nat), (o.set ii x)[i]? = if i = ii then some x else o[i]? := fun x i => set_get oi
    have hpo : ∀ (x : Ob) (k : Nat) (y : Ob), oc[k]? = some y → (o.set ii x)[k]? = some y := by
      intro x k y hy
      rw [hsi, if_neg]
      · exact hp k y hy
      · have := (List.getElem?_eq_some_iff.1 hy).1; omega
    refine W_for 28 70 [8, 9, 10, 11, 12, 13, 14] (fun m t o => ∃ (d f : Nat) (more : Bool) (i : List Bool) (r : List Int), okO o = true ∧ (∀ (k : Nat) (x : Ob), oc[k]? = some x → o[k]? = some x) ∧ o[oc.length]? = some (.cells 2 [[.sl 1 (tups next), .sl 1 (bools all)]]) ∧ o[oc.length + 1]? = some (.cells 1 [[.fn fm capsm]]) ∧
      o[ii]? = some (.cells 1 (bools i)) ∧ o[ri]? = some (.cells 1 (ints r)) ∧ t 8 = .i .i64 d ∧ t 9 = .b more ∧ m = (if more then f else 0) ∧ i.length = n ∧ r.length = n ∧ d + f ≤ n + 2 ∧ (more = true → cntF i < f) ∧
      (if more then wonL may next all f d i r else (i, r)) = wonF may next all n) (n + 1)
      ⟨1, n + 1, true, (List.replicate n false).set (n - 1) true, List.replicate n 0, okO_set hok (bools_ltk _ _), hpo _, by rw [hsi, if_neg (by omega)]; exact o0, by rw [hsi, if_neg (by omega)]; exact o1, ?_, by rw [hsi, if_neg (by omega)]; exact or, rfl, rfl, rfl, by simp, by simp, by omega, fun _ => ?_, rfl⟩ ?_
    · rw [hsi, if_pos rfl]
    · have := cntF_le ((List.replicate n false).set (n - 1) true)
      simp only [List.length_set, List.length_replicate] at this
      omega
    clear hsi hpo
    rintro m t' o' ⟨d, f, more, i, r, hok', hp', p0, p1, pi, pr, h8, h9, rfl, hil, hrl, hdf, hcn, hfin⟩
    cases more with
    | false =>
      repeat (first | refine nav ?_ | refine bo ?_)
      (refine wr fun K R hK hR => ?_; simp (maxSteps := 10000000) only [go_sem, h9]; (try go_ints); (try simp only [go_sem, h9]); (repeat refine And.intro side ?_); (first | refine hK _ ?_ | refine hR _ _ ?_); clear hK hR K R)
      repeat (first | refine nav ?_ | refine bo ?_)
      refine W_cond (b := false) (by simp only [go_sem]) (fun hb => by cases hb) (fun _ => ?_)
      repeat (first | refine nav ?_ | refine bo ?_)
      (refine wr fun K R hK hR => ?_; simp (maxSteps := 10000000) only [go_sem, h6, h7]; (try go_ints); (try simp only [go_sem, h6, h7]); (repeat refine And.intro side ?_); (first | refine hK _ ?_ | refine hR _ _ ?_); clear hK hR K R)
      refine seqQ_normal ?_
      simp only [Bool.false_eq_true, if_false] at hfin
      have e1 : (bools i).map (fun r => r.map AV.dat) = bools i := by simp [bools, Function.comp_def, AV.dat]
      have e2 : (ints r).map (fun r => r.map AV.dat) = ints r := by simp [ints, Function.comp_def, AV.dat]
      have l1 : (bools i).length = n := by rw [bools_len, hil]
      have l2 : (ints r).length = n := by rw [ints_len, hrl]
      have l3 : ∀ j : Nat, o'[j]? = some (Ob.cells 1 (ints r)) → (Ob.cells 1 (ints r)).unref ii 1 (bools i) = Ob.cells 1 (ints r) := fun j _ => Ob.unref_ltk (Nat.zero_le _) _ (ints_ltk r 0)
      refine W_freeze ii (sz := 1) (rows := bools i) (by exact pi) (by simp [bools, AV.dat, AV.ltk, AV.plain]) ?_
      refine W_freeze ri (sz := 1) (rows := ints r) ?_ (by simp [ints, AV.dat, AV.ltk, AV.plain]) ?_
      · simp only [frS, List.getElem?_map, List.getElem?_set_ne hne, pr, Option.map_some, e1, l3 _ pr]
      refine W_ret ?_
      have hpre := fun (rows1 rows2 : List (List AV)) (k : Nat) (x : Ob) (h : oc[k]? = some x) => fr_take (oc := oc) (o := (o'.set ii (.frz 1 rows1)).map (Ob.unref ii 1 rows1)) hoc (fun k x h => fr_take hoc hp' (by omega) h) (id := ri) (sz := 1) (rows := rows2) (by omega) h
      obtain ⟨ex, hex⟩ := take_of_pre (hpre ((bools i).map fun r => r.map AV.dat) ((ints r).map fun r => r.map AV.dat))
      have key : ∀ (st : St), st.o = oc ++ ex → resAV Try.prog [.tmp 4, .tmp 5] st = some (.tup [.sl 1 (bools i), .sl 1 (ints r)]) → endQ Try.prog [.tmp 4, .tmp 5] oc.length (fun r' o' => r' = .tup [.sl 1 (bools (wonF may next all n).1), .sl 1 (ints (wonF may next all n).2)] ∧ o' = oc) .ret st := by
        rintro ⟨tt, ot⟩ rfl hres
        exact endQ_quiet hres (Le.of_eq (by rw [← hfin])) hoc rfl
      refine key _ hex ?_
      simp [resAV, resL, res1, frS, AV.unref, AV.unrefs, e1, e2, l1, l2, upd, mix_at, inL, hne, Ne.symm hne, List.take_of_length_le (Nat.le_of_eq l1), List.take_of_length_le (Nat.le_of_eq l2), ung, AV.dat]
    | true =>
      obtain ⟨f, rfl⟩ : ∃ f', f = f' + 1 := ⟨f - 1, by have := hcn rfl; omega⟩
      have hcn := hcn rfl
      simp only [if_true, wonL] at hfin
      have q0 := fun l => app_get l p0
      have q1 := fun l => app_get l p1
      have qi := fun l => app_get l pi
      have qr := fun l => app_get l pr
      repeat (first | refine nav ?_ | refine bo ?_)
      (refine wr fun K R hK hR => ?_; simp (maxSteps := 10000000) only [go_sem, h9]; (try go_ints); (try simp only [go_sem, h9]); (repeat refine And.intro side ?_); (first | refine hK _ ?_ | refine hR _ _ ?_); clear hK hR K R)
      repeat (first | refine nav ?_ | refine bo ?_)
      refine W_cond (b := true) (by simp only [go_sem]) (fun _ => ?_) (fun hb => by cases hb)
      repeat (first | refine nav ?_ | refine bo ?_)
      (refine wr fun K R hK hR => ?_; simp (maxSteps := 10000000) only [go_sem]; (try go_ints); (repeat refine And.intro side ?_); (first | refine hK _ ?_ | refine hR _ _ ?_); clear hK hR K R)
      repeat (first | refine nav ?_ | refine bo ?_)
      (refine wr fun K R hK hR => ?_; simp (maxSteps := 10000000) only [go_sem, h6]; (try go_ints); (try simp only [go_sem, h6]); (repeat refine And.intro side ?_); (first | refine hK _ ?_ | refine hR _ _ ?_); clear hK hR K R)
      refine RL_callQ (cloneB_spec hok' pi (by omega) (by omega)) (by simp only [go_sem] <;> exact rfl) rfl rfl (by simp) (by simp only [go_sem, h6, hil] <;> exact LeA.refl _) hok' ?_ rfl ?_
      · have := (List.getElem?_eq_some_iff.1 pi).1
        simpa [AV.ltk] using this
      (refine rr fun K R hK hR => ?_; simp (maxSteps := 10000000) only [go_sem]; (try go_ints); (repeat refine And.intro side ?_); (first | refine hK _ ?_ | refine hR _ _ ?_); clear hK hR K R)
      repeat (first | refine nav ?_ | refine bo ?_)
      (refine wr fun K R hK hR => ?_; simp (maxSteps := 10000000) only [go_sem, h2', q0]; (try go_ints); (try simp only [go_sem, h2', q0]); (repeat refine And.intro side ?_); (first | refine hK _ ?_ | refine hR _ _ ?_); clear hK hR K R)
      repeat (first | refine nav ?_ | refine bo ?_)
      have hlo' : oc.length + 2 ≤ o'.length := by
        have := (List.getElem?_eq_some_iff.1 p1).1
        omega
      have hio' : ii < o'.length := (List.getElem?_eq_some_iff.1 pi).1
      have hro' : ri < o'.length := (List.getElem?_eq_some_iff.1 pr).1
      refine W_for 36 70 [9, 11, 12, 13, 14] (fun m t o2 => ∃ (k : Nat), okO o2 = true ∧ (∀ (k : Nat) (x : Ob), oc[k]? = some x → o2[k]? = some x) ∧ o2[oc.length]? = some (.cells 2 [[.sl 1 (tups next), .sl 1 (bools all)]]) ∧ o2[oc.length + 1]? = some (.cells 1 [[.fn fm capsm]]) ∧
        o2[ii]? = some (.cells 1 (bools (inI may next all i k))) ∧ o2[ri]? = some (.cells 1 (ints (inR may next all i d r k))) ∧ o2[o'.length]? = some (.cells 1 [[.own 1 (bools i)]]) ∧ t 36 = .i .i64 k ∧ t 9 = .b (inM may next all i k) ∧ m = n - k ∧ k ≤ n) n
        ⟨0, okO_app hok' (by simp [Ob.ltk, AV.ltk]), fun k x hx => app_get _ (hp' k x hx), q0 _, q1 _, by rw [inI_zero]; exact qi _, by rw [inR_zero (by omega)]; exact qr _, by simp, by simp only [go_sem] <;> rfl, by simp only [go_sem, inM_zero], by omega, Nat.zero_le _⟩ ?_
      rintro m t2 o2 ⟨k, hok2, hp2, z0, z1, zi, zr, zw, h36, h9', rfl, hk⟩
      repeat (first | refine nav ?_ | refine bo ?_)
      (refine wr fun K R hK hR => ?_; simp (maxSteps := 10000000) only [go_sem, h36]; (try go_ints); (try simp only [go_sem, h36]); (repeat refine And.intro side ?_); (first | refine hK _ ?_ | refine hR _ _ ?_); clear hK hR K R)
      repeat (first | refine nav ?_ | refine bo ?_)
      refine W_cond (by simp only [go_sem] <;> exact rfl) (fun hb => ?_) (fun hb => ?_)
      · simp at hb
        have hkn : k < n := by omega
        obtain ⟨l, hl⟩ : ∃ l, next[k]? = some l := ⟨_, List.getElem?_eq_getElem (by omega)⟩
        obtain ⟨hll, hlm⟩ := hb' l (List.mem_of_getElem? hl)
        obtain ⟨bv, hbv⟩ : ∃ b, all[k]? = some b := ⟨_, List.getElem?_eq_getElem (by omega)⟩
        obtain ⟨iv, hiv⟩ : ∃ b, i[k]? = some b := ⟨_, List.getElem?_eq_getElem (by omega)⟩
        have hol : o'.length < o2.length := (List.getElem?_eq_some_iff.1 zw).1
        repeat (first | refine nav ?_ | refine bo ?_)
        (refine wr fun K R hK hR => ?_; simp (maxSteps := 10000000) only [go_sem, h36, tups_get hl, List.modify_zero_cons, List.set_cons_zero]; (try go_ints); (try simp only [go_sem, h36, tups_get hl, List.modify_zero_cons, List.set_cons_zero]); (repeat refine And.intro side ?_); (first | refine hK _ ?_ | refine hR _ _ ?_); clear hK hR K R)
        repeat (first | refine nav ?_ | refine bo ?_)
        (refine wr fun K R hK hR => ?_; simp (maxSteps := 10000000) only [go_sem, h3', ung]; (try go_ints); (try simp only [go_sem, h3', ung]); (repeat refine And.intro side ?_); (first | refine hK _ ?_ | refine hR _ _ ?_); clear hK hR K R)
        repeat (first | refine nav ?_ | refine bo ?_)
        (refine wr fun K R hK hR => ?_; simp (maxSteps := 10000000) only [go_sem]; (try go_ints); (repeat refine And.intro side ?_); (first | refine hK _ ?_ | refine hR _ _ ?_); clear hK hR K R)
        have hok3 : okO (o2 ++ [Ob.cells 1 [[.i .i64 k]]]) = true := okO_app hok2 (by simp [Ob.ltk, AV.ltk])
        refine RL_callQ (containsInt_spec (f := 68) (caps := [.ptr o'.length 0 0, .ptr (oc.length + 1) 0 0, .ptr o2.length 0 0]) hok3 (by simp [AV.ltk]; omega) rfl (fun y => i.getD y.toNat false && may k y.toNat) l hll fun x hx => ?_) (by simp only [go_sem] <;> exact rfl) rfl rfl (by simp) (by simp only [go_sem] <;> exact LeA.refl _) hok3 ?_ rfl ?_
        · obtain ⟨x1, x2⟩ := hlm x hx
          obtain ⟨y, rfl⟩ := Int.eq_ofNat_of_zero_le x1
          have hyn : y < n := by omega
          obtain ⟨v, hv⟩ : ∃ v, i[y]? = some v := ⟨_, List.getElem?_eq_getElem (by omega)⟩
          have e : (i.getD (y : Int).toNat false && may k (y : Int).toNat) = (v && may k y) := by
            simp [hv]
          rw [e]
          exact won1_spec hok3 (app_get _ zw) (app_get _ z1) (all_ltk_mono (by simp; omega) hc) hcd k y (by simp) hv (by omega) (hm _ (fun k x hx => app_get _ (hp2 k x hx)) hok3 k y hkn hyn)
        · simp [AV.ltk, AV.ltks]; omega
        (refine rr fun K R hK hR => ?_; simp (maxSteps := 10000000) only [go_sem]; (try go_ints); (repeat refine And.intro side ?_); (first | refine hK _ ?_ | refine hR _ _ ?_); clear hK hR K R)
        have hisF : isF may next all i k = if bv then !(l.any fun y => !(i.getD y.toNat false)) else l.any (fun y => i.getD y.toNat false && may k y.toNat) := by
          simp [isF, hbv, hl]
        refine seqQ_normal ?_
        refine W_join 45 54 [14] (fun t o => t 14 = .b (isF may next all i k) ∧ o = o2 ++ [Ob.cells 1 [[.i .i64 k]]]) ?_ ?_
        · repeat (first | refine nav ?_ | refine bo ?_)
          (refine wr fun K R hK hR => ?_; simp (maxSteps := 10000000) only [go_sem, h2', app_get _ z0, bools_get hbv]; (try go_ints); (try simp only [go_sem, h2', app_get _ z0, bools_get hbv]); (repeat refine And.intro side ?_); (first | refine hK _ ?_ | refine hR _ _ ?_); clear hK hR K R)
          repeat (first | refine nav ?_ | refine bo ?_)
          cases bv with
          | false =>
            refine W_cond (b := false) (by simp only [go_sem]) (fun hb => by cases hb) (fun _ => ?_)
            repeat (first | refine nav ?_ | refine bo ?_)
            refine ⟨_, rfl, ?_, rfl⟩
            simp only [go_sem]
            rw [hisF]; rfl
          | true =>
            refine W_cond (b := true) (by simp only [go_sem]) (fun _ => ?_) (fun hb => by cases hb)
            repeat (first | refine nav ?_ | refine bo ?_)
            (refine wr fun K R hK hR => ?_; simp (maxSteps := 10000000) only [go_sem]; (try go_ints); (repeat refine And.intro side ?_); (first | refine hK _ ?_ | refine hR _ _ ?_); clear hK hR K R)
            refine RL_callQ (containsInt_spec (f := 69) (caps := [.ptr o'.length 0 0]) hok3 (by simp [AV.ltk]; omega) rfl (fun y => !(i.getD y.toNat false)) l hll fun x hx => ?_) (by simp only [go_sem] <;> exact rfl) rfl rfl (by simp) (by simp only [go_sem] <;> exact LeA.refl _) hok3 ?_ rfl ?_
            · obtain ⟨x1, x2⟩ := hlm x hx
              obtain ⟨y, rfl⟩ := Int.eq_ofNat_of_zero_le x1
              have hyn : y < n := by omega
              obtain ⟨v, hv⟩ : ∃ v, i[y]? = some v := ⟨_, List.getElem?_eq_getElem (by omega)⟩
              have e : (!(i.getD (y : Int).toNat false)) = !v := by
                simp [hv]
              rw [e]
              exact won2_spec hok3 (.inl rfl) (app_get _ zw) y hv (by omega)
            · simp [AV.ltk, AV.ltks]; omega
            (refine rr fun K R hK hR => ?_; simp (maxSteps := 10000000) only [go_sem]; (try go_ints); (repeat refine And.intro side ?_); (first | refine hK _ ?_ | refine hR _ _ ?_); clear hK hR K R)
            repeat (first | refine nav ?_ | refine bo ?_)
            refine ⟨_, rfl, ?_, rfl⟩
            simp only [go_sem]
            rw [hisF]; rfl
        rintro t3 o3 ⟨h14, rfl⟩
        rw [mix_mix rfl]
        have hok3 : okO (o2 ++ [Ob.cells 1 [[.i .i64 k]]]) = true := okO_app hok2 (by simp [Ob.ltk, AV.ltk])
        repeat (first | refine nav ?_ | refine bo ?_)
        have zi' := app_get [Ob.cells 1 [[.i .i64 k]]] zi
        have zr' := app_get [Ob.cells 1 [[.i .i64 k]]] zr
        have hgi := bools_get (inI_get (may := may) (next := next) (all := all) (k := k) (was := i) (by omega))
        have hlt : decide (k < (inI may next all i k).length) = true := by rw [inI_len]; simp; omega
        (refine wr fun K R hK hR => ?_; simp (maxSteps := 10000000) only [go_sem, h14, h6, zi', hgi, hlt, Bool.or_true]; (try go_ints); (try simp only [go_sem, h14, h6, zi', hgi, hlt, Bool.or_true]); (repeat refine And.intro side ?_); (first | refine hK _ ?_ | refine hR _ _ ?_); clear hK hR K R)
        repeat (first | refine nav ?_ | refine bo ?_)
        refine W_cond (by simp only [go_sem] <;> exact rfl) (fun hb => ?_) (fun hb => ?_)
        · have hb : (isF may next all i k && !(i.getD k false)) = true := hb
          have hor : (o2 ++ [Ob.cells 1 [[.i .i64 k]]])[o2.length]? = some (.cells 1 [[.i .i64 k]]) := by simp
          have hsi : ∀ (x : Ob) (j : Nat), ((o2 ++ [Ob.cells 1 [[.i .i64 k]]]).set ii x)[j]? = if j = ii then some x else (o2 ++ [Ob.cells 1 [[.i .i64 k]]])[j]? := fun x j => set_get zi'
          have hsr : ∀ (x : Ob) (j : Nat), ((o2 ++ [Ob.cells 1 [[.i .i64 k]]]).set ri x)[j]? = if j = ri then some x else (o2 ++ [Ob.cells 1 [[.i .i64 k]]])[j]? := fun x j => set_get zr'
          obtain ⟨rv, hrv⟩ : ∃ b, (inR may next all i d r k)[k]? = some b := ⟨_, List.getElem?_eq_getElem (by rw [inR_len]; omega)⟩
          have hgr := ints_get hrv
          have hni : o2.length ≠ ii := by omega
          have hnr : o2.length ≠ ri := by omega
          have h4 : ∀ (X Y : Ob) (j : Nat), (((o2 ++ [Ob.cells 1 [[.i .i64 k]]]).set ii X).set ri Y)[j]? = if j = ri then some Y else if j = ii then some X else (o2 ++ [Ob.cells 1 [[.i .i64 k]]])[j]? := by
            intro X Y j
            rw [set_get (x := .cells 1 (ints (inR may next all i d r k))) (by rw [hsi, if_neg (Ne.symm hne)]; exact zr'), hsi]
          have hltr : decide (k < (inR may next all i d r k).length) = true := by rw [inR_len]; simp; omega
          refine W_drawA (by decide +kernel) [] [0, 1, 2, 4, 5] [3, 6] [7, 8, 9] [[], [], [], [], [], [1, 0], [0, 1, 5], [6, 5, 4, 1, 0, 3, 2], [2, 3, 0, 1, 4, 5, 6, 7], [7, 6, 5, 4, 1, 0, 3, 2, 8]] [[3, 6], [6, 3]] (by decide +kernel) (by decide +kernel) (by decide) ?_
          intro tt htt
          simp only [List.mem_cons, List.not_mem_nil, or_false] at htt
          rcases htt with rfl | rfl
          · simp only [List.filterMap_cons, List.filterMap_nil, List.getElem?_cons_zero, List.getElem?_cons_succ, List.cons_append, List.nil_append]
            (refine D_reg fun K R hK hR => ?_; simp (maxSteps := 10000000) only [go_sem, h6, h7, h8, zi', zr', hgi, hgr, hlt, hltr, bools_set, ints_set, hsi, hsr, hne, Ne.symm hne, hni, hnr]; (try go_ints); (try simp only [go_sem, h6, h7, h8, zi', zr', hgi, hgr, hlt, hltr, bools_set, ints_set, hsi, hsr, hne, Ne.symm hne, hni, hnr]); (repeat refine And.intro side ?_); (first | refine hK _ ?_ | refine hR _ _ ?_); clear hK hR K R)
            refine Fin.id ?_
            repeat (first | refine nav ?_ | refine bo ?_)
            (refine wr fun K R hK hR => ?_; simp (maxSteps := 10000000) only [go_sem, h36]; (try go_ints); (try simp only [go_sem, h36]); (repeat refine And.intro side ?_); (first | refine hK _ ?_ | refine hR _ _ ?_); clear hK hR K R)
            refine forQ_normal (n - (k + 1)) (by omega) ⟨k + 1, okO_set (okO_set hok3 (bools_ltk _ _)) (ints_ltk _ _), ?_, ?_, ?_, ?_, ?_, ?_, ?_, ?_, rfl, by omega⟩
            · intro j x hx
              have := (List.getElem?_eq_some_iff.1 hx).1
              rw [h4, if_neg (by omega), if_neg (by omega)]
              exact app_get _ (hp2 j x hx)
            · rw [h4, if_neg (by omega), if_neg (by omega)]
              exact app_get _ z0
            · rw [h4, if_neg (by omega), if_neg (by omega)]
              exact app_get _ z1
            · rw [h4, if_neg hne, if_pos rfl, inI_yes (by omega) hb]
            · rw [h4, if_pos rfl, inR_yes (by omega) hb]
            · rw [h4, if_neg (by omega), if_neg (by omega)]
              exact app_get _ zw
            · simp only [go_sem, h36]; simp
            · simp only [go_sem]
              rw [inM_succ, hb, Bool.or_true]
          · simp only [List.filterMap_cons, List.filterMap_nil, List.getElem?_cons_zero, List.getElem?_cons_succ, List.cons_append, List.nil_append]
            (refine D_reg fun K R hK hR => ?_; simp (maxSteps := 10000000) only [go_sem, h6, h7, h8, zi', zr', hgi, hgr, hlt, hltr, bools_set, ints_set, hsi, hsr, hne, Ne.symm hne, hni, hnr]; (try go_ints); (try simp only [go_sem, h6, h7, h8, zi', zr', hgi, hgr, hlt, hltr, bools_set, ints_set, hsi, hsr, hne, Ne.symm hne, hni, hnr]); (repeat refine And.intro side ?_); (first | refine hK _ ?_ | refine hR _ _ ?_); clear hK hR K R)
            refine Fin.id ?_
            repeat (first | refine nav ?_ | refine bo ?_)
            (refine wr fun K R hK hR => ?_; simp (maxSteps := 10000000) only [go_sem, h36]; (try go_ints); (try simp only [go_sem, h36]); (repeat refine And.intro side ?_); (first | refine hK _ ?_ | refine hR _ _ ?_); clear hK hR K R)
            refine forQ_normal (n - (k + 1)) (by omega) ⟨k + 1, okO_set (okO_set hok3 (bools_ltk _ _)) (ints_ltk _ _), ?_, ?_, ?_, ?_, ?_, ?_, ?_, ?_, rfl, by omega⟩
            · intro j x hx
              have := (List.getElem?_eq_some_iff.1 hx).1
              rw [h4, if_neg (by omega), if_neg (by omega)]
              exact app_get _ (hp2 j x hx)
            · rw [h4, if_neg (by omega), if_neg (by omega)]
              exact app_get _ z0
            · rw [h4, if_neg (by omega), if_neg (by omega)]
              exact app_get _ z1
            · rw [h4, if_neg hne, if_pos rfl, inI_yes (by omega) hb]
            · rw [h4, if_pos rfl, inR_yes (by omega) hb]
            · rw [h4, if_neg (by omega), if_neg (by omega)]
              exact app_get _ zw
            · simp only [go_sem, h36]; simp
            · simp only [go_sem]
              rw [inM_succ, hb, Bool.or_true]
        · have hb : (isF may next all i k && !(i.getD k false)) = false := hb
          repeat (first | refine nav ?_ | refine bo ?_)
          (refine wr fun K R hK hR => ?_; simp (maxSteps := 10000000) only [go_sem, h36]; (try go_ints); (try simp only [go_sem, h36]); (repeat refine And.intro side ?_); (first | refine hK _ ?_ | refine hR _ _ ?_); clear hK hR K R)
          refine forQ_normal (n - (k + 1)) (by omega) ⟨k + 1, hok3, fun j x hx => app_get _ (hp2 j x hx), app_get _ z0, app_get _ z1, ?_, ?_, app_get _ zw, ?_, ?_, rfl, by omega⟩
          · rw [inI_no hb]; exact zi'
          · rw [inR_no hb]; exact zr'
          · simp only [go_sem, h36]; simp
          · simp only [go_sem, h9']
            rw [inM_succ, hb, Bool.or_false]
      · simp at hb
        have : k = n := by omega
        subst this
        rw [← hil, inI_full] at zi
        rw [← hil, inR_full] at zr
        rw [← hil, inM_full] at h9'
        rw [mix_mix rfl]
        repeat (first | refine nav ?_ | refine bo ?_)
        (refine wr fun K R hK hR => ?_; simp (maxSteps := 10000000) only [go_sem, h8]; (try go_ints); (try simp only [go_sem, h8]); (repeat refine And.intro side ?_); (first | refine hK _ ?_ | refine hR _ _ ?_); clear hK hR K R)
        obtain ⟨sl1, sl2⟩ := step_len may next all i d r
        refine forQ_normal (if stepM may next all i then f else 0) (by split <;> omega) ⟨d + 1, f, stepM may next all i, stepI may next all i, stepR may next all i d r, hok2, hp2, z0, z1, zi, zr, ?_, ?_, rfl, by omega, by omega, by omega, fun h => ?_, ?_⟩
        · simp only [go_sem, h8]; simp
        · simp only [go_sem, h9']
        · have := stepM_cnt h; omega
        · rw [← hfin]; simp
end Go.AW
/-
Contracts: the games.
-/
namespace Go.AW
open Go Go.Proofs TyTry Go.IntWalk
set_option linter.unusedSimpArgs false
set_option linter.unusedVariables false
set_option maxRecDepth 10000

structure GOk (n c : Nat) (g : GD) : Prop where
  l1 : g.1.length = n
  l2 : g.2.length = n
  el : ∀ l ∈ g.1, l.length ≤ c ∧ ∀ x ∈ l, 0 ≤ x ∧ x < n
theorem gT_ok {n c : Nat} {r : RelD} {g : GD} {t : List Int} (h : GOk n c g) (h1 : (t.length : Int) = r.arity) (h2 : ∀ x ∈ t, 0 ≤ x ∧ x < (n : Int)) : GOk n (c + 1) (gT r g t) := by
  refine ⟨(gT_len r g t).1.trans h.l1, (gT_len r g t).2.trans h.l2, ?_⟩
  unfold gT
  split
  · rename_i hE
    intro l hl
    rcases mem_modify hl with hq | ⟨r0, hq, rfl⟩
    · exact ⟨by have := (h.el l hq).1; omega, (h.el l hq).2⟩
    · refine ⟨by have := (h.el r0 hq).1; simp only [List.length_append, List.length_cons, List.length_nil]; omega, fun x hx => ?_⟩
      rcases List.mem_append.1 hx with hx | hx
      · exact (h.el r0 hq).2 x hx
      · simp only [List.mem_singleton] at hx
        subst hx
        simp only [isE, Bool.and_eq_true, beq_iff_eq] at hE
        rw [hE.2] at h1
        match t, h1 with
        | [x0, x1], _ => exact h2 x1 (by simp)
        | [], h => simp at h
        | [_], h => simp at h
        | _ :: _ :: _ :: _, h => simp at h; omega
  · split
    · exact fun l hl => ⟨by have := (h.el l hl).1; omega, (h.el l hl).2⟩
    · exact fun l hl => ⟨by have := (h.el l hl).1; omega, (h.el l hl).2⟩
theorem gTs_ok {n : Nat} {r : RelD} : ∀ (ts : List (List Int)) {c : Nat} {g : GD}, GOk n c g → (∀ t ∈ ts, (t.length : Int) = r.arity ∧ ∀ x ∈ t, 0 ≤ x ∧ x < (n : Int)) → GOk n (c + ts.length) (ts.foldl (gT r) g)
  | [], c, g, h, _ => h
  | t :: ts, c, g, h, h1 => by
    have := gTs_ok ts (gT_ok h (h1 t (by simp)).1 (h1 t (by simp)).2) (fun x hx => h1 x (by simp [hx]))
    rw [List.length_cons, show c + (ts.length + 1) = c + 1 + ts.length by omega]
    exact this
def tupN (l : List RelD) : Nat := (l.map fun r => r.tuples.length).sum
theorem gRs_ok {n : Nat} : ∀ (rs : List RelD) {c : Nat} {g : GD}, GOk n c g → (∀ r ∈ rs, ∀ t ∈ r.tuples, (t.length : Int) = r.arity ∧ ∀ x ∈ t, 0 ≤ x ∧ x < (n : Int)) → GOk n (c + tupN rs) (rs.foldl gR g)
  | [], c, g, h, _ => h
  | r :: rs, c, g, h, h1 => by
    have := gRs_ok rs (gTs_ok r.tuples h (h1 r (by simp))) (fun x hx => h1 x (by simp [hx]))
    rw [tupN, List.map_cons, List.sum_cons, ← Nat.add_assoc]
    exact this
theorem graphD_ok {s : StrD} (hv : validF s = true) : GOk s.size.toNat (tupN s.rels) (graphD s) := by
  obtain ⟨z1, z2, z3⟩ := valid_size hv
  have := gRs_ok (n := s.size.toNat) s.rels (c := 0) (g := (List.replicate s.size.toNat [], List.replicate s.size.toNat false))
    ⟨by simp, by simp, fun l hl => by simp only [List.mem_replicate] at hl; simp [hl.2]⟩
    (fun r hr t ht => by
      obtain ⟨a, b⟩ := valid_tuple hv hr ht
      exact ⟨a, fun x hx => by have := b x hx; omega⟩)
  simpa [graphD] using this

def symG : List SymD := [⟨⟨#[69]⟩, 2⟩, ⟨⟨#[65]⟩, 1⟩]
def badOrd (s : StrD) (ord : List Int) : Bool := !((ord.length : Int) == s.size) || ord.any fun x => decide (x < -1) || decide (x ≥ s.size)
def mayOrd (ord : List Int) (x y : Nat) : Bool := ord.getD x 0 == (y : Int)
def winsA (s : StrD) (ord : List Int) : AV :=
  if validF s = false then .tup [.b false, .i .i64 1] else if fitsF symG s = false then .tup [.b false, .i .i64 4] else if badOrd s ord = true then .tup [.b false, .i .i64 2] else
    .tup [.b ((wonF (mayOrd ord) (graphD s).1 (graphD s).2 s.size.toNat).1.getD 0 false), .i .i64 0]
theorem wonL_len (may : Nat → Nat → Bool) (next : List (List Int)) (all : List Bool) : ∀ (f : Nat) (d : Int) (i : List Bool) (r : List Int), (wonL may next all f d i r).1.length = i.length
  | 0, _, _, _ => rfl
  | f + 1, d, i, r => by
    rw [wonL]
    split
    · rw [wonL_len, (step_len may next all i d r).1]
    · exact (step_len may next all i d r).1
theorem wonF_len (may : Nat → Nat → Bool) (next : List (List Int)) (all : List Bool) (n : Nat) : (wonF may next all n).1.length = n := by
  rw [wonF, wonL_len]; simp
theorem graphR_cases (s : StrD) : ∃ (g : GD) (code : Int), graphR s symG = .tup [.agg [.sl 1 (tups g.1), .sl 1 (bools g.2)], .i .i64 code] ∧
    (code = 0 → validF s = true ∧ fitsF symG s = true ∧ g = graphD s) ∧ (code ≠ 0 → (∀ ord, winsA s ord = .tup [.b false, .i .i64 code]) ∧ (validF s = false ∨ fitsF symG s = false)) := by
  by_cases hv : validF s = false
  · exact ⟨([], []), 1, by rw [graphR, if_pos hv, graphA], fun h => by omega, fun _ => ⟨fun ord => by rw [winsA, if_pos hv], .inl hv⟩⟩
  · by_cases hf : fitsF symG s = false
    · exact ⟨([], []), 4, by rw [graphR, if_neg hv, if_pos hf, graphA], fun h => by omega, fun _ => ⟨fun ord => by rw [winsA, if_neg hv, if_pos hf], .inr hf⟩⟩
    · exact ⟨graphD s, 0, by rw [graphR, if_neg hv, if_neg hf, graphA], fun _ => ⟨by simpa using hv, by simpa using hf, rfl⟩, fun h => absurd rfl h⟩
theorem wins_spec (s : StrD) (hs : s.Ok) (ht : tupN s.rels ≤ 1099511627776) (ord : List Int) (ho : ord.length ≤ 1099511627776) :
    ACallsD Try.prog 26 [.agg [.i .i64 s.size, .sl 3 (rels s.rels)], .sl 1 (ints ord)] (winsA s ord) := by
  obtain ⟨g, code, hg, hc0, hc1⟩ := graphR_cases s
  have hG := graphOf_spec s hs symG (by decide)
  rw [hg] at hG
  refine ACalls_of' (n := 40) (rs := [.tmp 4, .tmp 5]) (show Try.prog.funcs[26]? = some Try.f26 by kernel_rfl) rfl rfl rfl (by simp) (by decide +kernel) ?_
  repeat (first | refine nav ?_ | refine bo ?_)
  (refine wr fun K R hK hR => ?_; simp (maxSteps := 10000000) only [go_sem]; (try go_ints); (repeat refine And.intro side ?_); (first | refine hK _ ?_ | refine hR _ _ ?_); clear hK hR K R)
  repeat (first | refine nav ?_ | refine bo ?_)
  (refine W_dreg (by decide +kernel) [] [0, 1, 2, 3, 4, 5, 6, 7, 8, 9, 10] [[], [], [1], [2, 1], [1, 2, 3, 0], [0, 3, 2, 1, 4], [4, 1, 2, 3, 0, 5], [4, 1, 2, 3, 0, 5], [], [5, 0, 3, 2, 1, 4, 6, 8], [8, 6, 9, 5, 0, 3, 2, 1, 4, 7]] (by decide +kernel) rfl fun K R hK hR => ?_; simp only [List.filterMap_cons, List.filterMap_nil, List.getElem?_cons_zero, List.getElem?_cons_succ, List.cons_append, List.nil_append]; simp (maxSteps := 10000000) only [go_sem]; (try go_ints); (repeat refine And.intro side ?_); (first | refine hK _ ?_ | refine hR _ _ ?_); clear hK hR K R)
  refine D_callD (edges_spec) rfl rfl rfl (by first | (simp only [go_sem] <;> first | exact LeA.refl _ | exact Le.refl _) | exact LeA.refl _) rfl rfl rfl rfl ?_
  (refine D_reg fun K R hK hR => ?_; simp (maxSteps := 10000000) only [go_sem]; (try go_ints); (repeat refine And.intro side ?_); (first | refine hK _ ?_ | refine hR _ _ ?_); clear hK hR K R)
  refine D_callD (universal_spec) rfl rfl rfl (by first | (simp only [go_sem] <;> first | exact LeA.refl _ | exact Le.refl _) | exact LeA.refl _) rfl rfl rfl rfl ?_
  (refine D_reg fun K R hK hR => ?_; simp (maxSteps := 10000000) only [go_sem]; (try go_ints); (repeat refine And.intro side ?_); (first | refine hK _ ?_ | refine hR _ _ ?_); clear hK hR K R)
  refine D_callD (hG) rfl rfl rfl (by first | (simp only [go_sem] <;> first | exact LeA.refl _ | exact Le.refl _) | exact LeA.refl _) rfl rfl rfl rfl ?_
  (refine D_reg fun K R hK hR => ?_; simp (maxSteps := 10000000) only [go_sem]; (try go_ints); (repeat refine And.intro side ?_); (first | refine hK _ ?_ | refine hR _ _ ?_); clear hK hR K R)
  repeat (first | refine nav ?_ | refine bo ?_)
  (refine wr fun K R hK hR => ?_; simp (maxSteps := 10000000) only [go_sem]; (try go_ints); (repeat refine And.intro side ?_); (first | refine hK _ ?_ | refine hR _ _ ?_); clear hK hR K R)
  repeat (first | refine nav ?_ | refine bo ?_)
  refine W_cond (by simp only [go_sem] <;> exact rfl) (fun hb => ?_) (fun hb => ?_)
  · have hb : code ≠ 0 := by simpa using hb
    rw [(hc1 hb).1 ord]
    repeat (first | refine nav ?_ | refine bo ?_)
    (refine wr fun K R hK hR => ?_; simp (maxSteps := 10000000) only [go_sem]; (try go_ints); (repeat refine And.intro side ?_); (first | refine hK _ ?_ | refine hR _ _ ?_); clear hK hR K R)
    repeat (first | refine nav ?_ | refine bo ?_)
    refine endQ_data (by simp only [go_sem] <;> exact rfl) (Le.of_eq ?_) rfl
    rfl
  · have hb : code = 0 := by simpa using hb
    obtain ⟨hv, hf, rfl⟩ := hc0 hb
    subst hb
    clear hc0 hc1
    obtain ⟨z1, z2, z3⟩ := valid_size hv
    obtain ⟨n, hn⟩ := Int.eq_ofNat_of_zero_le (show 0 ≤ s.size by omega)
    have hg := graphD_ok hv
    have hnn : s.size.toNat = n := by omega
    rw [hnn] at hg
    repeat (first | refine nav ?_ | refine bo ?_)
    (refine wr fun K R hK hR => ?_; simp (maxSteps := 10000000) only [go_sem]; (try go_ints); (repeat refine And.intro side ?_); (first | refine hK _ ?_ | refine hR _ _ ?_); clear hK hR K R)
    refine RL_callQg rfl (by simp only [go_sem] <;> exact rfl) (fun e => containsInt_spec (oc := [.cells 2 [[.i .i64 s.size, .sl 3 (rels s.rels)]], .cells 1 [[.sl 1 (ints ord)]], .cells 2 [[.sl 1 (tups (graphD s).1), .sl 1 (bools (graphD s).2)]]]) (f := 51) (caps := [.ptr 0 0 0]) rfl rfl rfl (fun x => decide (x < -1) || decide (x ≥ s.size)) ord ho (fun x hx => wins1_spec (i := 0) (s := s) rfl rfl x))
      (fun e => by (try simp only [go_sem] at e); simp only [go_sem, e] <;> exact rfl) rfl rfl (by simp) (fun e => by (try simp only [go_sem] at e); simp only [go_sem, e] <;> exact LeA.refl _) rfl rfl rfl ?_
    (refine rr fun K R hK hR => ?_; simp (maxSteps := 10000000) only [go_sem]; (try go_ints); (repeat refine And.intro side ?_); (first | refine hK _ ?_ | refine hR _ _ ?_); clear hK hR K R)
    repeat (first | refine nav ?_ | refine bo ?_)
    have hbo : badOrd s ord = (!((ord.length : Int) == s.size) || ord.any fun x => decide (x < -1) || decide (x ≥ s.size)) := rfl
    refine W_cond (by simp only [go_sem] <;> exact rfl) (fun hb => ?_) (fun hb => ?_)
    · have hb : badOrd s ord = true := by rw [hbo]; exact hb
      rw [winsA, if_neg (by simp [hv]), if_neg (by simp [hf]), if_pos hb]
      repeat (first | refine nav ?_ | refine bo ?_)
      (refine wr fun K R hK hR => ?_; simp (maxSteps := 10000000) only [go_sem]; (try go_ints); (repeat refine And.intro side ?_); (first | refine hK _ ?_ | refine hR _ _ ?_); clear hK hR K R)
      repeat (first | refine nav ?_ | refine bo ?_)
      refine endQ_data (by simp only [go_sem] <;> exact rfl) (Le.of_eq ?_) rfl
      rfl
    · have hb : badOrd s ord = false := by rw [hbo]; exact hb
      rw [winsA, if_neg (by simp [hv]), if_neg (by simp [hf]), if_neg (by simp [hb]), hnn]
      have hol : ord.length = n := by
        rw [hbo] at hb
        simp only [Bool.or_eq_false_iff, Bool.not_eq_false', beq_iff_eq] at hb
        omega
      obtain ⟨b0, hb0⟩ : ∃ b, (wonF (mayOrd ord) (graphD s).1 (graphD s).2 n).1[0]? = some b := ⟨_, List.getElem?_eq_getElem (by rw [wonF_len]; omega)⟩
      repeat (first | refine nav ?_ | refine bo ?_)
      (refine wr fun K R hK hR => ?_; simp (maxSteps := 10000000) only [go_sem]; (try go_ints); (repeat refine And.intro side ?_); (first | refine hK _ ?_ | refine hR _ _ ?_); clear hK hR K R)
      refine RL_callQ (won_spec (oc := [.cells 2 [[.i .i64 s.size, .sl 3 (rels s.rels)]], .cells 1 [[.sl 1 (ints ord)]], .cells 2 [[.sl 1 (tups (graphD s).1), .sl 1 (bools (graphD s).2)]]]) rfl (graphD s).1 (graphD s).2 n (by omega) (by omega) hg.l1 hg.l2
        (fun l hl => ⟨by have := (hg.el l hl).1; omega, (hg.el l hl).2⟩) (fm := 53) (capsm := [.ptr 1 0 0]) rfl rfl (mayOrd ord) fun oc' hp hok x y hx hy => ?_) (by simp only [go_sem] <;> exact rfl) rfl rfl (by simp) (by simp only [go_sem] <;> exact LeA.refl _) rfl rfl rfl ?_
      · obtain ⟨v, hv⟩ : ∃ v, ord[x]? = some v := ⟨_, List.getElem?_eq_getElem (by omega)⟩
        have e : mayOrd ord x y = (v == (y : Int)) := by simp [mayOrd, hv]
        rw [e]
        exact wins2_spec hok (hp 1 _ rfl) x y hv ho
      (refine rr fun K R hK hR => ?_; simp (maxSteps := 10000000) only [go_sem]; (try go_ints); (repeat refine And.intro side ?_); (first | refine hK _ ?_ | refine hR _ _ ?_); clear hK hR K R)
      repeat (first | refine nav ?_ | refine bo ?_)
      (refine wr fun K R hK hR => ?_; simp (maxSteps := 10000000) only [go_sem, wonF_len, bools_get hb0]; (try go_ints); (try simp only [go_sem, wonF_len, bools_get hb0]); (repeat refine And.intro side ?_); (first | refine hK _ ?_ | refine hR _ _ ?_); clear hK hR K R)
      repeat (first | refine nav ?_ | refine bo ?_)
      refine endQ_data (by simp only [go_sem] <;> exact rfl) (Le.of_eq ?_) rfl
      simp [hb0]
def wonA (s : StrD) : AV :=
  if validF s = false then .tup [.sl 1 [], .i .i64 1] else if fitsF symG s = false then .tup [.sl 1 [], .i .i64 4] else
    .tup [.sl 1 (bools (wonF (fun _ _ => true) (graphD s).1 (graphD s).2 s.size.toNat).1), .i .i64 0]
theorem won_all_spec (s : StrD) (hs : s.Ok) (ht : tupN s.rels ≤ 1099511627776) :
    ACallsD Try.prog 27 [.agg [.i .i64 s.size, .sl 3 (rels s.rels)]] (wonA s) := by
  obtain ⟨g, code, hg, hc0, hc1⟩ := graphR_cases s
  have hG := graphOf_spec s hs symG (by decide)
  have hw1 : code ≠ 0 → wonA s = .tup [.sl 1 [], .i .i64 code] := fun h => by
    rw [wonA]
    rw [graphR] at hg
    by_cases hv : validF s = false
    · rw [if_pos hv] at hg ⊢
      simp only [AV.tup.injEq, List.cons.injEq, AV.i.injEq, true_and, and_true] at hg
      rw [hg.2]
    · rw [if_neg hv] at hg ⊢
      by_cases hf : fitsF symG s = false
      · rw [if_pos hf] at hg ⊢
        simp only [AV.tup.injEq, List.cons.injEq, AV.i.injEq, true_and, and_true] at hg
        rw [hg.2]
      · rw [if_neg hf] at hg
        simp only [AV.tup.injEq, List.cons.injEq, AV.i.injEq, true_and, and_true] at hg
        exact absurd hg.2.symm h
  rw [hg] at hG
  refine ACalls_of' (n := 25) (rs := [.tmp 2, .tmp 3]) (show Try.prog.funcs[27]? = some Try.f27 by kernel_rfl) rfl rfl rfl (by simp) (by decide +kernel) ?_
  repeat (first | refine nav ?_ | refine bo ?_)
  (refine wr fun K R hK hR => ?_; simp (maxSteps := 10000000) only [go_sem]; (try go_ints); (repeat refine And.intro side ?_); (first | refine hK _ ?_ | refine hR _ _ ?_); clear hK hR K R)
  repeat (first | refine nav ?_ | refine bo ?_)
  (refine W_dreg (by decide +kernel) [] [0, 1, 2, 3, 4, 5, 6, 7, 8, 9, 10] [[], [], [1], [2, 1], [1, 2, 3, 0], [0, 3, 2, 1, 4], [4, 1, 2, 3, 0, 5], [4, 1, 2, 3, 0, 5], [], [5, 0, 3, 2, 1, 4, 6, 8], [8, 6, 9, 5, 0, 3, 2, 1, 4, 7]] (by decide +kernel) rfl fun K R hK hR => ?_; simp only [List.filterMap_cons, List.filterMap_nil, List.getElem?_cons_zero, List.getElem?_cons_succ, List.cons_append, List.nil_append]; simp (maxSteps := 10000000) only [go_sem]; (try go_ints); (repeat refine And.intro side ?_); (first | refine hK _ ?_ | refine hR _ _ ?_); clear hK hR K R)
  refine D_callD (edges_spec) rfl rfl rfl (by first | (simp only [go_sem] <;> first | exact LeA.refl _ | exact Le.refl _) | exact LeA.refl _) rfl rfl rfl rfl ?_
  (refine D_reg fun K R hK hR => ?_; simp (maxSteps := 10000000) only [go_sem]; (try go_ints); (repeat refine And.intro side ?_); (first | refine hK _ ?_ | refine hR _ _ ?_); clear hK hR K R)
  refine D_callD (universal_spec) rfl rfl rfl (by first | (simp only [go_sem] <;> first | exact LeA.refl _ | exact Le.refl _) | exact LeA.refl _) rfl rfl rfl rfl ?_
  (refine D_reg fun K R hK hR => ?_; simp (maxSteps := 10000000) only [go_sem]; (try go_ints); (repeat refine And.intro side ?_); (first | refine hK _ ?_ | refine hR _ _ ?_); clear hK hR K R)
  refine D_callD (hG) rfl rfl rfl (by first | (simp only [go_sem] <;> first | exact LeA.refl _ | exact Le.refl _) | exact LeA.refl _) rfl rfl rfl rfl ?_
  (refine D_reg fun K R hK hR => ?_; simp (maxSteps := 10000000) only [go_sem]; (try go_ints); (repeat refine And.intro side ?_); (first | refine hK _ ?_ | refine hR _ _ ?_); clear hK hR K R)
  repeat (first | refine nav ?_ | refine bo ?_)
  (refine wr fun K R hK hR => ?_; simp (maxSteps := 10000000) only [go_sem]; (try go_ints); (repeat refine And.intro side ?_); (first | refine hK _ ?_ | refine hR _ _ ?_); clear hK hR K R)
  repeat (first | refine nav ?_ | refine bo ?_)
  refine W_cond (by simp only [go_sem] <;> exact rfl) (fun hb => ?_) (fun hb => ?_)
  · have hb : code ≠ 0 := by simpa using hb
    rw [hw1 hb]
    repeat (first | refine nav ?_ | refine bo ?_)
    (refine wr fun K R hK hR => ?_; simp (maxSteps := 10000000) only [go_sem]; (try go_ints); (repeat refine And.intro side ?_); (first | refine hK _ ?_ | refine hR _ _ ?_); clear hK hR K R)
    repeat (first | refine nav ?_ | refine bo ?_)
    refine endQ_data (by simp only [go_sem] <;> exact rfl) (Le.of_eq ?_) rfl
    rfl
  · have hb : code = 0 := by simpa using hb
    obtain ⟨hv, hf, rfl⟩ := hc0 hb
    subst hb
    clear hc0 hc1
    obtain ⟨z1, z2, z3⟩ := valid_size hv
    obtain ⟨n, hn⟩ := Int.eq_ofNat_of_zero_le (show 0 ≤ s.size by omega)
    have hg := graphD_ok hv
    have hnn : s.size.toNat = n := by omega
    rw [hnn] at hg
    rw [wonA, if_neg (by simp [hv]), if_neg (by simp [hf]), hnn]
    repeat (first | refine nav ?_ | refine bo ?_)
    (refine wr fun K R hK hR => ?_; simp (maxSteps := 10000000) only [go_sem]; (try go_ints); (repeat refine And.intro side ?_); (first | refine hK _ ?_ | refine hR _ _ ?_); clear hK hR K R)
    refine RL_callQ (won_spec (oc := [.cells 2 [[.i .i64 s.size, .sl 3 (rels s.rels)]], .cells 2 [[.sl 1 (tups (graphD s).1), .sl 1 (bools (graphD s).2)]]]) rfl (graphD s).1 (graphD s).2 n (by omega) (by omega) hg.l1 hg.l2
      (fun l hl => ⟨by have := (hg.el l hl).1; omega, (hg.el l hl).2⟩) (fm := 54) (capsm := []) rfl rfl (fun _ _ => true) fun oc' hp hok x y hx hy => always_spec hok _ _) (by simp only [go_sem] <;> exact rfl) rfl rfl (by simp) (by simp only [go_sem] <;> exact LeA.refl _) rfl rfl rfl ?_
    (refine rr fun K R hK hR => ?_; simp (maxSteps := 10000000) only [go_sem]; (try go_ints); (repeat refine And.intro side ?_); (first | refine hK _ ?_ | refine hR _ _ ?_); clear hK hR K R)
    repeat (first | refine nav ?_ | refine bo ?_)
    (refine wr fun K R hK hR => ?_; simp (maxSteps := 10000000) only [go_sem]; (try go_ints); (repeat refine And.intro side ?_); (first | refine hK _ ?_ | refine hR _ _ ?_); clear hK hR K R)
    repeat (first | refine nav ?_ | refine bo ?_)
    refine endQ_data (by simp only [go_sem] <;> exact rfl) (Le.of_eq ?_) rfl
    rfl
end Go.AW
