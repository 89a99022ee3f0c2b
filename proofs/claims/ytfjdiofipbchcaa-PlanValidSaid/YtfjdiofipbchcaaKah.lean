/-
Plans: how many there are in one, how deep it is; the law's weight of a plan.
-/
import Derived.Test.YtfjdiofipbchcaaKag
namespace Go.AW
open Go Go.Proofs TyTry Go.IntWalk
set_option linter.unusedSimpArgs false
set_option linter.unusedVariables false
set_option maxRecDepth 10000
set_option maxHeartbeats 1000000
theorem drop_kids {l : List PlanD} {k : Nat} {q : PlanD} (h : l[k]? = some q) : l.drop k = q :: l.drop (k + 1) := drop_cons h
mutual
/-- The number of a plan's nodes. -/
def cntF : PlanD → Nat
  | .mk _ _ _ _ _ _ ks => 1 + cntL ks
def cntL : List PlanD → Nat
  | [] => 0
  | p :: r => cntF p + cntL r
end
mutual
/-- A plan's depth. -/
def deepF : PlanD → Nat
  | .mk _ _ _ _ _ _ ks => deepL ks + 1
def deepL : List PlanD → Nat
  | [] => 0
  | p :: r => max (deepF p) (deepL r)
end
mutual
/-- A plan's weight, as the law counts it. -/
def weighF : PlanD → Nat → Nat → Nat
  | .mk _ _ _ _ nm cs ks, n, most => weighL ks (n + 1 + cs.length + nm.size / 100) most
def weighL : List PlanD → Nat → Nat → Nat
  | [], n, _ => n
  | p :: r, n, most => if n ≤ most then weighL r (weighF p n most) most else n
end
theorem cntF_eq (p : PlanD) : cntF p = 1 + cntL p.kids := by cases p; rfl
theorem deepF_eq (p : PlanD) : deepF p = deepL p.kids + 1 := by cases p; rfl
theorem cntF_pos (p : PlanD) : 1 ≤ cntF p := by rw [cntF_eq]; omega
theorem kids_cnt : ∀ l : List PlanD, l.length ≤ cntL l
  | [] => Nat.le_refl _
  | p :: r => by
    have := kids_cnt r
    have := cntF_pos p
    simp only [cntL, List.length_cons]; omega
theorem cnt_mem : ∀ {l : List PlanD} {p : PlanD}, p ∈ l → cntF p ≤ cntL l
  | q :: r, p, h => by
    simp only [cntL]
    rcases List.mem_cons.1 h with rfl | h
    · omega
    · have := cnt_mem h; omega
theorem deepL_le : ∀ (l : List PlanD), (∀ p ∈ l, deepF p ≤ cntF p) → deepL l ≤ cntL l
  | [], _ => Nat.le_refl _
  | p :: r, h => by
    simp only [deepL, cntL]
    have h1 := h p (by simp)
    have h2 := deepL_le r fun q hq => h q (by simp [hq])
    omega
theorem deepF_le : ∀ (p : PlanD), deepF p ≤ cntF p :=
  PlanD.ind fun p ih => by
    rw [deepF_eq, cntF_eq]
    have := deepL_le p.kids ih
    omega
theorem weighF_eq (p : PlanD) (n most : Nat) : weighF p n most = weighL p.kids (n + 1 + p.cols.length + p.name.size / 100) most := by cases p; rfl
theorem weighL_ge : ∀ (l : List PlanD), (∀ p ∈ l, ∀ n most, n ≤ weighF p n most) → ∀ n most, n ≤ weighL l n most
  | [], _, _, _ => Nat.le_refl _
  | p :: r, h, n, most => by
    simp only [weighL]
    split
    · exact Nat.le_trans (h p (by simp) n most) (weighL_ge r (fun q hq => h q (by simp [hq])) _ _)
    · exact Nat.le_refl _
theorem weighF_ge : ∀ (p : PlanD) (n most : Nat), n ≤ weighF p n most :=
  PlanD.ind fun p ih n most => by
    rw [weighF_eq]
    exact Nat.le_trans (by omega) (weighL_ge p.kids ih _ _)
theorem weighL_cnt : ∀ (l : List PlanD), (∀ p ∈ l, ∀ n most, weighF p n most ≤ most → n + cntF p ≤ weighF p n most) → ∀ n most, weighL l n most ≤ most → n + cntL l ≤ weighL l n most
  | [], _, n, most, _ => by simp [weighL, cntL]
  | p :: r, h, n, most, hw => by
    simp only [weighL] at hw ⊢
    split at hw
    · rename_i hn
      rw [if_pos hn]
      have h1 := weighL_cnt r (fun q hq => h q (by simp [hq])) _ _ hw
      have h2 := h p (by simp) n most (by have := weighL_ge r (fun q _ => weighF_ge q) (weighF p n most) most; omega)
      simp only [cntL]; omega
    · omega
theorem weighF_cnt : ∀ (p : PlanD) (n most : Nat), weighF p n most ≤ most → n + cntF p ≤ weighF p n most :=
  PlanD.ind fun p ih n most hw => by
    rw [weighF_eq] at hw ⊢
    have := weighL_cnt p.kids ih _ _ hw
    rw [cntF_eq]; omega
theorem weighF_le : ∀ (p : PlanD) (n most : Nat), p.Ok → n ≤ most → weighF p n most ≤ most + 2 ^ 52 :=
  PlanD.ind fun p ih n most hp hn => by
    rw [weighF_eq]
    have h1 := hp.cols
    have h2 := hp.name
    have key : ∀ (l : List PlanD), (∀ q ∈ l, ∀ n most, q.Ok → n ≤ most → weighF q n most ≤ most + 2 ^ 52) → (∀ q ∈ l, q.Ok) → ∀ m, m ≤ most + 2 ^ 52 → weighL l m most ≤ most + 2 ^ 52 := by
      intro l
      induction l with
      | nil => intro _ _ m hm; exact hm
      | cons q r ihr =>
        intro h1 h2 m hm
        simp only [weighL]
        split
        · rename_i hmm
          exact ihr (fun x hx => h1 x (by simp [hx])) (fun x hx => h2 x (by simp [hx])) _ (h1 q (by simp) m most (h2 q (by simp)) hmm)
        · exact hm
    exact key p.kids ih hp.kid _ (by omega)
inductive PlanD.Sm : PlanD → Prop
  | mk (p : PlanD) : p.name.size ≤ 1073741824 → p.cols.length ≤ 1073741824 → p.kids.length ≤ 1073741824 → (∀ k ∈ p.kids, k.Sm) → p.Sm
theorem PlanD.Sm.name {p : PlanD} : p.Sm → p.name.size ≤ 1073741824 | .mk _ h _ _ _ => h
theorem PlanD.Sm.cols {p : PlanD} : p.Sm → p.cols.length ≤ 1073741824 | .mk _ _ h _ _ => h
theorem PlanD.Sm.len {p : PlanD} : p.Sm → p.kids.length ≤ 1073741824 | .mk _ _ _ h _ => h
theorem PlanD.Sm.kid {p : PlanD} : p.Sm → ∀ k ∈ p.kids, k.Sm | .mk _ _ _ _ h => h
theorem weighL_sm {most : Nat} : ∀ (l : List PlanD) (n : Nat), weighL l n most ≤ most → ∀ q ∈ l, ∃ m, weighF q m most ≤ most
  | [], _, _, q, hq => by cases hq
  | p :: r, n, hw, q, hq => by
    simp only [weighL] at hw
    split at hw
    · have h1 := weighL_ge r (fun q _ => weighF_ge q) (weighF p n most) most
      rcases List.mem_cons.1 hq with rfl | hq
      · exact ⟨n, by omega⟩
      · exact weighL_sm r _ hw q hq
    · omega
theorem sm_of_weigh {most : Nat} (hm : most ≤ 100000) : ∀ (p : PlanD) (n : Nat), weighF p n most ≤ most → p.Sm :=
  PlanD.ind fun p ih n hw => by
    have hc := weighF_cnt p n most hw
    rw [weighF_eq] at hw
    have h1 := weighL_ge p.kids (fun q _ => weighF_ge q) (n + 1 + p.cols.length + p.name.size / 100) most
    rw [cntF_eq] at hc
    have h2 := kids_cnt p.kids
    refine ⟨p, by omega, by omega, ?_, fun q hq => ?_⟩
    · have := weighL_cnt p.kids (fun q _ => weighF_cnt q) _ _ hw
      omega
    · obtain ⟨m, h⟩ := weighL_sm p.kids _ hw q hq
      exact ih q hq m h
theorem weigh_spec : ∀ (p : PlanD), p.Ok → ∀ (n most : Nat), n ≤ most → most ≤ 100000 → ACallsD Try.prog 22 [.agg p.cells, .i .i64 n, .i .i64 most] (.i .i64 (weighF p n most)) :=
  PlanD.ind fun p ih hp n most hn hm => by
    have h1 := hp.cols
    have h2 := hp.name
    have h3 := hp.len
    have hwle := weighF_le p n most hp hn
    have hmt : ∀ (a : Nat), a ≤ 1125899906842624 → Int.tdiv (a : Int) 100 = ((a / 100 : Nat) : Int) := fun a _ => by rw [Int.tdiv_eq_ediv_of_nonneg (by omega)]; omega
    rw [PlanD.cells_eq]
    refine ACalls_of' (n := 40) (rs := [.tmp 6]) (show Try.prog.funcs[22]? = some Try.f22 by kernel_rfl) rfl rfl rfl (by simp) (by decide +kernel) ?_
    repeat (first | refine nav ?_ | refine bo ?_)
    (refine wr fun K R hK hR => ?_; simp (maxSteps := 10000000) only [go_sem]; (try go_ints); (repeat refine And.intro side ?_); (first | refine hK _ ?_ | refine hR _ _ ?_); clear hK hR K R)
    repeat (first | refine nav ?_ | refine bo ?_)
    (refine wr fun K R hK hR => ?_; simp (maxSteps := 10000000) only [go_sem, hmt _ h2]; (try go_ints); (try simp only [go_sem, hmt _ h2]); (repeat refine And.intro side ?_); (first | refine hK _ ?_ | refine hR _ _ ?_); clear hK hR K R)
    repeat (first | refine nav ?_ | refine bo ?_)
    (refine wr fun K R hK hR => ?_; simp (maxSteps := 10000000) only [go_sem]; (try go_ints); (repeat refine And.intro side ?_); (first | refine hK _ ?_ | refine hR _ _ ?_); clear hK hR K R)
    repeat (first | refine nav ?_ | refine bo ?_)
    refine W_for 19 39 [1, 7] (fun m t o => ∃ (k m' : Nat), [Ob.cells 7 [[AV.i .i64 p.kind, .i .i64 p.width, .i .i64 p.i, .i .i64 p.j, .s p.name, .sl 1 (ints p.cols), .sl 7 (plans p.kids)]]] = o ∧ t 7 = .i .i64 k ∧ t 1 = .i .i64 m' ∧ m = p.kids.length - k ∧ k ≤ p.kids.length ∧ m' ≤ most + 2 ^ 52 ∧ weighL (p.kids.drop k) m' most = weighF p n most) p.kids.length
      ⟨0, n + 1 + p.cols.length + p.name.size / 100, rfl, by simp only [go_sem] <;> rfl, by simp only [go_sem] <;> (congr 1 <;> omega), by omega, by omega, by omega, by rw [weighF_eq]; rfl⟩ ?_
    rintro m t o ⟨k, m', rfl, h7, h1', rfl, hk, hml, hi⟩
    repeat (first | refine nav ?_ | refine bo ?_)
    (refine wr fun K R hK hR => ?_; simp (maxSteps := 10000000) only [go_sem, h7, h1']; (try go_ints); (try simp only [go_sem, h7, h1']); (repeat refine And.intro side ?_); (first | refine hK _ ?_ | refine hR _ _ ?_); clear hK hR K R)
    repeat (first | refine nav ?_ | refine bo ?_)
    refine W_cond (by simp only [go_sem] <;> exact rfl) (fun hb => ?_) (fun hb => ?_)
    · simp only [Bool.and_eq_true, decide_eq_true_eq] at hb
      have hb1 : k < p.kids.length := by omega
      have hb2 : m' ≤ most := by omega
      obtain ⟨x, hx⟩ : ∃ x, p.kids[k]? = some x := ⟨_, List.getElem?_eq_getElem hb1⟩
      have hxm := List.mem_of_getElem? hx
      rw [drop_kids hx, weighL, if_pos hb2] at hi
      have hxl := weighF_le x m' most (hp.kid x hxm) hb2
      have hcx := x.cells_eq
      repeat (first | refine nav ?_ | refine bo ?_)
      (refine wr fun K R hK hR => ?_; simp (maxSteps := 10000000) only [go_sem, h7, h1', plans_get hx]; (try go_ints); (try simp only [go_sem, h7, h1', plans_get hx]); (repeat refine And.intro side ?_); (first | refine hK _ ?_ | refine hR _ _ ?_); clear hK hR K R)
      have ihx := ih x hxm (hp.kid x hxm) m' most hb2 hm
      rw [hcx] at ihx
      refine RL_callF (ihx) rfl rfl rfl (by first | (simp only [go_sem] <;> first | exact LeA.refl _ | exact Le.refl _) | exact LeA.refl _) rfl rfl ?_
      (refine rr fun K R hK hR => ?_; simp (maxSteps := 10000000) only [go_sem]; (try go_ints); (repeat refine And.intro side ?_); (first | refine hK _ ?_ | refine hR _ _ ?_); clear hK hR K R)
      repeat (first | refine nav ?_ | refine bo ?_)
      (refine wr fun K R hK hR => ?_; simp (maxSteps := 10000000) only [go_sem, h7]; (try go_ints); (try simp only [go_sem, h7]); (repeat refine And.intro side ?_); (first | refine hK _ ?_ | refine hR _ _ ?_); clear hK hR K R)
      refine forQ_normal (p.kids.length - (k + 1)) (by omega) ⟨k + 1, weighF x m' most, ?_⟩
      ((try simp only [go_sem]); (repeat' refine And.intro ?_ ?_) <;> (try first | with_reducible rfl | omega | with_reducible assumption | (simp; done)))
    · have hb' : ¬ (k < p.kids.length ∧ m' ≤ most) := by simpa using hb
      have hi' : m' = weighF p n most := by
        rcases Nat.lt_or_ge k p.kids.length with hlt | hge
        · obtain ⟨x, hx⟩ : ∃ x, p.kids[k]? = some x := ⟨_, List.getElem?_eq_getElem hlt⟩
          rw [drop_kids hx, weighL, if_neg (by omega)] at hi
          exact hi
        · rw [List.drop_eq_nil_of_le hge, weighL] at hi; exact hi
      repeat (first | refine nav ?_ | refine bo ?_)
      (refine wr fun K R hK hR => ?_; simp (maxSteps := 10000000) only [go_sem, h1']; (try go_ints); (try simp only [go_sem, h1']); (repeat refine And.intro side ?_); (first | refine hK _ ?_ | refine hR _ _ ?_); clear hK hR K R)
      repeat (first | refine nav ?_ | refine bo ?_)
      refine endQ_data (by simp only [go_sem] <;> exact rfl) (Le.of_eq ?_) rfl
      rw [hi']
theorem count_spec : ∀ (p : PlanD), p.Ok → cntF p ≤ 100000 → ACallsD Try.prog 19 [.agg p.cells] (.tup [.i .i64 (cntF p), .i .i64 (deepF p)]) :=
  PlanD.ind fun p ih hp hc => by
    rw [PlanD.cells_eq]
    refine ACalls_of' (n := 34) (rs := [.tmp 2, .tmp 3]) (show Try.prog.funcs[19]? = some Try.f19 by kernel_rfl) rfl rfl rfl (by simp) (by decide +kernel) ?_
    repeat (first | refine nav ?_ | refine bo ?_)
    (refine wr fun K R hK hR => ?_; simp (maxSteps := 10000000) only [go_sem]; (try go_ints); (repeat refine And.intro side ?_); (first | refine hK _ ?_ | refine hR _ _ ?_); clear hK hR K R)
    repeat (first | refine nav ?_ | refine bo ?_)
    (refine wr fun K R hK hR => ?_; simp (maxSteps := 10000000) only [go_sem]; (try go_ints); (repeat refine And.intro side ?_); (first | refine hK _ ?_ | refine hR _ _ ?_); clear hK hR K R)
    repeat (first | refine nav ?_ | refine bo ?_)
    (refine wr fun K R hK hR => ?_; simp (maxSteps := 10000000) only [go_sem]; (try go_ints); (repeat refine And.intro side ?_); (first | refine hK _ ?_ | refine hR _ _ ?_); clear hK hR K R)
    repeat (first | refine nav ?_ | refine bo ?_)
    have hdk := deepF_le p
    refine W_for 9 31 [4, 5, 6, 7, 8] (fun m t o => ∃ (k n' d' : Nat), [Ob.cells 7 [[AV.i .i64 p.kind, .i .i64 p.width, .i .i64 p.i, .i .i64 p.j, .s p.name, .sl 1 (ints p.cols), .sl 7 (plans p.kids)]]] = o ∧ t 6 = .i .i64 k ∧ t 4 = .i .i64 n' ∧ t 5 = .i .i64 d' ∧ m = p.kids.length - k ∧ k ≤ p.kids.length ∧ n' + cntL (p.kids.drop k) = cntF p ∧ max d' (deepL (p.kids.drop k)) + 1 = deepF p) p.kids.length
      ⟨0, 1, 0, rfl, by simp only [go_sem] <;> rfl, by simp only [go_sem] <;> rfl, by simp only [go_sem] <;> rfl, by omega, by omega, by rw [cntF_eq, List.drop_zero], by rw [deepF_eq, List.drop_zero]; omega⟩ ?_
    rintro m t o ⟨k, n', d', rfl, h6, h4, h5, rfl, hk, hi, hj⟩
    have h3 := hp.len
    repeat (first | refine nav ?_ | refine bo ?_)
    (refine wr fun K R hK hR => ?_; simp (maxSteps := 10000000) only [go_sem, h6]; (try go_ints); (try simp only [go_sem, h6]); (repeat refine And.intro side ?_); (first | refine hK _ ?_ | refine hR _ _ ?_); clear hK hR K R)
    repeat (first | refine nav ?_ | refine bo ?_)
    refine W_cond (by simp only [go_sem] <;> exact rfl) (fun hb => ?_) (fun hb => ?_)
    · have hb1 : k < p.kids.length := by simpa using hb
      obtain ⟨x, hx⟩ : ∃ x, p.kids[k]? = some x := ⟨_, List.getElem?_eq_getElem hb1⟩
      have hxm := List.mem_of_getElem? hx
      rw [drop_kids hx, cntL] at hi
      rw [drop_kids hx, deepL] at hj
      have hcx := x.cells_eq
      have hdx := deepF_le x
      repeat (first | refine nav ?_ | refine bo ?_)
      (refine wr fun K R hK hR => ?_; simp (maxSteps := 10000000) only [go_sem, h6, plans_get hx]; (try go_ints); (try simp only [go_sem, h6, plans_get hx]); (repeat refine And.intro side ?_); (first | refine hK _ ?_ | refine hR _ _ ?_); clear hK hR K R)
      have ihx := ih x hxm (hp.kid x hxm) (by omega)
      rw [hcx] at ihx
      refine RL_callF (ihx) rfl rfl rfl (by first | (simp only [go_sem] <;> first | exact LeA.refl _ | exact Le.refl _) | exact LeA.refl _) rfl rfl ?_
      (refine rr fun K R hK hR => ?_; simp (maxSteps := 10000000) only [go_sem]; (try go_ints); (repeat refine And.intro side ?_); (first | refine hK _ ?_ | refine hR _ _ ?_); clear hK hR K R)
      repeat (first | refine nav ?_ | refine bo ?_)
      (refine wr fun K R hK hR => ?_; simp (maxSteps := 10000000) only [go_sem, h4, h5]; (try go_ints); (try simp only [go_sem, h4, h5]); (repeat refine And.intro side ?_); (first | refine hK _ ?_ | refine hR _ _ ?_); clear hK hR K R)
      repeat (first | refine nav ?_ | refine bo ?_)
      (refine wr fun K R hK hR => ?_; simp (maxSteps := 10000000) only [go_sem, h6]; (try go_ints); (try simp only [go_sem, h6]); (repeat refine And.intro side ?_); (first | refine hK _ ?_ | refine hR _ _ ?_); clear hK hR K R)
      refine forQ_normal (p.kids.length - (k + 1)) (by omega) ⟨k + 1, n' + cntF x, max d' (deepF x), rfl, by simp only [go_sem] <;> simp, by simp only [go_sem] <;> simp, by simp only [go_sem] <;> (congr 1; split <;> omega), rfl, by omega, by omega, by omega⟩
    · have hb' : k = p.kids.length := by have : ¬ k < p.kids.length := by simpa using hb
                                         omega
      subst hb'
      rw [List.drop_length, cntL] at hi
      rw [List.drop_length, deepL] at hj
      repeat (first | refine nav ?_ | refine bo ?_)
      (refine wr fun K R hK hR => ?_; simp (maxSteps := 10000000) only [go_sem, h4, h5]; (try go_ints); (try simp only [go_sem, h4, h5]); (repeat refine And.intro side ?_); (first | refine hK _ ?_ | refine hR _ _ ?_); clear hK hR K R)
      repeat (first | refine nav ?_ | refine bo ?_)
      refine endQ_data (by simp only [go_sem] <;> exact rfl) (Le.of_eq ?_) rfl
      have e1 : n' = cntF p := by omega
      have e2 : (d' : Int) + 1 = deepF p := by omega
      rw [e1, e2]
theorem few_spec (p : PlanD) (hp : p.Ok) (most : Nat) (hm : most ≤ 100000) : ACallsD Try.prog 5 [.i .i64 most, .sl 7 (plans [p])] (.b (decide (weighF p 0 most ≤ most))) := by
  have hwle := weighF_le p 0 most hp (by omega)
  have hpl : (plans [p]).getD 0 [] = _ := plans_get (l := [p]) (k := 0) (x := p) rfl
  refine ACalls_of' (n := 28) (rs := [.tmp 4]) (show Try.prog.funcs[5]? = some Try.f5 by kernel_rfl) rfl rfl rfl (by simp) (by decide +kernel) ?_
  repeat (first | refine nav ?_ | refine bo ?_)
  (refine wr fun K R hK hR => ?_; simp (maxSteps := 10000000) only [go_sem]; (try go_ints); (repeat refine And.intro side ?_); (first | refine hK _ ?_ | refine hR _ _ ?_); clear hK hR K R)
  repeat (first | refine nav ?_ | refine bo ?_)
  (refine wr fun K R hK hR => ?_; simp (maxSteps := 10000000) only [go_sem]; (try go_ints); (repeat refine And.intro side ?_); (first | refine hK _ ?_ | refine hR _ _ ?_); clear hK hR K R)
  repeat (first | refine nav ?_ | refine bo ?_)
  (refine wr fun K R hK hR => ?_; simp (maxSteps := 10000000) only [go_sem]; (try go_ints); (repeat refine And.intro side ?_); (first | refine hK _ ?_ | refine hR _ _ ?_); clear hK hR K R)
  repeat (first | refine nav ?_ | refine bo ?_)
  refine W_for 7 25 [5, 6] (fun m t o => ∃ (k m' : Nat), [] = o ∧ t 6 = .i .i64 k ∧ t 5 = .i .i64 m' ∧ m = 1 - k ∧ (k = 0 ∧ m' = 0 ∨ k = 1 ∧ m' = weighF p 0 most)) 1 ⟨0, 0, rfl, by simp only [go_sem] <;> rfl, by simp only [go_sem] <;> rfl, by omega, .inl ⟨rfl, rfl⟩⟩ ?_
  rintro m t o ⟨k, m', rfl, h6, h5, rfl, hkm⟩
  have hm' : m' ≤ most + 2 ^ 52 := by omega
  repeat (first | refine nav ?_ | refine bo ?_)
  (refine wr fun K R hK hR => ?_; simp (maxSteps := 10000000) only [go_sem, h6, h5]; (try go_ints); (try simp only [go_sem, h6, h5]); (repeat refine And.intro side ?_); (first | refine hK _ ?_ | refine hR _ _ ?_); clear hK hR K R)
  repeat (first | refine nav ?_ | refine bo ?_)
  rcases hkm with ⟨rfl, rfl⟩ | ⟨rfl, rfl⟩
  · refine W_cond (b := true) (by simp only [go_sem] <;> simp) (fun _ => ?_) (fun hb => by cases hb)
    repeat (first | refine nav ?_ | refine bo ?_)
    (refine wr fun K R hK hR => ?_; simp (maxSteps := 10000000) only [go_sem, h6, h5, hpl]; (try go_ints); (try simp only [go_sem, h6, h5, hpl]); (repeat refine And.intro side ?_); (first | refine hK _ ?_ | refine hR _ _ ?_); clear hK hR K R)
    have hw := weigh_spec p hp 0 most (by omega) hm
    rw [PlanD.cells_eq] at hw
    refine RL_callF (hw) rfl rfl rfl (by first | (simp only [go_sem] <;> first | exact LeA.refl _ | exact Le.refl _) | exact LeA.refl _) rfl rfl ?_
    (refine rr fun K R hK hR => ?_; simp (maxSteps := 10000000) only [go_sem]; (try go_ints); (repeat refine And.intro side ?_); (first | refine hK _ ?_ | refine hR _ _ ?_); clear hK hR K R)
    repeat (first | refine nav ?_ | refine bo ?_)
    (refine wr fun K R hK hR => ?_; simp (maxSteps := 10000000) only [go_sem, h6]; (try go_ints); (try simp only [go_sem, h6]); (repeat refine And.intro side ?_); (first | refine hK _ ?_ | refine hR _ _ ?_); clear hK hR K R)
    refine forQ_normal 0 (by omega) ⟨1, weighF p 0 most, ?_⟩
    ((try simp only [go_sem]); (repeat' refine And.intro ?_ ?_) <;> (try first | with_reducible rfl | omega | with_reducible assumption | (simp; done)))
  · refine W_cond (b := false) (by simp only [go_sem] <;> simp) (fun hb => by cases hb) (fun _ => ?_)
    repeat (first | refine nav ?_ | refine bo ?_)
    (refine wr fun K R hK hR => ?_; simp (maxSteps := 10000000) only [go_sem, h5]; (try go_ints); (try simp only [go_sem, h5]); (repeat refine And.intro side ?_); (first | refine hK _ ?_ | refine hR _ _ ?_); clear hK hR K R)
    repeat (first | refine nav ?_ | refine bo ?_)
    refine endQ_data (by simp only [go_sem] <;> exact rfl) (Le.of_eq ?_) rfl
    simp
end Go.AW
namespace Go.AW
open Go Go.Proofs TyTry Go.IntWalk
set_option linter.unusedSimpArgs false
set_option linter.unusedVariables false
set_option maxRecDepth 10000
set_option maxHeartbeats 1000000
abbrev Names := List (ByteArray × Int)
def syms (l : Names) : List (List AV) := l.map fun x => [.s x.1, .i .i64 x.2]
theorem syms_len (l : Names) : (syms l).length = l.length := by simp [syms]
theorem syms_get {l : Names} {k : Nat} {x : ByteArray × Int} (h : l[k]? = some x) : (syms l).getD k [] = [.s x.1, .i .i64 x.2] := by simp [syms, h]
theorem syms_snoc (l : Names) (x : ByteArray × Int) : syms (l ++ [x]) = syms l ++ [[.s x.1, .i .i64 x.2]] := by simp [syms]
attribute [go_sem] syms_len
mutual
/-- The names and widths of a plan's relations. -/
def symsF : PlanD → Names
  | .mk k w _ _ nm _ ks => if k = 0 then [(nm, w)] else symsL ks
def symsL : List PlanD → Names
  | [] => []
  | p :: r => symsF p ++ symsL r
end
theorem symsF_eq (p : PlanD) : symsF p = if p.kind = 0 then [(p.name, p.width)] else symsL p.kids := by cases p; rfl
theorem symsL_len : ∀ (l : List PlanD), (∀ p ∈ l, (symsF p).length ≤ cntF p) → (symsL l).length ≤ cntL l
  | [], _ => Nat.le_refl _
  | p :: r, h => by
    simp only [symsL, cntL, List.length_append]
    have h1 := h p (by simp)
    have h2 := symsL_len r fun q hq => h q (by simp [hq])
    omega
theorem symsF_len : ∀ (p : PlanD), (symsF p).length ≤ cntF p :=
  PlanD.ind fun p ih => by
    rw [symsF_eq, cntF_eq]
    have := symsL_len p.kids ih
    split
    · simp
    · omega
theorem rsyms_spec : ∀ (p : PlanD), p.Ok → ∀ (acc : Names) (a : AV), (a = .nsl ∧ acc = [] ∨ a = .own 2 (syms acc)) → acc.length + cntF p ≤ 100000 → ACallsD Try.prog 28 [.agg p.cells, a] (.own 2 (syms (acc ++ symsF p))) :=
  PlanD.ind fun p ih hp acc a ha hc => by
    have h3 := hp.len
    have hcp := cntF_pos p
    have hkl : p.kids.length ≤ 100000 := by
      have := kids_cnt p.kids
      rw [cntF_eq] at hc; omega
    rw [PlanD.cells_eq]
    refine ACalls_of' (n := 32) (rs := [.tmp 4]) (show Try.prog.funcs[28]? = some Try.f28 by kernel_rfl) rfl rfl rfl (by simp) (by decide +kernel) ?_
    repeat (first | refine nav ?_ | refine bo ?_)
    (refine wr fun K R hK hR => ?_; simp (maxSteps := 10000000) only [go_sem]; (try go_ints); (repeat refine And.intro side ?_); (first | refine hK _ ?_ | refine hR _ _ ?_); clear hK hR K R)
    repeat (first | refine nav ?_ | refine bo ?_)
    (refine wr fun K R hK hR => ?_; simp (maxSteps := 10000000) only [go_sem]; (try go_ints); (repeat refine And.intro side ?_); (first | refine hK _ ?_ | refine hR _ _ ?_); clear hK hR K R)
    repeat (first | refine nav ?_ | refine bo ?_)
    refine W_cond (b := p.kind == 0) (by simp only [go_sem]) (fun hb => ?_) (fun hb => ?_)
    · have hk : symsF p = [(p.name, p.width)] := by rw [symsF_eq, if_pos (by simpa using hb)]
      rw [hk]
      rw [syms_snoc]
      rcases ha with ⟨rfl, rfl⟩ | rfl
      · repeat (first | refine nav ?_ | refine bo ?_)
        (refine W_reg [9] fun K R hK hR => ?_; simp (maxSteps := 10000000) only [go_sem]; (try go_ints); (repeat refine And.intro side ?_); (first | refine hK _ ?_ | refine hR _ _ ?_); clear hK hR K R)
        repeat (first | refine nav ?_ | refine bo ?_)
        refine endQ_data (by simp only [go_sem] <;> exact rfl) (Le.of_eq ?_) rfl
        rfl
      · have hl : (syms acc).length = acc.length := syms_len acc
        repeat (first | refine nav ?_ | refine bo ?_)
        (refine W_reg [9] fun K R hK hR => ?_; simp (maxSteps := 10000000) only [go_sem, hl]; (try go_ints); (try simp only [go_sem, hl]); (repeat refine And.intro side ?_); (first | refine hK _ ?_ | refine hR _ _ ?_); clear hK hR K R)
        repeat (first | refine nav ?_ | refine bo ?_)
        refine endQ_data (by simp only [go_sem] <;> exact rfl) (Le.of_eq ?_) rfl
        rfl
    · have hk : symsF p = symsL p.kids := by rw [symsF_eq, if_neg (by simpa using hb)]
      rw [hk]
      rw [cntF_eq] at hc
      repeat (first | refine nav ?_ | refine bo ?_)
      (refine wr fun K R hK hR => ?_; simp (maxSteps := 10000000) only [go_sem]; (try go_ints); (repeat refine And.intro side ?_); (first | refine hK _ ?_ | refine hR _ _ ?_); clear hK hR K R)
      repeat (first | refine nav ?_ | refine bo ?_)
      refine W_for 17 31 [1, 5] (fun m t o => ∃ (k : Nat) (ac : Names), [Ob.cells 7 [[AV.i .i64 p.kind, .i .i64 p.width, .i .i64 p.i, .i .i64 p.j, .s p.name, .sl 1 (ints p.cols), .sl 7 (plans p.kids)]]] = o ∧ t 5 = .i .i64 k ∧ (t 1 = .nsl ∧ ac = [] ∨ t 1 = .own 2 (syms ac)) ∧ m = p.kids.length - k ∧ k ≤ p.kids.length ∧ ac ++ symsL (p.kids.drop k) = acc ++ symsL p.kids ∧ ac.length + cntL (p.kids.drop k) ≤ 100000) p.kids.length
        ⟨0, acc, rfl, by simp only [go_sem] <;> rfl, by simp only [go_sem] <;> exact ha, by omega, by omega, rfl, by rw [List.drop_zero]; omega⟩ ?_
      rintro m t o ⟨k, ac, rfl, h5, h1, rfl, hk, hi, hcl⟩
      repeat (first | refine nav ?_ | refine bo ?_)
      (refine wr fun K R hK hR => ?_; simp (maxSteps := 10000000) only [go_sem, h5]; (try go_ints); (try simp only [go_sem, h5]); (repeat refine And.intro side ?_); (first | refine hK _ ?_ | refine hR _ _ ?_); clear hK hR K R)
      repeat (first | refine nav ?_ | refine bo ?_)
      refine W_cond (by simp only [go_sem] <;> exact rfl) (fun hb => ?_) (fun hb => ?_)
      · have hb1 : k < p.kids.length := by simpa using hb
        obtain ⟨x, hx⟩ : ∃ x, p.kids[k]? = some x := ⟨_, List.getElem?_eq_getElem hb1⟩
        have hxm := List.mem_of_getElem? hx
        rw [drop_kids hx, symsL, ← List.append_assoc] at hi
        rw [drop_kids hx, cntL] at hcl
        have hcx := x.cells_eq
        have hsl := symsF_len x
        have ihx := ih x hxm (hp.kid x hxm) ac _ (.inr rfl) (by omega)
        rw [hcx] at ihx
        have hcl2 : (ac ++ symsF x).length + cntL (p.kids.drop (k + 1)) ≤ 100000 := by rw [List.length_append]; omega
        repeat (first | refine nav ?_ | refine bo ?_)
        rcases h1 with ⟨h1, rfl⟩ | h1
        · (refine wr fun K R hK hR => ?_; simp (maxSteps := 10000000) only [go_sem, h5, h1, plans_get hx]; (try go_ints); (try simp only [go_sem, h5, h1, plans_get hx]); (repeat refine And.intro side ?_); (first | refine hK _ ?_ | refine hR _ _ ?_); clear hK hR K R)
          refine RL_callF (ihx) rfl rfl rfl (by first | (simp only [go_sem] <;> first | exact LeA.refl _ | exact Le.refl _) | exact LeA.refl _) rfl rfl ?_
          (refine rr fun K R hK hR => ?_; simp (maxSteps := 10000000) only [go_sem]; (try go_ints); (repeat refine And.intro side ?_); (first | refine hK _ ?_ | refine hR _ _ ?_); clear hK hR K R)
          repeat (first | refine nav ?_ | refine bo ?_)
          (refine wr fun K R hK hR => ?_; simp (maxSteps := 10000000) only [go_sem, h5]; (try go_ints); (try simp only [go_sem, h5]); (repeat refine And.intro side ?_); (first | refine hK _ ?_ | refine hR _ _ ?_); clear hK hR K R)
          refine forQ_normal (p.kids.length - (k + 1)) (by omega) ⟨k + 1, [] ++ symsF x, ?_⟩
          ((try simp only [go_sem]); (repeat' refine And.intro ?_ ?_) <;> (try first | with_reducible rfl | omega | with_reducible assumption | (simp; done)))
          simpa using hi
        · (refine W_reg [29] fun K R hK hR => ?_; simp (maxSteps := 10000000) only [go_sem, h5, h1, plans_get hx]; (try go_ints); (try simp only [go_sem, h5, h1, plans_get hx]); (repeat refine And.intro side ?_); (first | refine hK _ ?_ | refine hR _ _ ?_); clear hK hR K R)
          refine RL_callF (ihx) rfl rfl rfl (by first | (simp only [go_sem] <;> first | exact LeA.refl _ | exact Le.refl _) | exact LeA.refl _) rfl rfl ?_
          (refine rr fun K R hK hR => ?_; simp (maxSteps := 10000000) only [go_sem]; (try go_ints); (repeat refine And.intro side ?_); (first | refine hK _ ?_ | refine hR _ _ ?_); clear hK hR K R)
          repeat (first | refine nav ?_ | refine bo ?_)
          (refine wr fun K R hK hR => ?_; simp (maxSteps := 10000000) only [go_sem, h5]; (try go_ints); (try simp only [go_sem, h5]); (repeat refine And.intro side ?_); (first | refine hK _ ?_ | refine hR _ _ ?_); clear hK hR K R)
          refine forQ_normal (p.kids.length - (k + 1)) (by omega) ⟨k + 1, ac ++ symsF x, ?_⟩
          ((try simp only [go_sem]); (repeat' refine And.intro ?_ ?_) <;> (try first | with_reducible rfl | omega | with_reducible assumption | (simp; done)))
          simpa using hi
      · have hb' : k = p.kids.length := by have : ¬ k < p.kids.length := by simpa using hb
                                           omega
        subst hb'
        rw [List.drop_length, symsL, List.append_nil] at hi
        rw [← hi]
        rcases h1 with ⟨h1, rfl⟩ | h1
        · repeat (first | refine nav ?_ | refine bo ?_)
          (refine wr fun K R hK hR => ?_; simp (maxSteps := 10000000) only [go_sem, h1]; (try go_ints); (try simp only [go_sem, h1]); (repeat refine And.intro side ?_); (first | refine hK _ ?_ | refine hR _ _ ?_); clear hK hR K R)
          repeat (first | refine nav ?_ | refine bo ?_)
          refine endQ_data (by simp only [go_sem] <;> exact rfl) (Le.of_eq ?_) rfl
          rfl
        · repeat (first | refine nav ?_ | refine bo ?_)
          (refine W_reg [31] fun K R hK hR => ?_; simp (maxSteps := 10000000) only [go_sem, h1]; (try go_ints); (try simp only [go_sem, h1]); (repeat refine And.intro side ?_); (first | refine hK _ ?_ | refine hR _ _ ?_); clear hK hR K R)
          repeat (first | refine nav ?_ | refine bo ?_)
          refine endQ_data (by simp only [go_sem] <;> exact rfl) (Le.of_eq ?_) rfl
          rfl
def clash (l : Names) (i k : Nat) : Bool := (l.getD k (⟨#[]⟩, 0)).1.toList == (l.getD i (⟨#[]⟩, 0)).1.toList && (l.getD k (⟨#[]⟩, 0)).2 != (l.getD i (⟨#[]⟩, 0)).2
def oneW (l : Names) : Bool := (List.range l.length).all fun i => (List.range i).all fun k => !clash l i k
theorem oneW_true {l : Names} (h : ∀ i < l.length, ∀ k < i, clash l i k = false) : oneW l = true := by
  unfold oneW
  rw [List.all_eq_true]
  intro i hi
  rw [List.all_eq_true]
  intro k hk
  rw [h i (List.mem_range.1 hi) k (List.mem_range.1 hk)]; rfl
theorem oneW_false {l : Names} {i k : Nat} (hi : i < l.length) (hk : k < i) (h : clash l i k = true) : oneW l = false := by
  rw [Bool.eq_false_iff]
  intro e
  unfold oneW at e
  rw [List.all_eq_true] at e
  have := e i (List.mem_range.2 hi)
  rw [List.all_eq_true] at this
  have := this k (List.mem_range.2 hk)
  rw [h] at this; cases this
end Go.AW
namespace Go.AW
open Go Go.Proofs TyTry Go.IntWalk
set_option linter.unusedSimpArgs false
set_option linter.unusedVariables false
set_option maxRecDepth 10000
set_option maxHeartbeats 4000000
theorem ints_push (l : List Int) (x : Int) : ints (l ++ [x]) = ints l ++ [[.i .i64 x]] := by simp [ints]
def ents (l : Names) : List (AV × AV) := l.map fun x => (.s x.1, .i .i64 x.2)
def lookN (nm : ByteArray) : Names → Option Int
  | [] => none
  | x :: r => if nm == x.1 then some x.2 else lookN nm r
def setN (nm : ByteArray) (w : Int) : Names → Names
  | [] => [(nm, w)]
  | x :: r => if nm == x.1 then (nm, w) :: r else x :: setN nm w r
theorem mfind_ents (nm : ByteArray) : ∀ l : Names, mfind (.s nm) (ents l) = some ((lookN nm l).map (.i .i64))
  | [] => rfl
  | x :: r => by
    simp only [ents, List.map_cons, mfind, keq, lookN]
    cases h : (nm == x.1)
    · exact mfind_ents nm r
    · simp
theorem mset_ents (nm : ByteArray) (w : Int) : ∀ l : Names, mset (.s nm) (.i .i64 w) (ents l) = some (ents (setN nm w l))
  | [] => rfl
  | x :: r => by
    simp only [ents, List.map_cons, mset, keq, setN]
    cases h : (nm == x.1)
    · have := mset_ents nm w r
      unfold ents at this
      simp only [this]; rfl
    · simp
def badF (p : PlanD) (lv n : Nat) : Bool := decide (p.kind < 0) || decide (p.kind ≥ 8) || decide ((n : Int) > 4000) || decide ((lv : Int) > 1000) || !spareF p || ((p.kids.length : Int) != kidsF p.kind)
def finF (p : PlanD) (of : List Int) (ws : Names) : Option (Int × Names) :=
  let cap (bad : Bool) (w : Int) (ws : Names) : Option (Int × Names) := if (bad || decide (w < 0) || decide (w > 12)) = true then none else some (w, ws)
  if p.kind = 0 then cap (!nameF p.name || match lookN p.name ws with | some n => n != p.width | none => false) p.width (setN p.name p.width ws)
  else if p.kind = 2 ∨ p.kind = 3 then cap (!insideF (of.getD 0 0) [p.i, p.j]) (of.getD 0 0) ws
  else if p.kind = 4 then cap false (of.getD 0 0 + of.getD 1 0) ws
  else if p.kind = 5 then cap (!insideF (of.getD 0 0) p.cols) p.cols.length ws
  else if p.kind = 6 ∨ p.kind = 7 then cap (of.getD 0 0 != of.getD 1 0) (of.getD 0 0) ws
  else cap false p.width ws
mutual
/-- A plan's width, the number of nodes walked so far, the widths seen; nothing where the plan is bad. -/
def walkF : PlanD → Nat → Nat → Names → Option (Int × Nat × Names)
  | .mk k w i j nm cs ks, lv, n, ws =>
    if badF (.mk k w i j nm cs ks) lv (n + 1) = true then none
    else match walkL ks (lv + 1) (n + 1) ws with
      | none => none
      | some (of, n', ws') => match finF (.mk k w i j nm cs ks) of ws' with
        | none => none
        | some (x, ws'') => some (x, n', ws'')
def walkL : List PlanD → Nat → Nat → Names → Option (List Int × Nat × Names)
  | [], _, n, ws => some ([], n, ws)
  | p :: r, lv, n, ws => match walkF p lv n ws with
    | none => none
    | some (x, n', ws') => match walkL r lv n' ws' with
      | none => none
      | some (l, n'', ws'') => some (x :: l, n'', ws'')
end
theorem walkF_eq (p : PlanD) (lv n : Nat) (ws : Names) : walkF p lv n ws = if badF p lv (n + 1) = true then none
    else match walkL p.kids (lv + 1) (n + 1) ws with
      | none => none
      | some (of, n', ws') => match finF p of ws' with
        | none => none
        | some (x, ws'') => some (x, n', ws'') := by cases p; rfl
theorem walkL_snoc (p : PlanD) (lv : Nat) : ∀ (l : List PlanD) (n : Nat) (ws : Names), walkL (l ++ [p]) lv n ws = match walkL l lv n ws with
    | none => none
    | some (of, n', ws') => match walkF p lv n' ws' with
      | none => none
      | some (x, n'', ws'') => some (of ++ [x], n'', ws'')
  | [], n, ws => by
    simp only [List.nil_append, walkL]
  | q :: r, n, ws => by
    simp only [List.cons_append, walkL]
    cases walkF q lv n ws with
    | none => rfl
    | some y =>
      obtain ⟨x, n', ws'⟩ := y
      simp only [walkL_snoc p lv r n' ws']
      cases walkL r lv n' ws' with
      | none => rfl
      | some z =>
        obtain ⟨l, n2, ws2⟩ := z
        simp only
        cases walkF p lv n2 ws2 with
        | none => rfl
        | some y2 => obtain ⟨x2, n3, ws3⟩ := y2; rfl
theorem walkL_stop {lv n : Nat} {ws : Names} : ∀ {l l' : List PlanD}, walkL l lv n ws = none → walkL (l ++ l') lv n ws = none := by
  intro l l'
  induction l generalizing n ws with
  | nil => intro h; cases h
  | cons q r ih =>
    intro h
    simp only [List.cons_append, walkL] at h ⊢
    cases hq : walkF q lv n ws with
    | none => rfl
    | some y =>
      obtain ⟨x, n', ws'⟩ := y
      rw [hq] at h
      simp only at h ⊢
      cases hr : walkL r lv n' ws' with
      | none => rw [ih hr]
      | some z => obtain ⟨l2, n2, ws2⟩ := z; rw [hr] at h; cases h
theorem finF_bd {p : PlanD} {of : List Int} {ws ws' : Names} {x : Int} (h : finF p of ws = some (x, ws')) : 0 ≤ x ∧ x ≤ 12 := by
  have key : ∀ (bad : Bool) (w : Int) (ws0 : Names), (if (bad || decide (w < 0) || decide (w > 12)) = true then none else some (w, ws0)) = some (x, ws') → 0 ≤ x ∧ x ≤ 12 := by
    intro bad w ws0 h
    split at h
    · cases h
    · rename_i hb
      simp only [Bool.or_eq_true, decide_eq_true_eq, not_or] at hb
      simp only [Option.some.injEq, Prod.mk.injEq] at h
      omega
  unfold finF at h
  simp only at h
  split at h
  · exact key _ _ _ h
  · split at h
    · exact key _ _ _ h
    · split at h
      · exact key _ _ _ h
      · split at h
        · exact key _ _ _ h
        · split at h
          · exact key _ _ _ h
          · exact key _ _ _ h
theorem walkL_bd {lv : Nat} : ∀ {l : List PlanD}, (∀ p ∈ l, ∀ (n : Nat) (ws : Names) x n' ws', walkF p lv n ws = some (x, n', ws') → n' ≤ 4000 ∧ 0 ≤ x ∧ x ≤ 12) → ∀ {n : Nat} {ws : Names} {of : List Int} {n' : Nat} {ws' : Names}, n ≤ 4000 → walkL l lv n ws = some (of, n', ws') → n' ≤ 4000 ∧ of.length = l.length ∧ ∀ x ∈ of, 0 ≤ x ∧ x ≤ 12
  | [], _, n, ws, of, n', ws', hn, h => by
    simp only [walkL, Option.some.injEq, Prod.mk.injEq] at h
    obtain ⟨rfl, rfl, rfl⟩ := h
    exact ⟨hn, rfl, by simp⟩
  | p :: r, hp, n, ws, of, n', ws', hn, h => by
    simp only [walkL] at h
    cases hq : walkF p lv n ws with
    | none => rw [hq] at h; cases h
    | some y =>
      obtain ⟨x, n1, ws1⟩ := y
      rw [hq] at h
      simp only at h
      cases hr : walkL r lv n1 ws1 with
      | none => rw [hr] at h; cases h
      | some z =>
        obtain ⟨l2, n2, ws2⟩ := z
        rw [hr] at h
        simp only [Option.some.injEq, Prod.mk.injEq] at h
        obtain ⟨rfl, rfl, rfl⟩ := h
        have h1 := hp p (by simp) n ws x n1 ws1 hq
        have h2 := walkL_bd (fun q hq => hp q (by simp [hq])) h1.1 hr
        refine ⟨h2.1, by simp [h2.2.1], fun z hz => ?_⟩
        rcases List.mem_cons.1 hz with rfl | hz
        · exact h1.2
        · exact h2.2.2 z hz
theorem walkF_bd : ∀ (p : PlanD) (lv n : Nat) (ws : Names) (x : Int) (n' : Nat) (ws' : Names), walkF p lv n ws = some (x, n', ws') → n' ≤ 4000 ∧ 0 ≤ x ∧ x ≤ 12 :=
  PlanD.ind fun p ih lv n ws x n' ws' h => by
    rw [walkF_eq] at h
    split at h
    · cases h
    · rename_i hb
      have hn : n + 1 ≤ 4000 := by
        have : ¬ ((n + 1 : Nat) : Int) > 4000 := fun hgt => hb (by unfold badF; rw [decide_eq_true hgt]; simp)
        omega
      cases hr : walkL p.kids (lv + 1) (n + 1) ws with
      | none => rw [hr] at h; cases h
      | some z =>
        obtain ⟨of, n2, ws2⟩ := z
        rw [hr] at h
        simp only at h
        cases hf : finF p of ws2 with
        | none => rw [hf] at h; cases h
        | some y =>
          obtain ⟨x2, ws3⟩ := y
          rw [hf] at h
          simp only [Option.some.injEq, Prod.mk.injEq] at h
          obtain ⟨rfl, rfl, rfl⟩ := h
          exact ⟨(walkL_bd (fun q hq n ws x n' ws' h => ih q hq (lv + 1) n ws x n' ws' h) hn hr).1, finF_bd hf⟩
end Go.AW
namespace Go.AW
open Go Go.Proofs TyTry Go.IntWalk
set_option linter.unusedSimpArgs false
set_option linter.unusedVariables false
set_option maxRecDepth 10000
set_option maxHeartbeats 4000000
attribute [go_sem] List.modify_zero_cons
structure WRep (o : List Ob) (K M : Nat) (n : Nat) (bad : Bool) (ws : Names) : Prop where
  k : o[K]? = some (.cells 3 [[.i .i64 n, .mp M, .b bad]])
  m : o[M]? = some (.mapo (ents ws))
  ok : okO o = true
theorem WRep.ne {o : List Ob} {K M n : Nat} {bad : Bool} {ws : Names} (h : WRep o K M n bad ws) : K ≠ M := by
  rintro rfl
  have := h.k.symm.trans h.m
  simp at this
structure Fr2 (o o' : List Ob) (K M : Nat) : Prop where
  len : o.length ≤ o'.length
  get : ∀ j, j ≠ K → j ≠ M → j < o.length → o'[j]? = o[j]?
theorem Fr2.refl (o : List Ob) (K M : Nat) : Fr2 o o K M := ⟨Nat.le_refl _, fun _ _ _ _ => rfl⟩
theorem Fr2.trans {o o1 o2 : List Ob} {K M : Nat} (h : Fr2 o o1 K M) (h' : Fr2 o1 o2 K M) : Fr2 o o2 K M :=
  ⟨Nat.le_trans h.len h'.len, fun j a b c => (h'.get j a b (Nat.lt_of_lt_of_le c h.len)).trans (h.get j a b c)⟩
theorem Fr2.app (o l : List Ob) (K M : Nat) : Fr2 o (o ++ l) K M := ⟨by simp, fun j _ _ h => by rw [List.getElem?_append_left h]⟩
theorem WRep.app {o : List Ob} {K M n : Nat} {bad : Bool} {ws : Names} (h : WRep o K M n bad ws) {l : List Ob} (hl : l.all (Ob.ltk (o.length + l.length)) = true) : WRep (o ++ l) K M n bad ws :=
  ⟨app_get l h.k, app_get l h.m, okO_app h.ok hl⟩
theorem okO_set {o : List Ob} {i : Nat} {x : Ob} (h : okO o = true) (hx : x.ltk o.length = true) : okO (o.set i x) = true := by
  unfold okO at h ⊢
  rw [List.all_eq_true] at h ⊢
  rw [List.length_set]
  intro y hy
  rcases List.mem_or_eq_of_mem_set hy with hy | rfl
  · exact h y hy
  · exact hx
theorem ents_ltk (k : Nat) (ws : Names) : (Ob.mapo (ents ws)).ltk k = true := by
  simp [Ob.ltk, ents, AV.ltk]
theorem WRep.set {o : List Ob} {K M n : Nat} {bad : Bool} {ws : Names} (h : WRep o K M n bad ws) (n' : Nat) (bad' : Bool) : WRep (o.set K (.cells 3 [[.i .i64 n', .mp M, .b bad']])) K M n' bad' ws ∧ Fr2 o (o.set K (.cells 3 [[.i .i64 n', .mp M, .b bad']])) K M := by
  have hM := (List.getElem?_eq_some_iff.1 h.m).1
  refine ⟨⟨by rw [set_get h.k, if_pos rfl], by rw [set_get h.k, if_neg (Ne.symm h.ne)]; exact h.m, okO_set h.ok (by simp [Ob.ltk, AV.ltk, hM])⟩, by simp, fun j a b c => by rw [set_get h.k, if_neg a]⟩
theorem WRep.setM {o : List Ob} {K M n : Nat} {bad : Bool} {ws : Names} (h : WRep o K M n bad ws) (ws' : Names) : WRep (o.set M (.mapo (ents ws'))) K M n bad ws' ∧ Fr2 o (o.set M (.mapo (ents ws'))) K M := by
  refine ⟨⟨by rw [set_get h.m, if_neg h.ne]; exact h.k, by rw [set_get h.m, if_pos rfl], okO_set h.ok (ents_ltk _ _)⟩, by simp, fun j a b c => by rw [set_get h.m, if_neg b]⟩
def WalkP (o : List Ob) (K M : Nat) (res : Option (Int × Nat × Names)) (r : AV) (o' : List Ob) : Prop := Fr2 o o' K M ∧ match res with
  | some (w, n, ws) => r = .i .i64 w ∧ WRep o' K M n false ws
  | none => ∃ (w : Int) (n : Nat) (ws : Names), r = .i .i64 w ∧ WRep o' K M n true ws
theorem WalkP.shape {o : List Ob} {K M : Nat} {res : Option (Int × Nat × Names)} {r : AV} {o' : List Ob} (h : WalkP o K M res r o') : o.length ≤ o'.length ∧ r.ltk o'.length = true ∧ okO o' = true := by
  obtain ⟨h1, h2⟩ := h
  refine ⟨h1.len, ?_⟩
  cases res with
  | none => obtain ⟨w, n, ws, rfl, h⟩ := h2; exact ⟨rfl, h.ok⟩
  | some y => obtain ⟨w, n, ws⟩ := y; obtain ⟨rfl, h⟩ := h2; exact ⟨rfl, h.ok⟩
abbrev boxP (p : PlanD) : Ob := .cells 7 [[.i .i64 p.kind, .i .i64 p.width, .i .i64 p.i, .i .i64 p.j, .s p.name, .sl 1 (ints p.cols), .sl 7 (plans p.kids)]]
theorem boxP_ltk (k : Nat) (p : PlanD) : (boxP p).ltk k = true := by simp [Ob.ltk, AV.ltk]
theorem walk_spec : ∀ (p : PlanD), p.Sm → ∀ (lv n : Nat) (ws : Names) (o : List Ob) (K M : Nat), n ≤ 4000 → lv ≤ 1001 → WRep o K M n false ws →
    ACalls Try.prog 41 [.ptr K 0 0, .agg p.cells, .i .i64 lv] o (WalkP o K M (walkF p lv n ws)) :=
  PlanD.ind fun p ih hp lv n ws o K M hn hlv h => by
    have h1 := hp.cols
    have h2 := hp.name
    have h3 := hp.len
    have hsp := spare_spec p
    have hkd := kids_spec p.kind
    rw [PlanD.cells_eq] at hsp ⊢
    refine ACalls_of' (n := 191) (rs := [.tmp 6]) (show Try.prog.funcs[41]? = some Try.f41 by kernel_rfl) rfl rfl rfl (by simp) (by decide +kernel) ?_
    repeat (first | refine nav ?_ | refine bo ?_)
    (refine wr fun K R hK hR => ?_; simp (maxSteps := 10000000) only [go_sem]; (try go_ints); (repeat refine And.intro side ?_); (first | refine hK _ ?_ | refine hR _ _ ?_); clear hK hR K R)
    have hB : (boxP p).ltk (o.length + 1) = true := boxP_ltk _ p
    have ha := h.app (l := [boxP p]) (by simpa using hB)
    have hfa := Fr2.app o [boxP p] K M
    have hab : (o ++ [boxP p])[o.length]? = some (boxP p) := by simp
    have hBK : o.length ≠ K := by have := (List.getElem?_eq_some_iff.1 h.k).1; omega
    have hBM : o.length ≠ M := by have := (List.getElem?_eq_some_iff.1 h.m).1; omega
    generalize ho1 : o ++ [boxP p] = o1 at *
    have hlen1 : o.length < o1.length := by rw [← ho1]; simp
    generalize hoB : o.length = B at *
    repeat (first | refine nav ?_ | refine bo ?_)
    (refine wr fun K R hK hR => ?_; simp (maxSteps := 10000000) only [go_sem, ha.k]; (try go_ints); (try simp only [go_sem, ha.k]); (repeat refine And.intro side ?_); (first | refine hK _ ?_ | refine hR _ _ ?_); clear hK hR K R)
    rw [show (n : Int) + 1 = ((n + 1 : Nat) : Int) from rfl]
    obtain ⟨hs, hfs⟩ := ha.set (n + 1) false
    have hab2 : (o1.set K (.cells 3 [[.i .i64 ((n + 1 : Nat) : Int), .mp M, .b false]]))[B]? = some (boxP p) := (hfs.get B hBK hBM hlen1).trans hab
    have hf1 := hfa.trans hfs
    generalize hres : walkF p lv n ws = res
    rw [walkF_eq] at hres
    have hn1 : n + 1 ≤ 4001 := by omega
    generalize n + 1 = n1 at *
    generalize o1.set K (.cells 3 [[.i .i64 (n1 : Int), .mp M, .b false]]) = o2 at *
    clear hfa hfs hab ha ho1 hlen1 o1 hn
    repeat (first | refine nav ?_ | refine bo ?_)
    (refine W_dreg (by decide +kernel) [] [0, 1, 2, 3, 4, 5, 6, 7, 8, 9, 10, 11, 12, 13, 14, 15, 16, 17, 18, 19, 20, 21, 22, 23, 24, 25, 26, 27, 28, 29, 30, 31, 32] [[], [0], [0, 1], [1, 0, 2], [2, 0, 1, 3], [3, 1, 0, 2, 4], [4, 2, 0, 1, 3, 5], [5, 4, 6, 2, 0, 1, 3], [3, 1, 0, 2, 6, 4, 5, 7], [7, 5, 4, 6, 2, 0, 1, 3, 8], [8, 3, 1, 0, 2, 6, 4, 5, 7, 9], [9, 7, 5, 4, 6, 2, 0, 1, 3, 8, 10], [10, 8, 3, 1, 0, 2, 6, 4, 5, 7, 9, 11], [11, 9, 7, 5, 4, 6, 2, 0, 1, 3, 8, 10, 12], [12, 10, 9, 11, 13, 7, 5, 4, 6, 2, 0, 1, 3, 8], [8, 3, 1, 0, 2, 6, 4, 5, 7, 13, 11, 9, 10, 12, 14], [14, 12, 10, 9, 11, 13, 7, 5, 4, 6, 2, 0, 1, 3, 8, 15], [15, 8, 3, 1, 0, 2, 6, 4, 5, 7, 13, 11, 9, 10, 12, 14, 16], [16, 17, 14, 12, 10, 9, 11, 13, 7, 5, 4, 6, 2, 0, 1, 3, 8, 15], [15, 8, 3, 1, 0, 2, 6, 4, 5, 7, 13, 11, 9, 10, 12, 14, 17, 16, 18], [18, 16, 17, 14, 12, 10, 9, 11, 13, 7, 5, 4, 6, 2, 0, 1, 3, 8, 15, 19], [19, 15, 8, 3, 1, 0, 2, 6, 4, 5, 7, 13, 11, 9, 10, 12, 14, 17, 16, 18, 20], [20, 18, 16, 17, 14, 12, 10, 9, 11, 13, 7, 5, 4, 6, 2, 0, 1, 3, 8, 15, 19, 21], [21, 20, 22, 18, 16, 17, 14, 12, 10, 9, 11, 13, 7, 5, 4, 6, 2, 0, 1, 3, 8, 15, 19], [19, 15, 8, 3, 1, 0, 2, 6, 4, 5, 7, 13, 11, 9, 10, 12, 14, 17, 16, 18, 22, 20, 21, 23], [23, 21, 20, 22, 18, 16, 17, 14, 12, 10, 9, 11, 13, 7, 5, 4, 6, 2, 0, 1, 3, 8, 15, 19, 24], [24, 19, 15, 8, 3, 1, 0, 2, 6, 4, 5, 7, 13, 11, 9, 10, 12, 14, 17, 16, 18, 22, 20, 21, 23, 25], [25, 23, 21, 20, 22, 18, 16, 17, 14, 12, 10, 9, 11, 13, 7, 5, 4, 6, 2, 0, 1, 3, 8, 15, 19, 24, 26], [23, 21, 20, 22, 18, 16, 17, 14, 12, 10, 9, 11, 13, 7, 5, 4, 6, 2, 0, 1, 3, 8, 15, 19, 24], [24, 19, 15, 8, 3, 1, 0, 2, 6, 4, 5, 7, 13, 11, 9, 10, 12, 14, 17, 16, 18, 22, 20, 21, 23, 28], [28, 23, 21, 20, 22, 18, 16, 17, 14, 12, 10, 9, 11, 13, 7, 5, 4, 6, 2, 0, 1, 3, 8, 15, 19, 24, 29], [29, 28, 30, 26, 24, 19, 15, 8, 3, 1, 0, 2, 6, 4, 5, 7, 13, 11, 9, 10, 12, 14, 17, 16, 18, 22, 20, 21, 23, 25, 27], [27, 25, 26, 30, 28, 29, 31, 23, 21, 20, 22, 18, 16, 17, 14, 12, 10, 9, 11, 13, 7, 5, 4, 6, 2, 0, 1, 3, 8, 15, 19, 24]] (by decide +kernel) rfl fun K R hK hR => ?_; simp only [List.filterMap_cons, List.filterMap_nil, List.getElem?_cons_zero, List.getElem?_cons_succ, List.cons_append, List.nil_append]; simp (maxSteps := 10000000) only [go_sem, hs.k, hab2]; (try go_ints); (try simp only [go_sem, hs.k, hab2]); (repeat refine And.intro side ?_); (first | refine hK _ ?_ | refine hR _ _ ?_); clear hK hR K R)
    refine D_callDg rfl (by simp only [go_sem] <;> exact rfl) (fun e => hsp) rfl rfl rfl (fun e => by (try simp only [go_sem] at e); simp only [go_sem, e] <;> (try simp only [go_sem]) <;> first | exact LeA.refl _ | exact Le.refl _) rfl rfl rfl rfl ?_
    (refine D_reg fun K R hK hR => ?_; simp (maxSteps := 10000000) only [go_sem, hs.k, hab2]; (try go_ints); (try simp only [go_sem, hs.k, hab2]); (repeat refine And.intro side ?_); (first | refine hK _ ?_ | refine hR _ _ ?_); clear hK hR K R)
    refine D_callDg rfl (by simp only [go_sem] <;> exact rfl) (fun e => hkd) rfl rfl rfl (fun e => by (try simp only [go_sem] at e); simp only [go_sem, e] <;> (try simp only [go_sem]) <;> first | exact LeA.refl _ | exact Le.refl _) rfl rfl rfl rfl ?_
    (refine D_reg fun K R hK hR => ?_; simp (maxSteps := 10000000) only [go_sem]; (try go_ints); (repeat refine And.intro side ?_); (first | refine hK _ ?_ | refine hR _ _ ?_); clear hK hR K R)
    repeat (first | refine nav ?_ | refine bo ?_)
    refine W_cond (b := badF p lv n1) (by simp only [go_sem] <;> exact rfl) (fun hb => ?_) (fun hb => ?_)
    · rw [if_pos hb] at hres
      subst hres
      repeat (first | refine nav ?_ | refine bo ?_)
      (refine wr fun K R hK hR => ?_; simp (maxSteps := 10000000) only [go_sem, hs.k]; (try go_ints); (try simp only [go_sem, hs.k]); (repeat refine And.intro side ?_); (first | refine hK _ ?_ | refine hR _ _ ?_); clear hK hR K R)
      obtain ⟨hs2, hfs2⟩ := hs.set n1 true
      generalize o2.set K (.cells 3 [[.i .i64 (n1 : Int), .mp M, .b true]]) = o3 at *
      repeat (first | refine nav ?_ | refine bo ?_)
      (refine wr fun K R hK hR => ?_; simp (maxSteps := 10000000) only [go_sem, hs2.k]; (try go_ints); (try simp only [go_sem, hs2.k]); (repeat refine And.intro side ?_); (first | refine hK _ ?_ | refine hR _ _ ?_); clear hK hR K R)
      repeat (first | refine nav ?_ | refine bo ?_)
      refine W_cond (b := true) (by simp only [go_sem] <;> exact rfl) (fun _ => ?_) (fun hb => by cases hb)
      repeat (first | refine nav ?_ | refine bo ?_)
      (refine wr fun K R hK hR => ?_; simp (maxSteps := 10000000) only [go_sem]; (try go_ints); (repeat refine And.intro side ?_); (first | refine hK _ ?_ | refine hR _ _ ?_); clear hK hR K R)
      repeat (first | refine nav ?_ | refine bo ?_)
      exact endQ_all (by simp only [go_sem] <;> exact rfl) (Le.refl _) (by have := (hf1.trans hfs2).len; simp only; omega) hs2.ok rfl ⟨hf1.trans hfs2, 0, n1, ws, rfl, hs2⟩
    rw [if_neg (by simp [hb])] at hres
    repeat (first | refine nav ?_ | refine bo ?_)
    (refine wr fun K R hK hR => ?_; simp (maxSteps := 10000000) only [go_sem, hs.k]; (try go_ints); (try simp only [go_sem, hs.k]); (repeat refine And.intro side ?_); (first | refine hK _ ?_ | refine hR _ _ ?_); clear hK hR K R)
    repeat (first | refine nav ?_ | refine bo ?_)
    refine W_cond (b := false) (by simp only [go_sem] <;> exact rfl) (fun hb => by cases hb) (fun _ => ?_)
    have hb2 : (n1 : Int) ≤ 4000 ∧ (lv : Int) ≤ 1000 ∧ (p.kids.length : Int) = kidsF p.kind ∧ 0 ≤ p.kind ∧ p.kind < 8 := by
      unfold badF at hb
      simp only [Bool.or_eq_false_iff, decide_eq_false_iff_not, bne_eq_false_iff_eq] at hb
      omega
    have hkl : p.kids.length ≤ 2 := by
      have : kidsF p.kind ≤ 2 := by unfold kidsF; split <;> (try split) <;> omega
      omega
    repeat (first | refine nav ?_ | refine bo ?_)
    (refine wr fun K R hK hR => ?_; simp (maxSteps := 10000000) only [go_sem]; (try go_ints); (repeat refine And.intro side ?_); (first | refine hK _ ?_ | refine hR _ _ ?_); clear hK hR K R)
    repeat (first | refine nav ?_ | refine bo ?_)
    (refine wr fun K R hK hR => ?_; simp (maxSteps := 10000000) only [go_sem, hab2]; (try go_ints); (try simp only [go_sem, hab2]); (repeat refine And.intro side ?_); (first | refine hK _ ?_ | refine hR _ _ ?_); clear hK hR K R)
    refine seqQ_normal ?_
    have hls : ∀ {k : Nat} {l : List Int} {n' : Nat} {ws' : Names}, walkL (p.kids.take k) (lv + 1) n1 ws = some (l, n', ws') → n' ≤ 4000 ∧ l.length = (p.kids.take k).length ∧ ∀ x ∈ l, 0 ≤ x ∧ x ≤ 12 :=
      fun h => walkL_bd (fun q _ n ws x n' ws' h => walkF_bd q _ n ws x n' ws' h) (by omega) h
    repeat (first | refine nav ?_ | refine bo ?_)
    refine W_for 63 80 [7, 9] (fun m t o' => ∃ (k : Nat) (of : List Int) (n' : Nat) (ws' : Names), WRep o' K M n' false ws' ∧ Fr2 o2 o' K M ∧ t 63 = .i .i64 k ∧ t 7 = .own 1 (ints of) ∧ m = p.kids.length - k ∧ k ≤ p.kids.length ∧ walkL (p.kids.take k) (lv + 1) n1 ws = some (of, n', ws')) p.kids.length
      ⟨0, [], n1, ws, hs, Fr2.refl _ _ _, by simp only [go_sem] <;> rfl, by simp only [go_sem] <;> rfl, by omega, by omega, rfl⟩ ?_
    rintro m t o' ⟨k, of, n', ws', hw, hfr, h63, h7, rfl, hk, hwl⟩
    have hbx : o'[B]? = some (boxP p) := (hfr.get B hBK hBM (List.getElem?_eq_some_iff.1 hab2).1).trans hab2
    obtain ⟨hn', hofl, hofb⟩ := hls hwl
    rw [List.length_take, Nat.min_eq_left hk] at hofl
    repeat (first | refine nav ?_ | refine bo ?_)
    (refine wr fun K R hK hR => ?_; simp (maxSteps := 10000000) only [go_sem, h63]; (try go_ints); (try simp only [go_sem, h63]); (repeat refine And.intro side ?_); (first | refine hK _ ?_ | refine hR _ _ ?_); clear hK hR K R)
    repeat (first | refine nav ?_ | refine bo ?_)
    refine W_cond (by simp only [go_sem] <;> exact rfl) (fun hb => ?_) (fun hb => ?_)
    · have hb1 : k < p.kids.length := by simpa using hb
      obtain ⟨x, hx⟩ : ∃ x, p.kids[k]? = some x := ⟨_, List.getElem?_eq_getElem hb1⟩
      have hxm := List.mem_of_getElem? hx
      have htk : p.kids.take (k + 1) = p.kids.take k ++ [x] := by rw [List.take_add_one, hx]; rfl
      have hcx := x.cells_eq
      repeat (first | refine nav ?_ | refine bo ?_)
      (refine wr fun K R hK hR => ?_; simp (maxSteps := 10000000) only [go_sem, h63, plans_get hx]; (try go_ints); (try simp only [go_sem, h63, plans_get hx]); (repeat refine And.intro side ?_); (first | refine hK _ ?_ | refine hR _ _ ?_); clear hK hR K R)
      have hw3 := hw.app (l := [boxP x]) (by simpa using boxP_ltk (o'.length + 1) x)
      have hf3 := hfr.trans (Fr2.app o' [boxP x] K M)
      have hbx3 : (o' ++ [boxP x])[o'.length]? = some (boxP x) := by simp
      generalize o' ++ [boxP x] = o3 at *
      generalize o'.length = L at *
      have ihx := ih x hxm (hp.kid x hxm) (lv + 1) n' ws' o3 K M hn' (by omega) hw3
      rw [hcx, show ((lv + 1 : Nat) : Int) = lv + 1 from rfl] at ihx
      have hK3 := (List.getElem?_eq_some_iff.1 hw3.k).1
      repeat (first | refine nav ?_ | refine bo ?_)
      (refine W_reg [67] fun K R hK hR => ?_; simp (maxSteps := 10000000) only [go_sem, h7, hbx3]; (try go_ints); (try simp only [go_sem, h7, hbx3]); (repeat refine And.intro side ?_); (first | refine hK _ ?_ | refine hR _ _ ?_); clear hK hR K R)
      refine RL_callE ihx (fun r o' h => h.shape) (by simp only [go_sem] <;> exact rfl) rfl rfl (by simp) (by simp only [go_sem] <;> exact LeA.refl _) hw3.ok (by simp [AV.ltk, AV.ltks, hK3]) ?_
      rintro r o4 ⟨hf4, hpost⟩
      have hsn := walkL_snoc x (lv + 1) (p.kids.take k) n1 ws
      rw [hwl, ← htk] at hsn
      simp only at hsn
      cases hwx : walkF x (lv + 1) n' ws' with
      | none =>
        rw [hwx] at hpost hsn
        obtain ⟨w4, n4, ws4, rfl, hw4⟩ := hpost
        (refine rr fun K R hK hR => ?_; simp (maxSteps := 10000000) only [go_sem, ints_len, hofl]; (try go_ints); (try simp only [go_sem, ints_len, hofl]); (repeat refine And.intro side ?_); (first | refine hK _ ?_ | refine hR _ _ ?_); clear hK hR K R)
        repeat (first | refine nav ?_ | refine bo ?_)
        (refine wr fun K R hK hR => ?_; simp (maxSteps := 10000000) only [go_sem, hw4.k]; (try go_ints); (try simp only [go_sem, hw4.k]); (repeat refine And.intro side ?_); (first | refine hK _ ?_ | refine hR _ _ ?_); clear hK hR K R)
        repeat (first | refine nav ?_ | refine bo ?_)
        refine W_cond (b := true) (by simp only [go_sem] <;> exact rfl) (fun _ => ?_) (fun hb => by cases hb)
        have hno : walkL p.kids (lv + 1) n1 ws = none := by
          rw [← List.take_append_drop (k + 1) p.kids]
          exact walkL_stop hsn
        rw [hno] at hres
        subst hres
        repeat (first | refine nav ?_ | refine bo ?_)
        (refine wr fun K R hK hR => ?_; simp (maxSteps := 10000000) only [go_sem]; (try go_ints); (repeat refine And.intro side ?_); (first | refine hK _ ?_ | refine hR _ _ ?_); clear hK hR K R)
        repeat (first | refine nav ?_ | refine bo ?_)
        have hff := (hf1.trans hf3).trans hf4
        exact endQ_all (by simp only [go_sem] <;> exact rfl) (Le.refl _) (by have := hff.len; simp only; omega) hw4.ok rfl ⟨hff, 0, n4, ws4, rfl, hw4⟩
      | some y =>
        obtain ⟨w4, n4, ws4⟩ := y
        rw [hwx] at hpost hsn
        obtain ⟨rfl, hw4⟩ := hpost
        (refine rr fun K R hK hR => ?_; simp (maxSteps := 10000000) only [go_sem, ints_len, hofl]; (try go_ints); (try simp only [go_sem, ints_len, hofl]); (repeat refine And.intro side ?_); (first | refine hK _ ?_ | refine hR _ _ ?_); clear hK hR K R)
        repeat (first | refine nav ?_ | refine bo ?_)
        (refine wr fun K R hK hR => ?_; simp (maxSteps := 10000000) only [go_sem, hw4.k]; (try go_ints); (try simp only [go_sem, hw4.k]); (repeat refine And.intro side ?_); (first | refine hK _ ?_ | refine hR _ _ ?_); clear hK hR K R)
        repeat (first | refine nav ?_ | refine bo ?_)
        refine W_cond (b := false) (by simp only [go_sem] <;> exact rfl) (fun hb => by cases hb) (fun _ => ?_)
        repeat (first | refine nav ?_ | refine bo ?_)
        (refine wr fun K R hK hR => ?_; simp (maxSteps := 10000000) only [go_sem, h63]; (try go_ints); (try simp only [go_sem, h63]); (repeat refine And.intro side ?_); (first | refine hK _ ?_ | refine hR _ _ ?_); clear hK hR K R)
        refine forQ_normal (p.kids.length - (k + 1)) (by omega) ⟨k + 1, of ++ [w4], n4, ws4, hw4, hf3.trans hf4, by simp only [go_sem] <;> simp, by rw [ints_push]; simp only [go_sem], rfl, by omega, hsn⟩
    · have hk' : k = p.kids.length := by
        have : ¬ k < p.kids.length := by simpa using hb
        omega
      subst hk'
      rw [List.take_length] at hwl
      rw [hwl] at hres
      simp only at hres
      repeat (first | refine nav ?_ | refine bo ?_)
      (refine wr fun K R hK hR => ?_; simp (maxSteps := 10000000) only [go_sem, hbx]; (try go_ints); (try simp only [go_sem, hbx]); (repeat refine And.intro side ?_); (first | refine hK _ ?_ | refine hR _ _ ?_); clear hK hR K R)
      repeat (first | refine nav ?_ | refine bo ?_)
      (refine wr fun K R hK hR => ?_; simp (maxSteps := 10000000) only [go_sem, hbx]; (try go_ints); (try simp only [go_sem, hbx]); (repeat refine And.intro side ?_); (first | refine hK _ ?_ | refine hR _ _ ?_); clear hK hR K R)
      refine seqQ_normal ?_
      refine W_joinS 84 175 [10, 11, 12] (fun t o => ∃ (w : Int) (b1 : Bool) (ws5 : Names), t 10 = .i .i64 w ∧ WRep o K M n' b1 ws5 ∧ Fr2 o' o K M ∧ finF p of ws' = (if (b1 || decide (w < 0) || decide (w > 12)) = true then none else some (w, ws5))) ?_ ?_
      · have hkk : p.kind = 0 ∨ p.kind = 1 ∨ p.kind = 2 ∨ p.kind = 3 ∨ p.kind = 4 ∨ p.kind = 5 ∨ p.kind = 6 ∨ p.kind = 7 := by omega
        have hnm := name_spec p.name (by omega)
        rcases hkk with hk | hk | hk | hk | hk | hk | hk | hk
        · rw [hk] at hb2
          repeat (first | refine nav ?_ | refine bo ?_)
          (refine wr fun K R hK hR => ?_; simp (maxSteps := 10000000) only [go_sem]; (try go_ints); (repeat refine And.intro side ?_); (first | refine hK _ ?_ | refine hR _ _ ?_); clear hK hR K R)
          repeat (first | refine nav ?_ | refine bo ?_)
          refine W_cond (b := true) (by simp only [go_sem, hk] <;> rfl) (fun hb => ?_) (fun hb => by cases hb)
          cases hln : lookN p.name ws' with
          | none =>
            have hmf := mfind_ents p.name ws'
            rw [hln] at hmf
            simp only [Option.map_none, Option.map_some] at hmf
            repeat (first | refine nav ?_ | refine bo ?_)
            (refine W_dreg (by decide +kernel) [] [0, 1, 2, 3, 4, 5, 6, 7, 8, 9, 10, 11] [[], [0], [0, 1], [1, 0, 2], [], [4], [4, 5, 2, 0, 1, 3], [3, 1, 0, 2, 5, 4, 6], [6, 4, 5, 2, 0, 1, 3, 7], [6, 4, 5, 2, 0, 1, 3, 7], [7, 3, 1, 0, 2, 5, 4, 6, 8], [8, 10, 7, 3, 1, 0, 2, 5, 4, 6, 9]] (by decide +kernel) rfl fun K R hK hR => ?_; simp only [List.filterMap_cons, List.filterMap_nil, List.getElem?_cons_zero, List.getElem?_cons_succ, List.cons_append, List.nil_append]; simp (maxSteps := 10000000) only [go_sem, hw.k, hw.m, hbx, hmf]; (try go_ints); (try simp only [go_sem, hw.k, hw.m, hbx, hmf]); (repeat refine And.intro side ?_); (first | refine hK _ ?_ | refine hR _ _ ?_); clear hK hR K R)
            have hfinN : ∀ b1, (!nameF p.name || false) = b1 → finF p of ws' = (if (b1 || decide (p.width < 0) || decide (p.width > 12)) = true then none else some (p.width, setN p.name p.width ws')) := by
              rintro b1 rfl
              unfold finF
              simp only [hk, if_true, hln]
            cases hnf : nameF p.name
            · rw [hnf] at hnm hfinN
              repeat (first | refine nav ?_ | refine bo ?_)
              (refine wr fun K R hK hR => ?_; simp (maxSteps := 10000000) only [go_sem, hbx]; (try go_ints); (try simp only [go_sem, hbx]); (repeat refine And.intro side ?_); (first | refine hK _ ?_ | refine hR _ _ ?_); clear hK hR K R)
              refine RL_callF (hnm) rfl rfl rfl (by first | (simp only [go_sem] <;> first | exact LeA.refl _ | exact Le.refl _) | exact LeA.refl _) rfl rfl ?_
              (refine rr fun K R hK hR => ?_; simp (maxSteps := 10000000) only [go_sem, hw.k]; (try go_ints); (try simp only [go_sem, hw.k]); (repeat refine And.intro side ?_); (first | refine hK _ ?_ | refine hR _ _ ?_); clear hK hR K R)
              obtain ⟨hs6, hf6⟩ := hw.set n' true
              have hbx6 := (hf6.get B hBK hBM (List.getElem?_eq_some_iff.1 hbx).1).trans hbx
              generalize o'.set K (.cells 3 [[.i .i64 (n' : Int), .mp M, .b true]]) = o6 at *
              have hms := mset_ents p.name p.width ws'
              obtain ⟨hs7, hf7⟩ := hs6.setM (setN p.name p.width ws')
              repeat (first | refine nav ?_ | refine bo ?_)
              (refine W_dreg (by decide +kernel) [] [0, 1, 2, 3, 4, 5, 6, 7] [[], [0], [0, 1], [1, 0, 2], [], [4], [], [6, 4, 5, 2, 0, 1, 3]] (by decide +kernel) rfl fun K R hK hR => ?_; simp only [List.filterMap_cons, List.filterMap_nil, List.getElem?_cons_zero, List.getElem?_cons_succ, List.cons_append, List.nil_append]; simp (maxSteps := 10000000) only [go_sem, hs6.k, hs6.m, hbx6, hms]; (try go_ints); (try simp only [go_sem, hs6.k, hs6.m, hbx6, hms]); (repeat refine And.intro side ?_); (first | refine hK _ ?_ | refine hR _ _ ?_); clear hK hR K R)
              repeat (first | refine nav ?_ | refine bo ?_)
              exact joinQ_normal ⟨p.width, true, _, by simp only [go_sem], hs7, hf6.trans hf7, hfinN _ (by simp)⟩
            · rw [hnf] at hnm hfinN
              repeat (first | refine nav ?_ | refine bo ?_)
              (refine wr fun K R hK hR => ?_; simp (maxSteps := 10000000) only [go_sem, hbx]; (try go_ints); (try simp only [go_sem, hbx]); (repeat refine And.intro side ?_); (first | refine hK _ ?_ | refine hR _ _ ?_); clear hK hR K R)
              refine RL_callF (hnm) rfl rfl rfl (by first | (simp only [go_sem] <;> first | exact LeA.refl _ | exact Le.refl _) | exact LeA.refl _) rfl rfl ?_
              (refine rr fun K R hK hR => ?_; simp (maxSteps := 10000000) only [go_sem, hw.k]; (try go_ints); (try simp only [go_sem, hw.k]); (repeat refine And.intro side ?_); (first | refine hK _ ?_ | refine hR _ _ ?_); clear hK hR K R)
              obtain ⟨hs6, hf6⟩ := hw.set n' false
              have hbx6 := (hf6.get B hBK hBM (List.getElem?_eq_some_iff.1 hbx).1).trans hbx
              generalize o'.set K (.cells 3 [[.i .i64 (n' : Int), .mp M, .b false]]) = o6 at *
              have hms := mset_ents p.name p.width ws'
              obtain ⟨hs7, hf7⟩ := hs6.setM (setN p.name p.width ws')
              repeat (first | refine nav ?_ | refine bo ?_)
              (refine W_dreg (by decide +kernel) [] [0, 1, 2, 3, 4, 5, 6, 7] [[], [0], [0, 1], [1, 0, 2], [], [4], [], [6, 4, 5, 2, 0, 1, 3]] (by decide +kernel) rfl fun K R hK hR => ?_; simp only [List.filterMap_cons, List.filterMap_nil, List.getElem?_cons_zero, List.getElem?_cons_succ, List.cons_append, List.nil_append]; simp (maxSteps := 10000000) only [go_sem, hs6.k, hs6.m, hbx6, hms]; (try go_ints); (try simp only [go_sem, hs6.k, hs6.m, hbx6, hms]); (repeat refine And.intro side ?_); (first | refine hK _ ?_ | refine hR _ _ ?_); clear hK hR K R)
              repeat (first | refine nav ?_ | refine bo ?_)
              exact joinQ_normal ⟨p.width, false, _, by simp only [go_sem], hs7, hf6.trans hf7, hfinN _ (by simp)⟩
          | some nn =>
            have hmf := mfind_ents p.name ws'
            rw [hln] at hmf
            simp only [Option.map_none, Option.map_some] at hmf
            repeat (first | refine nav ?_ | refine bo ?_)
            (refine W_dreg (by decide +kernel) [] [0, 1, 2, 3, 4, 5, 6, 7, 8, 9, 10, 11] [[], [0], [0, 1], [1, 0, 2], [], [4], [4, 5, 2, 0, 1, 3], [3, 1, 0, 2, 5, 4, 6], [6, 4, 5, 2, 0, 1, 3, 7], [6, 4, 5, 2, 0, 1, 3, 7], [7, 3, 1, 0, 2, 5, 4, 6, 8], [8, 10, 7, 3, 1, 0, 2, 5, 4, 6, 9]] (by decide +kernel) rfl fun K R hK hR => ?_; simp only [List.filterMap_cons, List.filterMap_nil, List.getElem?_cons_zero, List.getElem?_cons_succ, List.cons_append, List.nil_append]; simp (maxSteps := 10000000) only [go_sem, hw.k, hw.m, hbx, hmf]; (try go_ints); (try simp only [go_sem, hw.k, hw.m, hbx, hmf]); (repeat refine And.intro side ?_); (first | refine hK _ ?_ | refine hR _ _ ?_); clear hK hR K R)
            have hfinN : ∀ b1, (!nameF p.name || nn != p.width) = b1 → finF p of ws' = (if (b1 || decide (p.width < 0) || decide (p.width > 12)) = true then none else some (p.width, setN p.name p.width ws')) := by
              rintro b1 rfl
              unfold finF
              simp only [hk, if_true, hln]
            cases hnf : nameF p.name
            · rw [hnf] at hnm hfinN
              repeat (first | refine nav ?_ | refine bo ?_)
              (refine wr fun K R hK hR => ?_; simp (maxSteps := 10000000) only [go_sem, hbx]; (try go_ints); (try simp only [go_sem, hbx]); (repeat refine And.intro side ?_); (first | refine hK _ ?_ | refine hR _ _ ?_); clear hK hR K R)
              refine RL_callF (hnm) rfl rfl rfl (by first | (simp only [go_sem] <;> first | exact LeA.refl _ | exact Le.refl _) | exact LeA.refl _) rfl rfl ?_
              (refine rr fun K R hK hR => ?_; simp (maxSteps := 10000000) only [go_sem, hw.k]; (try go_ints); (try simp only [go_sem, hw.k]); (repeat refine And.intro side ?_); (first | refine hK _ ?_ | refine hR _ _ ?_); clear hK hR K R)
              obtain ⟨hs6, hf6⟩ := hw.set n' true
              have hbx6 := (hf6.get B hBK hBM (List.getElem?_eq_some_iff.1 hbx).1).trans hbx
              generalize o'.set K (.cells 3 [[.i .i64 (n' : Int), .mp M, .b true]]) = o6 at *
              have hms := mset_ents p.name p.width ws'
              obtain ⟨hs7, hf7⟩ := hs6.setM (setN p.name p.width ws')
              repeat (first | refine nav ?_ | refine bo ?_)
              (refine W_dreg (by decide +kernel) [] [0, 1, 2, 3, 4, 5, 6, 7] [[], [0], [0, 1], [1, 0, 2], [], [4], [], [6, 4, 5, 2, 0, 1, 3]] (by decide +kernel) rfl fun K R hK hR => ?_; simp only [List.filterMap_cons, List.filterMap_nil, List.getElem?_cons_zero, List.getElem?_cons_succ, List.cons_append, List.nil_append]; simp (maxSteps := 10000000) only [go_sem, hs6.k, hs6.m, hbx6, hms]; (try go_ints); (try simp only [go_sem, hs6.k, hs6.m, hbx6, hms]); (repeat refine And.intro side ?_); (first | refine hK _ ?_ | refine hR _ _ ?_); clear hK hR K R)
              repeat (first | refine nav ?_ | refine bo ?_)
              exact joinQ_normal ⟨p.width, true, _, by simp only [go_sem], hs7, hf6.trans hf7, hfinN _ (by simp)⟩
            · rw [hnf] at hnm hfinN
              repeat (first | refine nav ?_ | refine bo ?_)
              (refine wr fun K R hK hR => ?_; simp (maxSteps := 10000000) only [go_sem, hbx]; (try go_ints); (try simp only [go_sem, hbx]); (repeat refine And.intro side ?_); (first | refine hK _ ?_ | refine hR _ _ ?_); clear hK hR K R)
              refine RL_callF (hnm) rfl rfl rfl (by first | (simp only [go_sem] <;> first | exact LeA.refl _ | exact Le.refl _) | exact LeA.refl _) rfl rfl ?_
              (refine rr fun K R hK hR => ?_; simp (maxSteps := 10000000) only [go_sem, hw.k]; (try go_ints); (try simp only [go_sem, hw.k]); (repeat refine And.intro side ?_); (first | refine hK _ ?_ | refine hR _ _ ?_); clear hK hR K R)
              obtain ⟨hs6, hf6⟩ := hw.set n' (nn != p.width)
              have hbx6 := (hf6.get B hBK hBM (List.getElem?_eq_some_iff.1 hbx).1).trans hbx
              generalize o'.set K (.cells 3 [[.i .i64 (n' : Int), .mp M, .b (nn != p.width)]]) = o6 at *
              have hms := mset_ents p.name p.width ws'
              obtain ⟨hs7, hf7⟩ := hs6.setM (setN p.name p.width ws')
              repeat (first | refine nav ?_ | refine bo ?_)
              (refine W_dreg (by decide +kernel) [] [0, 1, 2, 3, 4, 5, 6, 7] [[], [0], [0, 1], [1, 0, 2], [], [4], [], [6, 4, 5, 2, 0, 1, 3]] (by decide +kernel) rfl fun K R hK hR => ?_; simp only [List.filterMap_cons, List.filterMap_nil, List.getElem?_cons_zero, List.getElem?_cons_succ, List.cons_append, List.nil_append]; simp (maxSteps := 10000000) only [go_sem, hs6.k, hs6.m, hbx6, hms]; (try go_ints); (try simp only [go_sem, hs6.k, hs6.m, hbx6, hms]); (repeat refine And.intro side ?_); (first | refine hK _ ?_ | refine hR _ _ ?_); clear hK hR K R)
              repeat (first | refine nav ?_ | refine bo ?_)
              exact joinQ_normal ⟨p.width, (nn != p.width), _, by simp only [go_sem], hs7, hf6.trans hf7, hfinN _ (by simp)⟩
        · rw [hk] at hb2
          repeat (first | refine nav ?_ | refine bo ?_)
          (refine wr fun K R hK hR => ?_; simp (maxSteps := 10000000) only [go_sem]; (try go_ints); (repeat refine And.intro side ?_); (first | refine hK _ ?_ | refine hR _ _ ?_); clear hK hR K R)
          repeat (first | refine nav ?_ | refine bo ?_)
          refine W_cond (b := false) (by simp only [go_sem, hk] <;> rfl) (fun hb => by cases hb) (fun hb => ?_)
          repeat (first | refine nav ?_ | refine bo ?_)
          (refine wr fun K R hK hR => ?_; simp (maxSteps := 10000000) only [go_sem]; (try go_ints); (repeat refine And.intro side ?_); (first | refine hK _ ?_ | refine hR _ _ ?_); clear hK hR K R)
          repeat (first | refine nav ?_ | refine bo ?_)
          refine W_cond (b := false) (by simp only [go_sem, hk] <;> rfl) (fun hb => by cases hb) (fun hb => ?_)
          repeat (first | refine nav ?_ | refine bo ?_)
          (refine wr fun K R hK hR => ?_; simp (maxSteps := 10000000) only [go_sem]; (try go_ints); (repeat refine And.intro side ?_); (first | refine hK _ ?_ | refine hR _ _ ?_); clear hK hR K R)
          repeat (first | refine nav ?_ | refine bo ?_)
          refine W_cond (b := false) (by simp only [go_sem, hk] <;> rfl) (fun hb => by cases hb) (fun hb => ?_)
          repeat (first | refine nav ?_ | refine bo ?_)
          (refine wr fun K R hK hR => ?_; simp (maxSteps := 10000000) only [go_sem]; (try go_ints); (repeat refine And.intro side ?_); (first | refine hK _ ?_ | refine hR _ _ ?_); clear hK hR K R)
          repeat (first | refine nav ?_ | refine bo ?_)
          refine W_cond (b := false) (by simp only [go_sem, hk] <;> rfl) (fun hb => by cases hb) (fun hb => ?_)
          repeat (first | refine nav ?_ | refine bo ?_)
          (refine wr fun K R hK hR => ?_; simp (maxSteps := 10000000) only [go_sem]; (try go_ints); (repeat refine And.intro side ?_); (first | refine hK _ ?_ | refine hR _ _ ?_); clear hK hR K R)
          repeat (first | refine nav ?_ | refine bo ?_)
          refine W_cond (b := false) (by simp only [go_sem, hk] <;> rfl) (fun hb => by cases hb) (fun hb => ?_)
          repeat (first | refine nav ?_ | refine bo ?_)
          (refine wr fun K R hK hR => ?_; simp (maxSteps := 10000000) only [go_sem]; (try go_ints); (repeat refine And.intro side ?_); (first | refine hK _ ?_ | refine hR _ _ ?_); clear hK hR K R)
          repeat (first | refine nav ?_ | refine bo ?_)
          refine W_cond (b := false) (by simp only [go_sem, hk] <;> rfl) (fun hb => by cases hb) (fun hb => ?_)
          repeat (first | refine nav ?_ | refine bo ?_)
          (refine wr fun K R hK hR => ?_; simp (maxSteps := 10000000) only [go_sem]; (try go_ints); (repeat refine And.intro side ?_); (first | refine hK _ ?_ | refine hR _ _ ?_); clear hK hR K R)
          repeat (first | refine nav ?_ | refine bo ?_)
          refine W_cond (b := false) (by simp only [go_sem, hk] <;> rfl) (fun hb => by cases hb) (fun hb => ?_)
          repeat (first | refine nav ?_ | refine bo ?_)
          exact joinQ_normal ⟨p.width, false, ws', by simp only [go_sem], hw, Fr2.refl _ _ _, by unfold finF; simp [hk]⟩
        · rw [hk] at hb2
          obtain ⟨a, rfl⟩ : ∃ a, of = [a] := List.length_eq_one_iff.1 (by have h0 : kidsF 2 = 1 := rfl; omega)
          have hia : ints [a] = [[.i .i64 a]] := rfl
          repeat (first | refine nav ?_ | refine bo ?_)
          (refine wr fun K R hK hR => ?_; simp (maxSteps := 10000000) only [go_sem]; (try go_ints); (repeat refine And.intro side ?_); (first | refine hK _ ?_ | refine hR _ _ ?_); clear hK hR K R)
          repeat (first | refine nav ?_ | refine bo ?_)
          refine W_cond (b := false) (by simp only [go_sem, hk] <;> rfl) (fun hb => by cases hb) (fun hb => ?_)
          repeat (first | refine nav ?_ | refine bo ?_)
          (refine wr fun K R hK hR => ?_; simp (maxSteps := 10000000) only [go_sem]; (try go_ints); (repeat refine And.intro side ?_); (first | refine hK _ ?_ | refine hR _ _ ?_); clear hK hR K R)
          repeat (first | refine nav ?_ | refine bo ?_)
          refine W_cond (b := true) (by simp only [go_sem, hk] <;> rfl) (fun hb => ?_) (fun hb => by cases hb)
          repeat (first | refine nav ?_ | refine bo ?_)
          refine W_cond (b := true) (by simp only [go_sem, hk] <;> rfl) (fun hb => ?_) (fun hb => by cases hb)
          have hin := inside_spec a [p.i, p.j] (by simp)
          rw [show ints [p.i, p.j] = [[.i .i64 p.i], [.i .i64 p.j]] from rfl] at hin
          obtain ⟨hs6, hf6⟩ := hw.set n' (!insideF a [p.i, p.j])
          repeat (first | refine nav ?_ | refine bo ?_)
          (refine wr fun K R hK hR => ?_; simp (maxSteps := 10000000) only [go_sem, h7, hia]; (try go_ints); (try simp only [go_sem, h7, hia]); (repeat refine And.intro side ?_); (first | refine hK _ ?_ | refine hR _ _ ?_); clear hK hR K R)
          repeat (first | refine nav ?_ | refine bo ?_)
          (refine wr fun K R hK hR => ?_; simp (maxSteps := 10000000) only [go_sem, hbx]; (try go_ints); (try simp only [go_sem, hbx]); (repeat refine And.intro side ?_); (first | refine hK _ ?_ | refine hR _ _ ?_); clear hK hR K R)
          refine RL_callF (hin) rfl rfl rfl (by first | (simp only [go_sem] <;> first | exact LeA.refl _ | exact Le.refl _) | exact LeA.refl _) rfl rfl ?_
          (refine rr fun K R hK hR => ?_; simp (maxSteps := 10000000) only [go_sem, hw.k]; (try go_ints); (try simp only [go_sem, hw.k]); (repeat refine And.intro side ?_); (first | refine hK _ ?_ | refine hR _ _ ?_); clear hK hR K R)
          repeat (first | refine nav ?_ | refine bo ?_)
          exact joinQ_normal ⟨a, (!insideF a [p.i, p.j]), ws', by simp only [go_sem], hs6, hf6, by unfold finF; simp [hk]⟩
        · rw [hk] at hb2
          obtain ⟨a, rfl⟩ : ∃ a, of = [a] := List.length_eq_one_iff.1 (by have h0 : kidsF 3 = 1 := rfl; omega)
          have hia : ints [a] = [[.i .i64 a]] := rfl
          repeat (first | refine nav ?_ | refine bo ?_)
          (refine wr fun K R hK hR => ?_; simp (maxSteps := 10000000) only [go_sem]; (try go_ints); (repeat refine And.intro side ?_); (first | refine hK _ ?_ | refine hR _ _ ?_); clear hK hR K R)
          repeat (first | refine nav ?_ | refine bo ?_)
          refine W_cond (b := false) (by simp only [go_sem, hk] <;> rfl) (fun hb => by cases hb) (fun hb => ?_)
          repeat (first | refine nav ?_ | refine bo ?_)
          (refine wr fun K R hK hR => ?_; simp (maxSteps := 10000000) only [go_sem]; (try go_ints); (repeat refine And.intro side ?_); (first | refine hK _ ?_ | refine hR _ _ ?_); clear hK hR K R)
          repeat (first | refine nav ?_ | refine bo ?_)
          refine W_cond (b := false) (by simp only [go_sem, hk] <;> rfl) (fun hb => by cases hb) (fun hb => ?_)
          repeat (first | refine nav ?_ | refine bo ?_)
          (refine wr fun K R hK hR => ?_; simp (maxSteps := 10000000) only [go_sem]; (try go_ints); (repeat refine And.intro side ?_); (first | refine hK _ ?_ | refine hR _ _ ?_); clear hK hR K R)
          repeat (first | refine nav ?_ | refine bo ?_)
          refine W_cond (b := true) (by simp only [go_sem, hk] <;> rfl) (fun hb => ?_) (fun hb => by cases hb)
          have hin := inside_spec a [p.i, p.j] (by simp)
          rw [show ints [p.i, p.j] = [[.i .i64 p.i], [.i .i64 p.j]] from rfl] at hin
          obtain ⟨hs6, hf6⟩ := hw.set n' (!insideF a [p.i, p.j])
          repeat (first | refine nav ?_ | refine bo ?_)
          (refine wr fun K R hK hR => ?_; simp (maxSteps := 10000000) only [go_sem, h7, hia]; (try go_ints); (try simp only [go_sem, h7, hia]); (repeat refine And.intro side ?_); (first | refine hK _ ?_ | refine hR _ _ ?_); clear hK hR K R)
          repeat (first | refine nav ?_ | refine bo ?_)
          (refine wr fun K R hK hR => ?_; simp (maxSteps := 10000000) only [go_sem, hbx]; (try go_ints); (try simp only [go_sem, hbx]); (repeat refine And.intro side ?_); (first | refine hK _ ?_ | refine hR _ _ ?_); clear hK hR K R)
          refine RL_callF (hin) rfl rfl rfl (by first | (simp only [go_sem] <;> first | exact LeA.refl _ | exact Le.refl _) | exact LeA.refl _) rfl rfl ?_
          (refine rr fun K R hK hR => ?_; simp (maxSteps := 10000000) only [go_sem, hw.k]; (try go_ints); (try simp only [go_sem, hw.k]); (repeat refine And.intro side ?_); (first | refine hK _ ?_ | refine hR _ _ ?_); clear hK hR K R)
          repeat (first | refine nav ?_ | refine bo ?_)
          exact joinQ_normal ⟨a, (!insideF a [p.i, p.j]), ws', by simp only [go_sem], hs6, hf6, by unfold finF; simp [hk]⟩
        · rw [hk] at hb2
          obtain ⟨a, b, rfl⟩ : ∃ a b, of = [a, b] := by
            have h2 : of.length = 2 := by have h0 : kidsF 4 = 2 := rfl; omega
            match of, h2 with
            | [a, b], _ => exact ⟨a, b, rfl⟩
          have hia : ints [a, b] = [[.i .i64 a], [.i .i64 b]] := rfl
          repeat (first | refine nav ?_ | refine bo ?_)
          (refine wr fun K R hK hR => ?_; simp (maxSteps := 10000000) only [go_sem]; (try go_ints); (repeat refine And.intro side ?_); (first | refine hK _ ?_ | refine hR _ _ ?_); clear hK hR K R)
          repeat (first | refine nav ?_ | refine bo ?_)
          refine W_cond (b := false) (by simp only [go_sem, hk] <;> rfl) (fun hb => by cases hb) (fun hb => ?_)
          repeat (first | refine nav ?_ | refine bo ?_)
          (refine wr fun K R hK hR => ?_; simp (maxSteps := 10000000) only [go_sem]; (try go_ints); (repeat refine And.intro side ?_); (first | refine hK _ ?_ | refine hR _ _ ?_); clear hK hR K R)
          repeat (first | refine nav ?_ | refine bo ?_)
          refine W_cond (b := false) (by simp only [go_sem, hk] <;> rfl) (fun hb => by cases hb) (fun hb => ?_)
          repeat (first | refine nav ?_ | refine bo ?_)
          (refine wr fun K R hK hR => ?_; simp (maxSteps := 10000000) only [go_sem]; (try go_ints); (repeat refine And.intro side ?_); (first | refine hK _ ?_ | refine hR _ _ ?_); clear hK hR K R)
          repeat (first | refine nav ?_ | refine bo ?_)
          refine W_cond (b := false) (by simp only [go_sem, hk] <;> rfl) (fun hb => by cases hb) (fun hb => ?_)
          repeat (first | refine nav ?_ | refine bo ?_)
          (refine wr fun K R hK hR => ?_; simp (maxSteps := 10000000) only [go_sem]; (try go_ints); (repeat refine And.intro side ?_); (first | refine hK _ ?_ | refine hR _ _ ?_); clear hK hR K R)
          repeat (first | refine nav ?_ | refine bo ?_)
          refine W_cond (b := true) (by simp only [go_sem, hk] <;> rfl) (fun hb => ?_) (fun hb => by cases hb)
          have ha4 := hofb a (by simp)
          have hb4 := hofb b (by simp)
          repeat (first | refine nav ?_ | refine bo ?_)
          (refine W_dreg (by decide +kernel) [] [0, 1, 2, 3, 4, 5, 6, 7] [[], [0], [0, 1], [], [3], [3, 4], [4, 3, 5, 1, 0, 2], [2, 0, 1, 5, 3, 4, 6]] (by decide +kernel) rfl fun K R hK hR => ?_; simp only [List.filterMap_cons, List.filterMap_nil, List.getElem?_cons_zero, List.getElem?_cons_succ, List.cons_append, List.nil_append]; simp (maxSteps := 10000000) only [go_sem, h7, hia]; (try go_ints); (try simp only [go_sem, h7, hia]); (repeat refine And.intro side ?_); (first | refine hK _ ?_ | refine hR _ _ ?_); clear hK hR K R)
          repeat (first | refine nav ?_ | refine bo ?_)
          exact joinQ_normal ⟨(a + b), false, ws', by simp only [go_sem], hw, Fr2.refl _ _ _, by unfold finF; simp [hk]⟩
        · rw [hk] at hb2
          obtain ⟨a, rfl⟩ : ∃ a, of = [a] := List.length_eq_one_iff.1 (by have h0 : kidsF 5 = 1 := rfl; omega)
          have hia : ints [a] = [[.i .i64 a]] := rfl
          repeat (first | refine nav ?_ | refine bo ?_)
          (refine wr fun K R hK hR => ?_; simp (maxSteps := 10000000) only [go_sem]; (try go_ints); (repeat refine And.intro side ?_); (first | refine hK _ ?_ | refine hR _ _ ?_); clear hK hR K R)
          repeat (first | refine nav ?_ | refine bo ?_)
          refine W_cond (b := false) (by simp only [go_sem, hk] <;> rfl) (fun hb => by cases hb) (fun hb => ?_)
          repeat (first | refine nav ?_ | refine bo ?_)
          (refine wr fun K R hK hR => ?_; simp (maxSteps := 10000000) only [go_sem]; (try go_ints); (repeat refine And.intro side ?_); (first | refine hK _ ?_ | refine hR _ _ ?_); clear hK hR K R)
          repeat (first | refine nav ?_ | refine bo ?_)
          refine W_cond (b := false) (by simp only [go_sem, hk] <;> rfl) (fun hb => by cases hb) (fun hb => ?_)
          repeat (first | refine nav ?_ | refine bo ?_)
          (refine wr fun K R hK hR => ?_; simp (maxSteps := 10000000) only [go_sem]; (try go_ints); (repeat refine And.intro side ?_); (first | refine hK _ ?_ | refine hR _ _ ?_); clear hK hR K R)
          repeat (first | refine nav ?_ | refine bo ?_)
          refine W_cond (b := false) (by simp only [go_sem, hk] <;> rfl) (fun hb => by cases hb) (fun hb => ?_)
          repeat (first | refine nav ?_ | refine bo ?_)
          (refine wr fun K R hK hR => ?_; simp (maxSteps := 10000000) only [go_sem]; (try go_ints); (repeat refine And.intro side ?_); (first | refine hK _ ?_ | refine hR _ _ ?_); clear hK hR K R)
          repeat (first | refine nav ?_ | refine bo ?_)
          refine W_cond (b := false) (by simp only [go_sem, hk] <;> rfl) (fun hb => by cases hb) (fun hb => ?_)
          repeat (first | refine nav ?_ | refine bo ?_)
          (refine wr fun K R hK hR => ?_; simp (maxSteps := 10000000) only [go_sem]; (try go_ints); (repeat refine And.intro side ?_); (first | refine hK _ ?_ | refine hR _ _ ?_); clear hK hR K R)
          repeat (first | refine nav ?_ | refine bo ?_)
          refine W_cond (b := true) (by simp only [go_sem, hk] <;> rfl) (fun hb => ?_) (fun hb => by cases hb)
          have hin := inside_spec a p.cols (by omega)
          obtain ⟨hs6, hf6⟩ := hw.set n' (!insideF a p.cols)
          repeat (first | refine nav ?_ | refine bo ?_)
          (refine wr fun K R hK hR => ?_; simp (maxSteps := 10000000) only [go_sem, hbx]; (try go_ints); (try simp only [go_sem, hbx]); (repeat refine And.intro side ?_); (first | refine hK _ ?_ | refine hR _ _ ?_); clear hK hR K R)
          repeat (first | refine nav ?_ | refine bo ?_)
          (refine W_dreg (by decide +kernel) [] [0, 1, 2, 3, 4, 5, 6, 7, 8, 9, 10] [[], [], [1], [1, 2], [], [4], [4, 5, 2, 1, 3], [3, 1, 2, 5, 4, 6], [7, 6, 5, 4, 3, 2, 1, 0], [0, 1, 2, 3, 4, 5, 6, 7, 8], [8, 7, 6, 5, 4, 3, 2, 1, 0, 9]] (by decide +kernel) rfl fun K R hK hR => ?_; simp only [List.filterMap_cons, List.filterMap_nil, List.getElem?_cons_zero, List.getElem?_cons_succ, List.cons_append, List.nil_append]; simp (maxSteps := 10000000) only [go_sem, h7, hia, hbx]; (try go_ints); (try simp only [go_sem, h7, hia, hbx]); (repeat refine And.intro side ?_); (first | refine hK _ ?_ | refine hR _ _ ?_); clear hK hR K R)
          refine D_callD (hin) rfl rfl rfl (by first | (simp only [go_sem] <;> first | exact LeA.refl _ | exact Le.refl _) | exact LeA.refl _) rfl rfl rfl rfl ?_
          (refine D_reg fun K R hK hR => ?_; simp (maxSteps := 10000000) only [go_sem, hw.k]; (try go_ints); (try simp only [go_sem, hw.k]); (repeat refine And.intro side ?_); (first | refine hK _ ?_ | refine hR _ _ ?_); clear hK hR K R)
          repeat (first | refine nav ?_ | refine bo ?_)
          exact joinQ_normal ⟨p.cols.length, (!insideF a p.cols), ws', by simp only [go_sem], hs6, hf6, by unfold finF; simp [hk]⟩
        · rw [hk] at hb2
          obtain ⟨a, b, rfl⟩ : ∃ a b, of = [a, b] := by
            have h2 : of.length = 2 := by have h0 : kidsF 6 = 2 := rfl; omega
            match of, h2 with
            | [a, b], _ => exact ⟨a, b, rfl⟩
          have hia : ints [a, b] = [[.i .i64 a], [.i .i64 b]] := rfl
          repeat (first | refine nav ?_ | refine bo ?_)
          (refine wr fun K R hK hR => ?_; simp (maxSteps := 10000000) only [go_sem]; (try go_ints); (repeat refine And.intro side ?_); (first | refine hK _ ?_ | refine hR _ _ ?_); clear hK hR K R)
          repeat (first | refine nav ?_ | refine bo ?_)
          refine W_cond (b := false) (by simp only [go_sem, hk] <;> rfl) (fun hb => by cases hb) (fun hb => ?_)
          repeat (first | refine nav ?_ | refine bo ?_)
          (refine wr fun K R hK hR => ?_; simp (maxSteps := 10000000) only [go_sem]; (try go_ints); (repeat refine And.intro side ?_); (first | refine hK _ ?_ | refine hR _ _ ?_); clear hK hR K R)
          repeat (first | refine nav ?_ | refine bo ?_)
          refine W_cond (b := false) (by simp only [go_sem, hk] <;> rfl) (fun hb => by cases hb) (fun hb => ?_)
          repeat (first | refine nav ?_ | refine bo ?_)
          (refine wr fun K R hK hR => ?_; simp (maxSteps := 10000000) only [go_sem]; (try go_ints); (repeat refine And.intro side ?_); (first | refine hK _ ?_ | refine hR _ _ ?_); clear hK hR K R)
          repeat (first | refine nav ?_ | refine bo ?_)
          refine W_cond (b := false) (by simp only [go_sem, hk] <;> rfl) (fun hb => by cases hb) (fun hb => ?_)
          repeat (first | refine nav ?_ | refine bo ?_)
          (refine wr fun K R hK hR => ?_; simp (maxSteps := 10000000) only [go_sem]; (try go_ints); (repeat refine And.intro side ?_); (first | refine hK _ ?_ | refine hR _ _ ?_); clear hK hR K R)
          repeat (first | refine nav ?_ | refine bo ?_)
          refine W_cond (b := false) (by simp only [go_sem, hk] <;> rfl) (fun hb => by cases hb) (fun hb => ?_)
          repeat (first | refine nav ?_ | refine bo ?_)
          (refine wr fun K R hK hR => ?_; simp (maxSteps := 10000000) only [go_sem]; (try go_ints); (repeat refine And.intro side ?_); (first | refine hK _ ?_ | refine hR _ _ ?_); clear hK hR K R)
          repeat (first | refine nav ?_ | refine bo ?_)
          refine W_cond (b := false) (by simp only [go_sem, hk] <;> rfl) (fun hb => by cases hb) (fun hb => ?_)
          repeat (first | refine nav ?_ | refine bo ?_)
          (refine wr fun K R hK hR => ?_; simp (maxSteps := 10000000) only [go_sem]; (try go_ints); (repeat refine And.intro side ?_); (first | refine hK _ ?_ | refine hR _ _ ?_); clear hK hR K R)
          repeat (first | refine nav ?_ | refine bo ?_)
          refine W_cond (b := true) (by simp only [go_sem, hk] <;> rfl) (fun hb => ?_) (fun hb => by cases hb)
          repeat (first | refine nav ?_ | refine bo ?_)
          refine W_cond (b := true) (by simp only [go_sem, hk] <;> rfl) (fun hb => ?_) (fun hb => by cases hb)
          obtain ⟨hs6, hf6⟩ := hw.set n' (a != b)
          repeat (first | refine nav ?_ | refine bo ?_)
          (refine wr fun K R hK hR => ?_; simp (maxSteps := 10000000) only [go_sem, h7, hia]; (try go_ints); (try simp only [go_sem, h7, hia]); (repeat refine And.intro side ?_); (first | refine hK _ ?_ | refine hR _ _ ?_); clear hK hR K R)
          repeat (first | refine nav ?_ | refine bo ?_)
          (refine W_dreg (by decide +kernel) [] [0, 1, 2, 3, 4, 5, 6, 7, 8, 9, 10] [[], [], [1], [1, 2], [], [4], [4, 5], [5, 4, 6, 2, 1, 3], [7, 6, 5, 4, 3, 2, 1, 0], [0, 1, 2, 3, 4, 5, 6, 7, 8], [8, 7, 6, 5, 4, 3, 2, 1, 0, 9]] (by decide +kernel) rfl fun K R hK hR => ?_; simp only [List.filterMap_cons, List.filterMap_nil, List.getElem?_cons_zero, List.getElem?_cons_succ, List.cons_append, List.nil_append]; simp (maxSteps := 10000000) only [go_sem, h7, hia, hw.k]; (try go_ints); (try simp only [go_sem, h7, hia, hw.k]); (repeat refine And.intro side ?_); (first | refine hK _ ?_ | refine hR _ _ ?_); clear hK hR K R)
          repeat (first | refine nav ?_ | refine bo ?_)
          exact joinQ_normal ⟨a, (a != b), ws', by simp only [go_sem], hs6, hf6, by unfold finF; simp [hk]⟩
        · rw [hk] at hb2
          obtain ⟨a, b, rfl⟩ : ∃ a b, of = [a, b] := by
            have h2 : of.length = 2 := by have h0 : kidsF 7 = 2 := rfl; omega
            match of, h2 with
            | [a, b], _ => exact ⟨a, b, rfl⟩
          have hia : ints [a, b] = [[.i .i64 a], [.i .i64 b]] := rfl
          repeat (first | refine nav ?_ | refine bo ?_)
          (refine wr fun K R hK hR => ?_; simp (maxSteps := 10000000) only [go_sem]; (try go_ints); (repeat refine And.intro side ?_); (first | refine hK _ ?_ | refine hR _ _ ?_); clear hK hR K R)
          repeat (first | refine nav ?_ | refine bo ?_)
          refine W_cond (b := false) (by simp only [go_sem, hk] <;> rfl) (fun hb => by cases hb) (fun hb => ?_)
          repeat (first | refine nav ?_ | refine bo ?_)
          (refine wr fun K R hK hR => ?_; simp (maxSteps := 10000000) only [go_sem]; (try go_ints); (repeat refine And.intro side ?_); (first | refine hK _ ?_ | refine hR _ _ ?_); clear hK hR K R)
          repeat (first | refine nav ?_ | refine bo ?_)
          refine W_cond (b := false) (by simp only [go_sem, hk] <;> rfl) (fun hb => by cases hb) (fun hb => ?_)
          repeat (first | refine nav ?_ | refine bo ?_)
          (refine wr fun K R hK hR => ?_; simp (maxSteps := 10000000) only [go_sem]; (try go_ints); (repeat refine And.intro side ?_); (first | refine hK _ ?_ | refine hR _ _ ?_); clear hK hR K R)
          repeat (first | refine nav ?_ | refine bo ?_)
          refine W_cond (b := false) (by simp only [go_sem, hk] <;> rfl) (fun hb => by cases hb) (fun hb => ?_)
          repeat (first | refine nav ?_ | refine bo ?_)
          (refine wr fun K R hK hR => ?_; simp (maxSteps := 10000000) only [go_sem]; (try go_ints); (repeat refine And.intro side ?_); (first | refine hK _ ?_ | refine hR _ _ ?_); clear hK hR K R)
          repeat (first | refine nav ?_ | refine bo ?_)
          refine W_cond (b := false) (by simp only [go_sem, hk] <;> rfl) (fun hb => by cases hb) (fun hb => ?_)
          repeat (first | refine nav ?_ | refine bo ?_)
          (refine wr fun K R hK hR => ?_; simp (maxSteps := 10000000) only [go_sem]; (try go_ints); (repeat refine And.intro side ?_); (first | refine hK _ ?_ | refine hR _ _ ?_); clear hK hR K R)
          repeat (first | refine nav ?_ | refine bo ?_)
          refine W_cond (b := false) (by simp only [go_sem, hk] <;> rfl) (fun hb => by cases hb) (fun hb => ?_)
          repeat (first | refine nav ?_ | refine bo ?_)
          (refine wr fun K R hK hR => ?_; simp (maxSteps := 10000000) only [go_sem]; (try go_ints); (repeat refine And.intro side ?_); (first | refine hK _ ?_ | refine hR _ _ ?_); clear hK hR K R)
          repeat (first | refine nav ?_ | refine bo ?_)
          refine W_cond (b := false) (by simp only [go_sem, hk] <;> rfl) (fun hb => by cases hb) (fun hb => ?_)
          repeat (first | refine nav ?_ | refine bo ?_)
          (refine wr fun K R hK hR => ?_; simp (maxSteps := 10000000) only [go_sem]; (try go_ints); (repeat refine And.intro side ?_); (first | refine hK _ ?_ | refine hR _ _ ?_); clear hK hR K R)
          repeat (first | refine nav ?_ | refine bo ?_)
          refine W_cond (b := true) (by simp only [go_sem, hk] <;> rfl) (fun hb => ?_) (fun hb => by cases hb)
          obtain ⟨hs6, hf6⟩ := hw.set n' (a != b)
          repeat (first | refine nav ?_ | refine bo ?_)
          (refine wr fun K R hK hR => ?_; simp (maxSteps := 10000000) only [go_sem, h7, hia]; (try go_ints); (try simp only [go_sem, h7, hia]); (repeat refine And.intro side ?_); (first | refine hK _ ?_ | refine hR _ _ ?_); clear hK hR K R)
          repeat (first | refine nav ?_ | refine bo ?_)
          (refine W_dreg (by decide +kernel) [] [0, 1, 2, 3, 4, 5, 6, 7, 8, 9, 10] [[], [], [1], [1, 2], [], [4], [4, 5], [5, 4, 6, 2, 1, 3], [7, 6, 5, 4, 3, 2, 1, 0], [0, 1, 2, 3, 4, 5, 6, 7, 8], [8, 7, 6, 5, 4, 3, 2, 1, 0, 9]] (by decide +kernel) rfl fun K R hK hR => ?_; simp only [List.filterMap_cons, List.filterMap_nil, List.getElem?_cons_zero, List.getElem?_cons_succ, List.cons_append, List.nil_append]; simp (maxSteps := 10000000) only [go_sem, h7, hia, hw.k]; (try go_ints); (try simp only [go_sem, h7, hia, hw.k]); (repeat refine And.intro side ?_); (first | refine hK _ ?_ | refine hR _ _ ?_); clear hK hR K R)
          repeat (first | refine nav ?_ | refine bo ?_)
          exact joinQ_normal ⟨a, (a != b), ws', by simp only [go_sem], hs6, hf6, by unfold finF; simp [hk]⟩
      · rintro t2 o5 ⟨w, b1, ws5, h10, hw5, hf5, hfin⟩
        have hff := (hf1.trans hfr).trans hf5
        rw [hfin] at hres
        obtain ⟨hs6, hf6⟩ := hw5.set n' (b1 || decide (w < 0) || decide (w > 12))
        repeat (first | refine nav ?_ | refine bo ?_)
        (refine wr fun K R hK hR => ?_; simp (maxSteps := 10000000) only [go_sem, h10, hw5.k]; (try go_ints); (try simp only [go_sem, h10, hw5.k]); (repeat refine And.intro side ?_); (first | refine hK _ ?_ | refine hR _ _ ?_); clear hK hR K R)
        generalize o5.set K (.cells 3 [[.i .i64 (n' : Int), .mp M, .b (b1 || decide (w < 0) || decide (w > 12))]]) = o6 at *
        repeat (first | refine nav ?_ | refine bo ?_)
        (refine wr fun K R hK hR => ?_; simp (maxSteps := 10000000) only [go_sem, h10]; (try go_ints); (try simp only [go_sem, h10]); (repeat refine And.intro side ?_); (first | refine hK _ ?_ | refine hR _ _ ?_); clear hK hR K R)
        repeat (first | refine nav ?_ | refine bo ?_)
        have hfg := hff.trans hf6
        refine endQ_all (by simp only [go_sem] <;> exact rfl) (Le.refl _) (by have := hfg.len; simp only; omega) hs6.ok rfl ⟨hfg, ?_⟩
        cases hbb : (b1 || decide (w < 0) || decide (w > 12))
        · rw [hbb] at hres hs6
          simp only [Bool.false_eq_true, if_false] at hres
          subst hres
          exact ⟨rfl, hs6⟩
        · rw [hbb] at hres hs6
          simp only [if_true] at hres
          subst hres
          exact ⟨w, n', ws5, rfl, hs6⟩
end Go.AW
namespace Go.AW
open Go Go.Proofs TyTry Go.IntWalk
set_option linter.unusedSimpArgs false
set_option linter.unusedVariables false
set_option maxRecDepth 10000
set_option maxHeartbeats 4000000
def WalkedP (p : PlanD) (o : List Ob) (r : AV) (o' : List Ob) : Prop := ∃ (K M : Nat) (x : Int), r = .tup [.ptr K 0 0, .i .i64 x] ∧ o.length ≤ o'.length ∧ (∀ j < o.length, o'[j]? = o[j]?) ∧ match walkF p 1 0 [] with
  | some (w, n, ws) => x = w ∧ WRep o' K M n false ws
  | none => ∃ (n : Nat) (ws : Names), WRep o' K M n true ws
theorem WalkedP.shape {p : PlanD} {o : List Ob} {r : AV} {o' : List Ob} (h : WalkedP p o r o') : o.length ≤ o'.length ∧ r.ltk o'.length = true ∧ okO o' = true := by
  obtain ⟨K, M, x, rfl, h1, h2, h3⟩ := h
  have key : ∀ {n : Nat} {b : Bool} {ws : Names}, WRep o' K M n b ws → o.length ≤ o'.length ∧ (AV.tup [.ptr K 0 0, .i .i64 x]).ltk o'.length = true ∧ okO o' = true := by
    intro n b ws h
    have := (List.getElem?_eq_some_iff.1 h.k).1
    exact ⟨h1, by simp [AV.ltk, AV.ltks, this], h.ok⟩
  revert h3
  cases walkF p 1 0 [] with
  | none => rintro ⟨n, ws, h⟩; exact key h
  | some y => obtain ⟨w, n, ws⟩ := y; rintro ⟨_, h⟩; exact key h
theorem walked_spec (p : PlanD) (hp : p.Sm) (o : List Ob) (ho : okO o = true) : ACalls Try.prog 27 [.agg p.cells] o (WalkedP p o) := by
  have hcx := p.cells_eq
  refine ACalls_of' (n := 14) (rs := [.tmp 2, .tmp 3]) (show Try.prog.funcs[27]? = some Try.f27 by kernel_rfl) rfl rfl rfl (by simp) (by decide +kernel) ?_
  rw [hcx]
  repeat (first | refine nav ?_ | refine bo ?_)
  (refine wr fun K R hK hR => ?_; simp (maxSteps := 10000000) only [go_sem]; (try go_ints); (repeat refine And.intro side ?_); (first | refine hK _ ?_ | refine hR _ _ ?_); clear hK hR K R)
  repeat (first | refine nav ?_ | refine bo ?_)
  (refine wr fun K R hK hR => ?_; simp (maxSteps := 10000000) only [go_sem]; (try go_ints); (repeat refine And.intro side ?_); (first | refine hK _ ?_ | refine hR _ _ ?_); clear hK hR K R)
  have hs : WRep (o ++ [boxP p, .mapo [], .cells 3 [[.i .i64 0, .mp (o.length + 1), .b false]]]) (o.length + 2) (o.length + 1) 0 false [] := by
    refine ⟨?_, ?_, okO_app ho ?_⟩
    · simp [List.getElem?_append_right]
    · simp [List.getElem?_append_right, ents]
    · simp [Ob.ltk, AV.ltk]
  have hbx : (o ++ [boxP p, .mapo [], .cells 3 [[.i .i64 0, .mp (o.length + 1), .b false]]])[o.length]? = some (boxP p) := by simp
  have hpre : ∀ j < o.length, (o ++ [boxP p, .mapo [], .cells 3 [[.i .i64 0, .mp (o.length + 1), .b false]]])[j]? = o[j]? := fun j hj => List.getElem?_append_left hj
  generalize hoo : o ++ [boxP p, .mapo [], .cells 3 [[.i .i64 0, .mp (o.length + 1), .b false]]] = o1 at *
  have hl1 : o.length ≤ o1.length := by rw [← hoo]; simp
  repeat (first | refine nav ?_ | refine bo ?_)
  (refine wr fun K R hK hR => ?_; simp (maxSteps := 10000000) only [go_sem, hbx]; (try go_ints); (try simp only [go_sem, hbx]); (repeat refine And.intro side ?_); (first | refine hK _ ?_ | refine hR _ _ ?_); clear hK hR K R)
  have hlK : o.length + 2 < o1.length := by rw [← hoo]; simp
  have hw := walk_spec p hp 1 0 [] o1 (o.length + 2) (o.length + 1) (by omega) (by omega) hs
  rw [hcx, show ((1 : Nat) : Int) = 1 from rfl] at hw
  refine RL_callE hw (fun r o' h => h.shape) (by simp only [go_sem] <;> exact rfl) rfl rfl (by simp) (by simp only [go_sem] <;> exact LeA.refl _) hs.ok (by simp [AV.ltk, AV.ltks, hlK]) ?_
  rintro r o2 ⟨hf, hres⟩
  have hpre2 : ∀ j < o.length, o2[j]? = o[j]? := fun j hj => (hf.get j (by omega) (by omega) (by omega)).trans (hpre j hj)
  have hl2 := hf.len
  cases hwx : walkF p 1 0 [] with
  | none =>
    rw [hwx] at hres
    obtain ⟨w, n, ws, rfl, hw2⟩ := hres
    (refine rr fun K R hK hR => ?_; simp (maxSteps := 10000000) only [go_sem]; (try go_ints); (repeat refine And.intro side ?_); (first | refine hK _ ?_ | refine hR _ _ ?_); clear hK hR K R)
    repeat (first | refine nav ?_ | refine bo ?_)
    (refine wr fun K R hK hR => ?_; simp (maxSteps := 10000000) only [go_sem]; (try go_ints); (repeat refine And.intro side ?_); (first | refine hK _ ?_ | refine hR _ _ ?_); clear hK hR K R)
    repeat (first | refine nav ?_ | refine bo ?_)
    refine endQ_all (by simp only [go_sem] <;> exact rfl) (Le.refl _) (by simp only; omega) hw2.ok (by simp [AV.ltk, AV.ltks]; omega) ⟨o.length + 2, o.length + 1, w, rfl, by simp only; omega, hpre2, by rw [hwx]; exact ⟨n, ws, hw2⟩⟩
  | some y =>
    obtain ⟨w, n, ws⟩ := y
    rw [hwx] at hres
    obtain ⟨rfl, hw2⟩ := hres
    (refine rr fun K R hK hR => ?_; simp (maxSteps := 10000000) only [go_sem]; (try go_ints); (repeat refine And.intro side ?_); (first | refine hK _ ?_ | refine hR _ _ ?_); clear hK hR K R)
    repeat (first | refine nav ?_ | refine bo ?_)
    (refine wr fun K R hK hR => ?_; simp (maxSteps := 10000000) only [go_sem]; (try go_ints); (repeat refine And.intro side ?_); (first | refine hK _ ?_ | refine hR _ _ ?_); clear hK hR K R)
    repeat (first | refine nav ?_ | refine bo ?_)
    refine endQ_all (by simp only [go_sem] <;> exact rfl) (Le.refl _) (by simp only; omega) hw2.ok (by simp [AV.ltk, AV.ltks]; omega) ⟨o.length + 2, o.length + 1, w, rfl, by simp only; omega, hpre2, by rw [hwx]; exact ⟨rfl, hw2⟩⟩
theorem pvalid_spec (p : PlanD) (hp : p.Sm) : ACallsD Try.prog 20 [.agg p.cells] (.b (walkF p 1 0 []).isSome) := by
  have hcx := p.cells_eq
  have hw := walked_spec p hp [boxP p] rfl
  rw [hcx] at hw ⊢
  refine ACalls_of' (n := 15) (rs := [.tmp 2]) (show Try.prog.funcs[20]? = some Try.f20 by kernel_rfl) rfl rfl rfl (by simp) (by decide +kernel) ?_
  repeat (first | refine nav ?_ | refine bo ?_)
  (refine wr fun K R hK hR => ?_; simp (maxSteps := 10000000) only [go_sem]; (try go_ints); (repeat refine And.intro side ?_); (first | refine hK _ ?_ | refine hR _ _ ?_); clear hK hR K R)
  repeat (first | refine nav ?_ | refine bo ?_)
  (refine wr fun K R hK hR => ?_; simp (maxSteps := 10000000) only [go_sem]; (try go_ints); (repeat refine And.intro side ?_); (first | refine hK _ ?_ | refine hR _ _ ?_); clear hK hR K R)
  refine RL_callE hw (fun r o' h => h.shape) (by simp only [go_sem] <;> exact rfl) rfl rfl (by simp) (by simp only [go_sem] <;> exact LeA.refl _) rfl rfl ?_
  rintro r o2 ⟨K, M, x, rfl, hl, hpre, hres⟩
  cases hwx : walkF p 1 0 [] with
  | none =>
    rw [hwx] at hres
    obtain ⟨n, ws, hw2⟩ := hres
    (refine rr fun K R hK hR => ?_; simp (maxSteps := 10000000) only [go_sem]; (try go_ints); (repeat refine And.intro side ?_); (first | refine hK _ ?_ | refine hR _ _ ?_); clear hK hR K R)
    repeat (first | refine nav ?_ | refine bo ?_)
    (refine wr fun K R hK hR => ?_; simp (maxSteps := 10000000) only [go_sem, hw2.k]; (try go_ints); (try simp only [go_sem, hw2.k]); (repeat refine And.intro side ?_); (first | refine hK _ ?_ | refine hR _ _ ?_); clear hK hR K R)
    repeat (first | refine nav ?_ | refine bo ?_)
    refine endQ_data (by simp only [go_sem] <;> exact rfl) (Le.of_eq ?_) rfl
    rfl
  | some y =>
    obtain ⟨w, n, ws⟩ := y
    rw [hwx] at hres
    obtain ⟨rfl, hw2⟩ := hres
    (refine rr fun K R hK hR => ?_; simp (maxSteps := 10000000) only [go_sem]; (try go_ints); (repeat refine And.intro side ?_); (first | refine hK _ ?_ | refine hR _ _ ?_); clear hK hR K R)
    repeat (first | refine nav ?_ | refine bo ?_)
    (refine wr fun K R hK hR => ?_; simp (maxSteps := 10000000) only [go_sem, hw2.k]; (try go_ints); (try simp only [go_sem, hw2.k]); (repeat refine And.intro side ?_); (first | refine hK _ ?_ | refine hR _ _ ?_); clear hK hR K R)
    repeat (first | refine nav ?_ | refine bo ?_)
    refine endQ_data (by simp only [go_sem] <;> exact rfl) (Le.of_eq ?_) rfl
    rfl
theorem pwidth_spec (p : PlanD) (hp : p.Sm) : ACallsD Try.prog 9 [.agg p.cells] (.i .i64 (match walkF p 1 0 [] with | some (w, _, _) => w | none => -1)) := by
  have hcx := p.cells_eq
  have hw := walked_spec p hp [boxP p] rfl
  rw [hcx] at hw ⊢
  refine ACalls_of' (n := 15) (rs := [.tmp 2]) (show Try.prog.funcs[9]? = some Try.f9 by kernel_rfl) rfl rfl rfl (by simp) (by decide +kernel) ?_
  repeat (first | refine nav ?_ | refine bo ?_)
  (refine wr fun K R hK hR => ?_; simp (maxSteps := 10000000) only [go_sem]; (try go_ints); (repeat refine And.intro side ?_); (first | refine hK _ ?_ | refine hR _ _ ?_); clear hK hR K R)
  repeat (first | refine nav ?_ | refine bo ?_)
  (refine wr fun K R hK hR => ?_; simp (maxSteps := 10000000) only [go_sem]; (try go_ints); (repeat refine And.intro side ?_); (first | refine hK _ ?_ | refine hR _ _ ?_); clear hK hR K R)
  refine RL_callE hw (fun r o' h => h.shape) (by simp only [go_sem] <;> exact rfl) rfl rfl (by simp) (by simp only [go_sem] <;> exact LeA.refl _) rfl rfl ?_
  rintro r o2 ⟨K, M, x, rfl, hl, hpre, hres⟩
  cases hwx : walkF p 1 0 [] with
  | none =>
    rw [hwx] at hres
    obtain ⟨n, ws, hw2⟩ := hres
    (refine rr fun K R hK hR => ?_; simp (maxSteps := 10000000) only [go_sem]; (try go_ints); (repeat refine And.intro side ?_); (first | refine hK _ ?_ | refine hR _ _ ?_); clear hK hR K R)
    repeat (first | refine nav ?_ | refine bo ?_)
    (refine wr fun K R hK hR => ?_; simp (maxSteps := 10000000) only [go_sem, hw2.k]; (try go_ints); (try simp only [go_sem, hw2.k]); (repeat refine And.intro side ?_); (first | refine hK _ ?_ | refine hR _ _ ?_); clear hK hR K R)
    repeat (first | refine nav ?_ | refine bo ?_)
    refine W_cond (b := true) (by simp only [go_sem] <;> exact rfl) (fun _ => ?_) (fun hb => by cases hb)
    repeat (first | refine nav ?_ | refine bo ?_)
    (refine wr fun K R hK hR => ?_; simp (maxSteps := 10000000) only [go_sem]; (try go_ints); (repeat refine And.intro side ?_); (first | refine hK _ ?_ | refine hR _ _ ?_); clear hK hR K R)
    repeat (first | refine nav ?_ | refine bo ?_)
    refine endQ_data (by simp only [go_sem] <;> exact rfl) (Le.of_eq ?_) rfl
    all_goals rfl
  | some y =>
    obtain ⟨w, n, ws⟩ := y
    rw [hwx] at hres
    obtain ⟨rfl, hw2⟩ := hres
    (refine rr fun K R hK hR => ?_; simp (maxSteps := 10000000) only [go_sem]; (try go_ints); (repeat refine And.intro side ?_); (first | refine hK _ ?_ | refine hR _ _ ?_); clear hK hR K R)
    repeat (first | refine nav ?_ | refine bo ?_)
    (refine wr fun K R hK hR => ?_; simp (maxSteps := 10000000) only [go_sem, hw2.k]; (try go_ints); (try simp only [go_sem, hw2.k]); (repeat refine And.intro side ?_); (first | refine hK _ ?_ | refine hR _ _ ?_); clear hK hR K R)
    repeat (first | refine nav ?_ | refine bo ?_)
    refine W_cond (b := false) (by simp only [go_sem] <;> exact rfl) (fun hb => by cases hb) (fun _ => ?_)
    repeat (first | refine nav ?_ | refine bo ?_)
    (refine wr fun K R hK hR => ?_; simp (maxSteps := 10000000) only [go_sem]; (try go_ints); (repeat refine And.intro side ?_); (first | refine hK _ ?_ | refine hR _ _ ?_); clear hK hR K R)
    repeat (first | refine nav ?_ | refine bo ?_)
    refine endQ_data (by simp only [go_sem] <;> exact rfl) (Le.of_eq ?_) rfl
    all_goals rfl
theorem psize_spec (p : PlanD) (hp : p.Sm) : ACallsD Try.prog 21 [.agg p.cells] (.i .i64 (match walkF p 1 0 [] with | some (_, n, _) => (n : Int) | none => 0)) := by
  have hcx := p.cells_eq
  have hw := walked_spec p hp [boxP p] rfl
  rw [hcx] at hw ⊢
  refine ACalls_of' (n := 18) (rs := [.tmp 2]) (show Try.prog.funcs[21]? = some Try.f21 by kernel_rfl) rfl rfl rfl (by simp) (by decide +kernel) ?_
  repeat (first | refine nav ?_ | refine bo ?_)
  (refine wr fun K R hK hR => ?_; simp (maxSteps := 10000000) only [go_sem]; (try go_ints); (repeat refine And.intro side ?_); (first | refine hK _ ?_ | refine hR _ _ ?_); clear hK hR K R)
  repeat (first | refine nav ?_ | refine bo ?_)
  (refine wr fun K R hK hR => ?_; simp (maxSteps := 10000000) only [go_sem]; (try go_ints); (repeat refine And.intro side ?_); (first | refine hK _ ?_ | refine hR _ _ ?_); clear hK hR K R)
  refine RL_callE hw (fun r o' h => h.shape) (by simp only [go_sem] <;> exact rfl) rfl rfl (by simp) (by simp only [go_sem] <;> exact LeA.refl _) rfl rfl ?_
  rintro r o2 ⟨K, M, x, rfl, hl, hpre, hres⟩
  cases hwx : walkF p 1 0 [] with
  | none =>
    rw [hwx] at hres
    obtain ⟨n, ws, hw2⟩ := hres
    (refine rr fun K R hK hR => ?_; simp (maxSteps := 10000000) only [go_sem]; (try go_ints); (repeat refine And.intro side ?_); (first | refine hK _ ?_ | refine hR _ _ ?_); clear hK hR K R)
    repeat (first | refine nav ?_ | refine bo ?_)
    (refine wr fun K R hK hR => ?_; simp (maxSteps := 10000000) only [go_sem, hw2.k]; (try go_ints); (try simp only [go_sem, hw2.k]); (repeat refine And.intro side ?_); (first | refine hK _ ?_ | refine hR _ _ ?_); clear hK hR K R)
    repeat (first | refine nav ?_ | refine bo ?_)
    refine W_cond (b := true) (by simp only [go_sem] <;> exact rfl) (fun _ => ?_) (fun hb => by cases hb)
    repeat (first | refine nav ?_ | refine bo ?_)
    (refine wr fun K R hK hR => ?_; simp (maxSteps := 10000000) only [go_sem]; (try go_ints); (repeat refine And.intro side ?_); (first | refine hK _ ?_ | refine hR _ _ ?_); clear hK hR K R)
    repeat (first | refine nav ?_ | refine bo ?_)
    refine endQ_data (by simp only [go_sem] <;> exact rfl) (Le.of_eq ?_) rfl
    all_goals rfl
  | some y =>
    obtain ⟨w, n, ws⟩ := y
    rw [hwx] at hres
    obtain ⟨rfl, hw2⟩ := hres
    (refine rr fun K R hK hR => ?_; simp (maxSteps := 10000000) only [go_sem]; (try go_ints); (repeat refine And.intro side ?_); (first | refine hK _ ?_ | refine hR _ _ ?_); clear hK hR K R)
    repeat (first | refine nav ?_ | refine bo ?_)
    (refine wr fun K R hK hR => ?_; simp (maxSteps := 10000000) only [go_sem, hw2.k]; (try go_ints); (try simp only [go_sem, hw2.k]); (repeat refine And.intro side ?_); (first | refine hK _ ?_ | refine hR _ _ ?_); clear hK hR K R)
    repeat (first | refine nav ?_ | refine bo ?_)
    refine W_cond (b := false) (by simp only [go_sem] <;> exact rfl) (fun hb => by cases hb) (fun _ => ?_)
    repeat (first | refine nav ?_ | refine bo ?_)
    (refine wr fun K R hK hR => ?_; simp (maxSteps := 10000000) only [go_sem, hw2.k]; (try go_ints); (try simp only [go_sem, hw2.k]); (repeat refine And.intro side ?_); (first | refine hK _ ?_ | refine hR _ _ ?_); clear hK hR K R)
    repeat (first | refine nav ?_ | refine bo ?_)
    refine endQ_data (by simp only [go_sem] <;> exact rfl) (Le.of_eq ?_) rfl
    all_goals rfl
end Go.AW
namespace Go.AW
open Go Go.Proofs TyTry Go.IntWalk
set_option linter.unusedSimpArgs false
set_option linter.unusedVariables false
set_option maxRecDepth 10000
set_option maxHeartbeats 4000000
structure I12 (p : PlanD) (s : StrD) (out : List (List Int)) (o3 : List Ob) (d : Nat → Bool) (x : St) : Prop where
  t2 : x.t 2 = .ptr 0 0 0
  t3 : x.t 3 = .ptr 1 0 0
  t10 : x.t 10 = .own 1 []
  o : x.o = if d 1 = true then o3 ++ engObs s o3.length else o3
  k0 : d 0 = true → x.t 46 = .agg s.cells
  k1 : d 1 = true → x.t 47 = .ptr (o3.length + 1) 0 0
  k2 : d 2 = true → x.t 48 = .agg p.cells
  k3 : d 3 = true → x.t 49 = .sl 1 (tups out)
  k4 : d 4 = true → x.t 50 = .i .i64 out.length
  k5 : d 5 = true → x.t 51 = .i .i64 0
theorem engObs_ok {s : StrD} {o : List Ob} (h : okO o = true) : okO (o ++ engObs s o.length) = true := okO_app h (by simp [engObs, StrD.cells, Ob.ltk, AV.ltk, AV.ltks, rels, engMap])
theorem engObs_eng (s : StrD) (o : List Ob) : Eng s (o.length + 1) (o ++ engObs s o.length) :=
  ⟨by rw [List.getElem?_append_right (by omega), show o.length + 1 - o.length = 1 by omega]; rfl, by rw [List.getElem?_append_right (by omega), show o.length + 1 + 1 - o.length = 2 by omega]; rfl⟩
def errA (k : Int) : AV := .tup [.sl 1 [], .i .i64 k]
def runA (r : Option (Int × Nat × Names)) (bv : Bool) (ff : ByteArray → Int → Int) (lg : Bool) (out : List (List Int)) : AV :=
  match r with
  | none => errA 1
  | some (_, _, ws) => if bv = false then errA 1 else if (ws.any fun x => decide (ff x.1 x.2 < 0)) = true then errA 4 else if lg = true then errA 5 else .tup [.sl 1 (tups out), .i .i64 0]
theorem prun_spec (p : PlanD) (hp : p.Sm) (s : StrD) (bv : Bool) (ff : ByteArray → Int → Int) (lg : Bool) (out : List (List Int)) (hv : ACallsD Try.prog 35 [.agg s.cells] (.b bv))
    (hf : bv = true → ∀ w n ws, walkF p 1 0 [] = some (w, n, ws) → ∀ x ∈ ws, ACallsD Try.prog 36 [.agg s.cells, .s x.1, .i .i64 x.2] (.i .i64 (ff x.1 x.2)))
    (hlg : bv = true → (walkF p 1 0 []).isSome = true → ACallsD Try.prog 37 [.agg p.cells, .i .i64 s.size] (.b lg))
    (hr : ∀ w n ws, walkF p 1 0 [] = some (w, n, ws) → bv = true → (ws.any fun x => decide (ff x.1 x.2 < 0)) = false → lg = false → Runs s p out) (ho : out.length ≤ 1000000) (hcl : ∀ x ∈ out, ACallsD Try.prog 40 [.sl 1 (ints x)] (.sl 1 (ints x))) :
    ACallsD Try.prog 24 [.agg p.cells, .agg s.cells] (runA (walkF p 1 0 []) bv ff lg out) := by
  have hcx := p.cells_eq
  have hsx : s.cells = [.i .i64 s.size, .sl 3 (rels s.rels)] := rfl
  have hw := walked_spec p hp [boxP p, .cells 2 [s.cells]] rfl
  rw [hcx] at hw ⊢
  rw [hsx] at hw ⊢ hv hf
  refine ACalls_of' (n := 62) (rs := [.tmp 4, .tmp 5]) (show Try.prog.funcs[24]? = some Try.f24 by kernel_rfl) rfl rfl rfl (by simp) (by decide +kernel) ?_
  repeat (first | refine nav ?_ | refine bo ?_)
  (refine wr fun K R hK hR => ?_; simp (maxSteps := 10000000) only [go_sem]; (try go_ints); (repeat refine And.intro side ?_); (first | refine hK _ ?_ | refine hR _ _ ?_); clear hK hR K R)
  repeat (first | refine nav ?_ | refine bo ?_)
  (refine wr fun K R hK hR => ?_; simp (maxSteps := 10000000) only [go_sem]; (try go_ints); (repeat refine And.intro side ?_); (first | refine hK _ ?_ | refine hR _ _ ?_); clear hK hR K R)
  refine RL_callE hw (fun r o' h => h.shape) (by simp only [go_sem] <;> exact rfl) rfl rfl (by simp) (by simp only [go_sem] <;> exact LeA.refl _) rfl (by rfl) ?_
  rintro r o2 h2
  have h2s := h2.shape
  obtain ⟨K, M, x, rfl, hol, hpre, hres⟩ := h2
  have hK := h2s.2.1
  have b0 : o2[0]? = some (boxP p) := (hpre 0 (by simp)).trans rfl
  have b1 : o2[1]? = some (.cells 2 [[.i .i64 s.size, .sl 3 (rels s.rels)]]) := (hpre 1 (by simp)).trans rfl
  have hok2 := h2s.2.2
  obtain ⟨bad, n, ws, hw2, hbad⟩ : ∃ bad n ws, WRep o2 K M n bad ws ∧ (bad = true ∧ walkF p 1 0 [] = none ∨ bad = false ∧ ∃ w, walkF p 1 0 [] = some (w, n, ws)) := by
    cases hwx : walkF p 1 0 [] with
    | none => rw [hwx] at hres; obtain ⟨n, ws, h⟩ := hres; exact ⟨true, n, ws, h, .inl ⟨rfl, rfl⟩⟩
    | some y => obtain ⟨w, n, ws⟩ := y; rw [hwx] at hres; exact ⟨false, n, ws, hres.2, .inr ⟨rfl, w, rfl⟩⟩
  clear hres
  (refine rr fun K R hK hR => ?_; simp (maxSteps := 10000000) only [go_sem]; (try go_ints); (repeat refine And.intro side ?_); (first | refine hK _ ?_ | refine hR _ _ ?_); clear hK hR K R)
  repeat (first | refine nav ?_ | refine bo ?_)
  (refine wr fun K R hK hR => ?_; simp (maxSteps := 10000000) only [go_sem, hw2.k, b1]; (try go_ints); (try simp only [go_sem, hw2.k, b1]); (repeat refine And.intro side ?_); (first | refine hK _ ?_ | refine hR _ _ ?_); clear hK hR K R)
  refine RL_callDg rfl (by simp only [go_sem] <;> exact rfl) (fun e => hv) rfl rfl rfl (fun e => by (try simp only [go_sem] at e); simp only [go_sem, e] <;> (try simp only [go_sem]) <;> first | exact LeA.refl _ | exact Le.refl _) rfl rfl ?_
  (refine rr fun K R hK hR => ?_; simp (maxSteps := 10000000) only [go_sem]; (try go_ints); (repeat refine And.intro side ?_); (first | refine hK _ ?_ | refine hR _ _ ?_); clear hK hR K R)
  repeat (first | refine nav ?_ | refine bo ?_)
  refine W_cond (b := bad || !bv) (by simp only [go_sem] <;> cases bad <;> cases bv <;> rfl) (fun hb => ?_) (fun hb => ?_)
  · have hrr : runA (walkF p 1 0 []) bv ff lg out = errA 1 := by
      rcases hbad with ⟨rfl, h⟩ | ⟨rfl, w, h⟩
      · rw [h]; rfl
      · rw [h]
        have : bv = false := by simpa using hb
        simp [runA, this]
    rw [hrr]
    repeat (first | refine nav ?_ | refine bo ?_)
    (refine wr fun K R hK hR => ?_; simp (maxSteps := 10000000) only [go_sem]; (try go_ints); (repeat refine And.intro side ?_); (first | refine hK _ ?_ | refine hR _ _ ?_); clear hK hR K R)
    repeat (first | refine nav ?_ | refine bo ?_)
    refine endQ_data (by simp only [go_sem] <;> exact rfl) (Le.of_eq ?_) rfl
    rfl
  · simp only [Bool.or_eq_false_iff, Bool.not_eq_eq_eq_not, Bool.not_false] at hb
    obtain ⟨hb1, rfl⟩ := hb
    obtain ⟨_, w, hwx⟩ : bad = false ∧ ∃ w, walkF p 1 0 [] = some (w, n, ws) := by
      rcases hbad with ⟨h, _⟩ | h
      · rw [hb1] at h; cases h
      · exact h
    subst hb1
    replace hf := hf rfl w n ws hwx
    replace hlg := hlg rfl (by rw [hwx]; rfl)
    replace hr := hr w n ws hwx rfl
    rw [hwx]
    refine nav ?_
    change W Try.prog 62 _ _ _
    refine W_seq ?_
    have hbM : M < o2.length := (List.getElem?_eq_some_iff.1 hw2.m).1
    have hKM := hw2.ne
    have hM2 : 2 ≤ M := by
      rcases Nat.lt_or_ge M 2 with h | h
      · have : M = 0 ∨ M = 1 := by omega
        rcases this with rfl | rfl
        · have := hw2.m.symm.trans b0; simp at this
        · have := hw2.m.symm.trans b1; simp at this
      · exact h
    refine W_weak (s' := ⟨tab [(2, .ptr 0 0 0), (3, .ptr 1 0 0), (6, .ptr K 0 0)], o2⟩) (tab_le fun y hy => ?_) rfl ?_
    · simp only [List.mem_cons, List.not_mem_nil, or_false] at hy
      rcases hy with rfl | rfl | rfl <;> rfl
    have hd0 : (o2.set M Ob.dead ++ [Ob.dead]).set M (.mapo (ents ws)) = o2 ++ [Ob.dead] := by
      rw [List.set_append_left _ _ (by simpa using hbM), List.set_set, set_of_get hw2.m]
    refine W_rangeMap (s1 := ⟨upd (upd (upd (upd (tab [(2, .ptr 0 0 0), (3, .ptr 1 0 0), (6, .ptr K 0 0)]) 27 (.ptr K 0 0)) 28 (.ptr K 0 0)) 29 (.ptr K 0 1)) 30 (.mp M), o2⟩) (es := ents ws) (im := M) 4 rfl ?_ Try.underlying60 (by simp only [go_sem] <;> exact rfl) hw2.m ?_ (by decide)
      (fun l t o => o = o2.set M .dead ++ [.dead] ∧ t 2 = .ptr 0 0 0 ∧ t 3 = .ptr 1 0 0 ∧ ∀ x ∈ ws, (AV.s x.1, AV.i .i64 x.2) ∈ l ∨ 0 ≤ ff x.1 x.2) ⟨rfl, by simp only [go_sem], by simp only [go_sem], fun x hx => .inl (by unfold ents; exact List.mem_map.2 ⟨x, hx, rfl⟩)⟩ ?_ ?_
    · (refine rr fun K R hK hR => ?_; simp (maxSteps := 10000000) only [go_sem, hw2.k]; (try go_ints); (try simp only [go_sem, hw2.k]); (repeat refine And.intro side ?_); (first | refine hK _ ?_ | refine hR _ _ ?_); clear hK hR K R)
      exact ⟨rfl, rfl⟩
    · simp [litE, ents, AV.lit]
    · rintro l l' k v t o ⟨rfl, h2, h3, hl⟩ h31 hperm hsub
      have hkv := hsub (k, v) (hperm.mem_iff.2 (by simp))
      unfold ents at hkv
      obtain ⟨y, hy, e⟩ := List.mem_map.1 hkv
      simp only [Prod.mk.injEq] at e
      obtain ⟨rfl, rfl⟩ := e
      have b1' : (o2.set M Ob.dead ++ [Ob.dead])[1]? = some (.cells 2 [[.i .i64 s.size, .sl 3 (rels s.rels)]]) := app_get _ (by rw [List.getElem?_set_ne (by omega)]; exact b1)
      (refine rr fun K R hK hR => ?_; simp (maxSteps := 10000000) only [go_sem]; (try go_ints); (repeat refine And.intro side ?_); (first | refine hK _ ?_ | refine hR _ _ ?_); clear hK hR K R)
      repeat (first | refine nav ?_ | refine bo ?_)
      (refine wr fun K R hK hR => ?_; simp (maxSteps := 10000000) only [go_sem, h3, b1']; (try go_ints); (try simp only [go_sem, h3, b1']); (repeat refine And.intro side ?_); (first | refine hK _ ?_ | refine hR _ _ ?_); clear hK hR K R)
      refine RL_callF (hf y hy) rfl rfl rfl (by first | (simp only [go_sem] <;> first | exact LeA.refl _ | exact Le.refl _) | exact LeA.refl _) rfl rfl ?_
      (refine rr fun K R hK hR => ?_; simp (maxSteps := 10000000) only [go_sem]; (try go_ints); (repeat refine And.intro side ?_); (first | refine hK _ ?_ | refine hR _ _ ?_); clear hK hR K R)
      repeat (first | refine nav ?_ | refine bo ?_)
      refine W_cond (b := decide (ff y.1 y.2 < 0)) (by simp only [go_sem]) (fun hc => ?_) (fun hc => ?_)
      · have hrr : runA (some (w, n, ws)) true ff lg out = errA 4 := by
          have : (ws.any fun x => decide (ff x.1 x.2 < 0)) = true := List.any_eq_true.2 ⟨y, hy, hc⟩
          simp [runA, this]
        rw [hrr]
        repeat (first | refine nav ?_ | refine bo ?_)
        (refine wr fun K R hK hR => ?_; simp (maxSteps := 10000000) only [go_sem]; (try go_ints); (repeat refine And.intro side ?_); (first | refine hK _ ?_ | refine hR _ _ ?_); clear hK hR K R)
        repeat (first | refine nav ?_ | refine bo ?_)
        refine rangeQ_ret ?_
        trace_state
        refine endQ_data (by simp only [go_sem] <;> exact rfl) (Le.of_eq ?_) rfl
        rfl
      · simp only [decide_eq_false_iff_not, Int.not_lt] at hc
        repeat (first | refine nav ?_ | refine bo ?_)
        refine rangeQ_normal ⟨⟨rfl, by simp only [go_sem, h2], by simp only [go_sem, h3], fun x hx => ?_⟩, by simp only [go_sem, h31]⟩
        rcases hl x hx with h | h
        · rcases List.mem_cons.1 (hperm.mem_iff.1 h) with h | h
          · simp only [Prod.mk.injEq, AV.s.injEq, AV.i.injEq, true_and] at h
            rw [h.1, h.2]; exact .inr hc
          · exact .inl h
        · exact .inr h
    · rintro t o ⟨rfl, h2, h3, hl⟩
      have hws : (ws.any fun x => decide (ff x.1 x.2 < 0)) = false := by
        rw [List.any_eq_false]
        intro x hx
        rcases hl x hx with h | h
        · cases h
        · simp; omega
      rw [hd0]
      change W Try.prog 62 _ _ _
      have hok3 : okO (o2 ++ [Ob.dead]) = true := okO_app hok2 rfl
      replace hr := hr hws
      have hrr : runA (some (w, n, ws)) true ff lg out = if lg = true then errA 5 else .tup [.sl 1 (tups out), .i .i64 0] := by simp [runA, hws]
      rw [hrr]
      refine W_weak (s' := ⟨tab [(2, .ptr 0 0 0), (3, .ptr 1 0 0)], o2 ++ [Ob.dead]⟩) (tab_le fun y hy => ?_) rfl ?_
      · simp only [List.mem_cons, List.not_mem_nil, or_false] at hy
        rcases hy with rfl | rfl
        · simp only [go_sem, h2]
        · simp only [go_sem, h3]
      have b0' := fun l => app_get l b0
      have b1' := fun l => app_get l b1
      repeat (first | refine nav ?_ | refine bo ?_)
      (refine wr fun K R hK hR => ?_; simp (maxSteps := 10000000) only [go_sem, b0', b1']; (try go_ints); (try simp only [go_sem, b0', b1']); (repeat refine And.intro side ?_); (first | refine hK _ ?_ | refine hR _ _ ?_); clear hK hR K R)
      rw [hcx] at hlg
      refine RL_callF (hlg) rfl rfl rfl (by first | (simp only [go_sem] <;> first | exact LeA.refl _ | exact Le.refl _) | exact LeA.refl _) rfl rfl ?_
      (refine rr fun K R hK hR => ?_; simp (maxSteps := 10000000) only [go_sem]; (try go_ints); (repeat refine And.intro side ?_); (first | refine hK _ ?_ | refine hR _ _ ?_); clear hK hR K R)
      repeat (first | refine nav ?_ | refine bo ?_)
      refine W_cond (b := lg) (by simp only [go_sem]) (fun hc => ?_) (fun hc => ?_)
      · rw [if_pos hc]
        repeat (first | refine nav ?_ | refine bo ?_)
        (refine wr fun K R hK hR => ?_; simp (maxSteps := 10000000) only [go_sem]; (try go_ints); (repeat refine And.intro side ?_); (first | refine hK _ ?_ | refine hR _ _ ?_); clear hK hR K R)
        repeat (first | refine nav ?_ | refine bo ?_)
        refine endQ_data (by simp only [go_sem] <;> exact rfl) (Le.of_eq ?_) rfl
        rfl
      rw [if_neg (by rw [hc]; decide)]
      replace hr := hr hc
      repeat (first | refine nav ?_ | refine bo ?_)
      (refine wr fun K R hK hR => ?_; simp (maxSteps := 10000000) only [go_sem]; (try go_ints); (repeat refine And.intro side ?_); (first | refine hK _ ?_ | refine hR _ _ ?_); clear hK hR K R)
      repeat (first | refine nav ?_ | refine bo ?_)
      generalize ho3 : o2 ++ [Ob.dead] = o3 at *
      have c0 : o3[0]? = some (boxP p) := by have := b0' [Ob.dead]; rwa [ho3] at this
      have c1 : o3[1]? = some (.cells 2 [[.i .i64 s.size, .sl 3 (rels s.rels)]]) := by have := b1' [Ob.dead]; rwa [ho3] at this
      refine W_drawInv (by decide +kernel) (fun d x => I12 p s out o3 d x) (by decide +kernel) ?_ ?_ ?_
      · exact ⟨by simp only [go_sem], by simp only [go_sem], by simp only [go_sem], by simp, fun h => by simp at h, fun h => by simp at h, fun h => by simp at h, fun h => by simp at h, fun h => by simp at h, fun h => by simp at h⟩
      · intro d x i o ho hd hdep hI
        obtain ⟨t, ob⟩ := x
        obtain ⟨k2, k3, k10, ko, q0, q1, q2, q3, q4, q5⟩ := hI
        simp only at k2 k3 k10 ko q0 q1 q2 q3 q4 q5
        have up : ∀ (i : Nat) (y : Ob), o3[i]? = some y → ob[i]? = some y := fun i y h => by
          rw [ko]; split
          · exact app_get _ h
          · exact h
        have hobok : okO ob = true := by
          rw [ko]; split
          · exact engObs_ok hok3
          · exact hok3
        have u0 := up _ _ c0
        have u1 := up _ _ c1
        have tl : (tups out).length = out.length := by simp [tups]
        match i, ho with
        | 0, ho =>
          obtain rfl := Option.some.inj ho
          refine ⟨rfl, OpW_run [] rfl rfl fun K' hK' => ?_⟩
          simp (maxSteps := 10000000) only [go_sem, k3, u1]
          (try go_ints)
          (repeat refine And.intro side ?_)
          refine hK' _ ?_
          clear hK' K' ho hdep
          refine ⟨by simpa [upd] using k2, by simpa [upd] using k3, by simpa [upd] using k10, by simpa using ko, fun h => ?_, fun h => ?_, fun h => ?_, fun h => ?_, fun h => ?_, fun h => ?_⟩
          all_goals first | (simp [upd]; done) | (simp [upd, hsx, hcx]; done) | (simp [upd]; first | exact q0 (by simpa using h) | exact q1 (by simpa using h) | exact q2 (by simpa using h) | exact q3 (by simpa using h) | exact q4 (by simpa using h) | exact q5 (by simpa using h))
        | 1, ho =>
          obtain rfl := Option.some.inj ho
          have h0 := q0 (hdep 0 (by decide +kernel))
          have e1 : ob = o3 := by rw [ko, hd]; rfl
          subst e1
          refine ⟨rfl, OpW_callE (caps := []) rfl rfl rfl (newEngine_spec s hobok) (by rintro r o' ⟨rfl, rfl⟩; exact ⟨by simp, by simp [AV.ltk, engObs], engObs_ok hobok⟩) rfl rfl (Nat.le_refl _) (by show LeA (argVals [Operand.tmp 46] [AV.agg s.cells] t ++ []) [AV.agg s.cells]; simp only [go_sem, h0]) hobok (by rfl) ?_⟩
          rintro r o' ⟨rfl, rfl⟩
          show I12 p s out ob _ ⟨upd (argDrop [Operand.tmp 46] [AV.agg s.cells] t) 47 (.ptr (ob.length + 1) 0 0), ob ++ engObs s ob.length⟩
          simp only [go_sem]
          clear ho hdep
          refine ⟨by simpa [upd] using k2, by simpa [upd] using k3, by simpa [upd] using k10, by simp, fun h => ?_, fun h => ?_, fun h => ?_, fun h => ?_, fun h => ?_, fun h => ?_⟩
          all_goals first | (simp [upd]; done) | (simp [upd]; first | exact q0 (by simpa using h) | exact q1 (by simpa using h) | exact q2 (by simpa using h) | exact q3 (by simpa using h) | exact q4 (by simpa using h) | exact q5 (by simpa using h))
        | 2, ho =>
          obtain rfl := Option.some.inj ho
          refine ⟨rfl, OpW_run [] rfl rfl fun K' hK' => ?_⟩
          simp (maxSteps := 10000000) only [go_sem, k2, u0]
          (try go_ints)
          (repeat refine And.intro side ?_)
          refine hK' _ ?_
          clear hK' K' ho hdep
          refine ⟨by simpa [upd] using k2, by simpa [upd] using k3, by simpa [upd] using k10, by simpa using ko, fun h => ?_, fun h => ?_, fun h => ?_, fun h => ?_, fun h => ?_, fun h => ?_⟩
          all_goals first | (simp [upd]; done) | (simp [upd, hsx, hcx]; done) | (simp [upd]; first | exact q0 (by simpa using h) | exact q1 (by simpa using h) | exact q2 (by simpa using h) | exact q3 (by simpa using h) | exact q4 (by simpa using h) | exact q5 (by simpa using h))
        | 3, ho =>
          obtain rfl := Option.some.inj ho
          have h1 := q1 (hdep 1 (by decide +kernel))
          have h2 := q2 (hdep 2 (by decide +kernel))
          have e1 : ob = o3 ++ engObs s o3.length := by rw [ko, if_pos (hdep 1 (by decide +kernel))]
          have hrun := hr ob (o3.length + 1) hobok (by rw [e1]; exact engObs_eng s o3)
          have hlt : o3.length + 1 < ob.length := by rw [e1]; simp [engObs]
          refine ⟨rfl, OpW_data (CallD.all rfl rfl rfl hrun rfl rfl (Nat.le_refl _) (by show LeA (argVals [Operand.tmp 47, Operand.tmp 48] [AV.ptr (o3.length + 1) 0 0, AV.agg p.cells] t ++ []) [AV.ptr (o3.length + 1) 0 0, AV.agg p.cells]; simp only [go_sem, h1, h2]) hobok (by rw [hcx]; simp [AV.ltk, AV.ltks, hlt]) rfl) ?_⟩
          show I12 p s out o3 _ ⟨upd (argDrop [Operand.tmp 47, Operand.tmp 48] [AV.ptr (o3.length + 1) 0 0, AV.agg p.cells] t) 49 _, ob⟩
          simp only [go_sem]
          clear ho hdep
          refine ⟨by simpa [upd] using k2, by simpa [upd] using k3, by simpa [upd] using k10, by simpa using ko, fun h => ?_, fun h => ?_, fun h => ?_, fun h => ?_, fun h => ?_, fun h => ?_⟩
          all_goals first | (simp [upd]; done) | (simp [upd]; first | exact q0 (by simpa using h) | exact q1 (by simpa using h) | exact q2 (by simpa using h) | exact q3 (by simpa using h) | exact q4 (by simpa using h) | exact q5 (by simpa using h))
        | 4, ho =>
          obtain rfl := Option.some.inj ho
          refine ⟨rfl, OpW_run [] rfl rfl fun K' hK' => ?_⟩
          simp (maxSteps := 10000000) only [go_sem, q3 (hdep 3 (by decide +kernel)), tl]
          (try go_ints)
          (repeat refine And.intro side ?_)
          refine hK' _ ?_
          clear hK' K' ho hdep
          refine ⟨by simpa [upd] using k2, by simpa [upd] using k3, by simpa [upd] using k10, by simpa using ko, fun h => ?_, fun h => ?_, fun h => ?_, fun h => ?_, fun h => ?_, fun h => ?_⟩
          all_goals first | (simp [upd]; done) | (simp [upd, hsx, hcx]; done) | (simp [upd]; first | exact q0 (by simpa using h) | exact q1 (by simpa using h) | exact q2 (by simpa using h) | exact q3 (by simpa using h) | exact q4 (by simpa using h) | exact q5 (by simpa using h))
        | 5, ho =>
          obtain rfl := Option.some.inj ho
          refine ⟨rfl, OpW_run [] rfl rfl fun K' hK' => ?_⟩
          simp (maxSteps := 10000000) only [go_sem]
          (try go_ints)
          (repeat refine And.intro side ?_)
          refine hK' _ ?_
          clear hK' K' ho hdep
          refine ⟨by simpa [upd] using k2, by simpa [upd] using k3, by simpa [upd] using k10, by simpa using ko, fun h => ?_, fun h => ?_, fun h => ?_, fun h => ?_, fun h => ?_, fun h => ?_⟩
          all_goals first | (simp [upd]; done) | (simp [upd, hsx, hcx]; done) | (simp [upd]; first | exact q0 (by simpa using h) | exact q1 (by simpa using h) | exact q2 (by simpa using h) | exact q3 (by simpa using h) | exact q4 (by simpa using h) | exact q5 (by simpa using h))
        | n + 6, ho => simp at ho
      · intro d x hd hI
        obtain ⟨t, ob⟩ := x
        obtain ⟨k2, k3, k10, ko, q0, q1, q2, q3, q4, q5⟩ := hI
        simp only at k10 ko q3 q4 q5
        replace q3 := q3 (hd 3 (by decide))
        replace q4 := q4 (hd 4 (by decide))
        replace q5 := q5 (hd 5 (by decide))
        rw [if_pos (hd 1 (by decide))] at ko
        have tl : (tups out).length = out.length := by simp [tups]
        change W Try.prog 62 _ _ _
        refine W_weak (s' := ⟨mix 51 61 [10, 12] (tab [(10, .own 1 []), (51, .i .i64 0)]) (tab [(49, .sl 1 (tups out)), (50, .i .i64 out.length)]), ob⟩) (tab_mix (fun y hy => ?_) (fun y hy => ?_)) rfl ?_
        · simp only [List.mem_cons, List.not_mem_nil, or_false] at hy
          rcases hy with rfl | rfl
          · exact k10
          · exact q5
        · simp only [List.mem_cons, List.not_mem_nil, or_false] at hy
          rcases hy with rfl | rfl
          · exact q3
          · exact q4
        repeat (first | refine nav ?_ | refine bo ?_)
        refine W_forM 51 61 [10, 12] (fun m t o => ∃ k : Nat, o = ob ∧ t 51 = .i .i64 k ∧ t 10 = .own 1 (tups (out.take k)) ∧ m = out.length - k ∧ k ≤ out.length) out.length ⟨0, rfl, by simp only [go_sem] <;> rfl, by simp only [go_sem] <;> rfl, by omega, by omega⟩ ?_
        rintro m t o ⟨k, rfl, h51, h10, rfl, hk⟩
        repeat (first | refine nav ?_ | refine bo ?_)
        (refine wr fun K R hK hR => ?_; simp (maxSteps := 10000000) only [go_sem, h51]; (try go_ints); (try simp only [go_sem, h51]); (repeat refine And.intro side ?_); (first | refine hK _ ?_ | refine hR _ _ ?_); clear hK hR K R)
        repeat (first | refine nav ?_ | refine bo ?_)
        refine W_cond (by simp only [go_sem] <;> exact rfl) (fun hb => ?_) (fun hb => ?_)
        · simp at hb
          have hb0 : k + 1 ≤ out.length := hb
          obtain ⟨x, hx⟩ : ∃ x, out[k]? = some x := ⟨_, List.getElem?_eq_getElem hb⟩
          have hcx2 := hcl x (List.mem_of_getElem? hx)
          obtain ⟨acc, hacc⟩ : ∃ acc, acc = out.take k := ⟨_, rfl⟩
          have hal : (tups acc).length = k := by rw [hacc]; simp [tups]; omega
          rw [← hacc] at h10
          repeat (first | refine nav ?_ | refine bo ?_)
          (refine wr fun K R hK hR => ?_; simp (maxSteps := 10000000) only [go_sem, h51, tups_get hx, tl]; (try go_ints); (try simp only [go_sem, h51, tups_get hx, tl]); (repeat refine And.intro side ?_); (first | refine hK _ ?_ | refine hR _ _ ?_); clear hK hR K R)
          repeat (first | refine nav ?_ | refine bo ?_)
          (refine W_reg [55] fun K R hK hR => ?_; simp (maxSteps := 10000000) only [go_sem, h10]; (try go_ints); (try simp only [go_sem, h10]); (repeat refine And.intro side ?_); (first | refine hK _ ?_ | refine hR _ _ ?_); clear hK hR K R)
          refine RL_callF (hcx2) rfl rfl rfl (by first | (simp only [go_sem] <;> first | exact LeA.refl _ | exact Le.refl _) | exact LeA.refl _) rfl rfl ?_
          (refine RL_reg [55] fun K R hK hR => ?_; simp (maxSteps := 10000000) only [go_sem, hal]; (try go_ints); (repeat refine And.intro (by first | exact side | (omega)) ?_); (first | refine hK _ ?_ | refine hR _ _ ?_); clear hK hR K R)
          repeat (first | refine nav ?_ | refine bo ?_)
          (refine wr fun K R hK hR => ?_; simp (maxSteps := 10000000) only [go_sem, h51]; (try go_ints); (try simp only [go_sem, h51]); (repeat refine And.intro side ?_); (first | refine hK _ ?_ | refine hR _ _ ?_); clear hK hR K R)
          refine forQ_normal (out.length - (k + 1)) (by omega) ⟨k + 1, rfl, by simp only [go_sem] <;> rfl, ?_, rfl, hb0⟩
          simp only [go_sem, List.take_add_one, hx, ← hacc]
          simp [tups]
        · simp at hb
          obtain rfl : k = out.length := by omega
          rw [List.take_length] at h10
          repeat (first | refine nav ?_ | refine bo ?_)
          (refine wr fun K R hK hR => ?_; simp (maxSteps := 10000000) only [go_sem, h10]; (try go_ints); (try simp only [go_sem, h10]); (repeat refine And.intro side ?_); (first | refine hK _ ?_ | refine hR _ _ ?_); clear hK hR K R)
          repeat (first | refine nav ?_ | refine bo ?_)
          refine endQ_data (by simp only [go_sem] <;> exact rfl) (Le.of_eq ?_) rfl
          rfl
end Go.AW
