/-
The search for models begins: the map of the clauses with a number.
-/
import Derived.Test.YtilaieleaiadeaaKam
import Derived.Test.YtilaieleaiadeaaKag
namespace Go.AW
open Go Go.Proofs TyTry Go.IntWalk
set_option linter.unusedSimpArgs false
set_option linter.unusedVariables false
set_option maxRecDepth 10000
set_option maxHeartbeats 1000000

def AllI (es : List (AV × AV)) : Prop := ∀ e ∈ es, ∃ k : Int, e.1 = .i .i64 k
theorem keq_int (x y : Int) : keq (.i .i64 x) (.i .i64 y) = some (x == y) := by simp [keq]
theorem mset_ok (x : Int) (v : AV) : ∀ (es : List (AV × AV)), AllI es → ∃ es', mset (.i .i64 x) v es = some es' ∧ (∀ e ∈ es', e ∈ es ∨ e = (.i .i64 x, v)) ∧ ∀ y : Int, mfind (.i .i64 y) es' = if y = x then some (some v) else mfind (.i .i64 y) es
  | [], _ => ⟨[(.i .i64 x, v)], rfl, fun e he => .inr (by simpa using he), fun y => by
      simp only [mfind, keq_int]
      by_cases h : y = x
      · simp [h]
      · have : (y == x) = false := by simpa using h
        simp [h, this]⟩
  | (k, u) :: es, h => by
    obtain ⟨k', hk⟩ := h (k, u) (by simp)
    simp only at hk
    subst hk
    obtain ⟨es', h1, h2, h3⟩ := mset_ok x v es fun e he => h e (by simp [he])
    by_cases hx : x = k'
    · subst hx
      refine ⟨(.i .i64 x, v) :: es, by simp [mset, keq_int], fun e he => ?_, fun y => ?_⟩
      · simp at he ⊢; rcases he with h | h <;> simp [h]
      · simp only [mfind, keq_int]
        by_cases hy : y = x
        · simp [hy]
        · have : (y == x) = false := by simpa using hy
          simp [hy, this]
    · have hxk : (x == k') = false := by simpa using hx
      refine ⟨(.i .i64 k', u) :: es', by simp [mset, keq_int, hxk, h1], fun e he => ?_, fun y => ?_⟩
      · simp at he ⊢
        rcases he with h | h
        · simp [h]
        · rcases h2 e h with q | q <;> simp [q]
      · simp only [mfind, keq_int, h3]
        by_cases hy : y = k'
        · have : y ≠ x := fun e => hx (e.symm.trans hy)
          simp [hy, this]
          exact fun e => absurd e.symm hx
        · have : (y == k') = false := by simpa using hy
          simp [this]
theorem AllI.set {es es' : List (AV × AV)} (h : AllI es) {x : Int} {v : AV} (h2 : ∀ e ∈ es', e ∈ es ∨ e = (.i .i64 x, v)) : AllI es' := fun e he => by
  rcases h2 e he with q | q
  · exact h e q
  · rw [q]; exact ⟨x, rfl⟩
structure I19 (K M : Nat) (x : Int) (j : Nat) (base : List (Nat × AV)) (v0 : AV) (n0 : Nat) (row : List AV) (oc oc2 : List Ob) (es' : List (AV × AV)) (d : Nat → Bool) (s : St) : Prop where
  c : (d 14 = true → d 13 = true ∧ d 3 = true ∧ d 4 = true) ∧ (d 13 = true → d 12 = true ∧ d 10 = true)
  b : ∀ x ∈ base, s.t x.1 = x.2
  f6 : s.t 6 = .ptr K 0 0
  fx : s.t 13 = .i .i64 x
  fj : s.t 10 = .i .i64 j
  f0 : d 0 = true → s.t 96 = .ptr K 0 0
  f1 : d 1 = true → s.t 97 = .ptr K 0 0
  f2 : d 2 = true → s.t 98 = .ptr K 0 2
  f3 : d 3 = true → s.t 99 = .mp M
  f4 : d 4 = true → s.t 100 = .i .i64 x
  f5 : d 5 = true → s.t 101 = .ptr K 0 0
  f7 : d 6 = true → s.t 102 = .ptr K 0 0
  f8 : d 7 = true → s.t 103 = .ptr K 0 2
  g8 : d 8 = true → s.t 104 = .mp M
  g9 : d 9 = true → s.t 105 = .i .i64 x
  g0 : d 10 = true → d 13 = false → s.t 106 = v0
  g1 : d 11 = true → s.t 107 = .i .i64 j
  g2 : d 12 = true → s.t 108 = .own 1 [[.i .i64 j]]
  g3 : d 13 = true → s.t 109 = .ref oc.length 0 (n0 + 1)
  o : s.o = if d 14 = true then oc2.set M (.mapo es') else if d 13 = true then oc2 else oc
  k1 : oc[K]? = some (.cells 13 [row])
  k2 : oc2[K]? = some (.cells 13 [row])
theorem reg19 {c : Code} (hc : regAt 19 (Try.f64.body.getD .skip) = some c) {Q : Exit → St → Prop} {s : St} {K M : Nat} {x : Int} {j n0 : Nat} {base : List (Nat × AV)} {v0 : AV} {a0 a1 a3 a4 a5 a6 a7 a8 a9 a10 a11 a12 : AV} {oc oc2 : List Ob} {es es' : List (AV × AV)} {r0 : List (List AV)}
    (hb : ∀ x ∈ base, (x.1 < 96 ∨ 110 ≤ x.1) ∧ x.1 ≠ 9) (hm1 : oc[M]? = some (.mapo es)) (hm2 : oc2[M]? = some (.mapo es)) (hf : mfind (.i .i64 x) es = some none ∧ v0 = .nsl ∧ r0 = [] ∧ oc2 = oc ++ [.cells 1 [[.i .i64 j]]] ∨
      ∃ I, mfind (.i .i64 x) es = some (some v0) ∧ v0 = .ref I 0 n0 ∧ oc[I]? = some (.cells 1 r0) ∧ oc2 = oc.set I .dead ++ [.cells 1 (r0 ++ [[.i .i64 j]])]) (hr0 : r0.length = n0) (hn0 : n0 ≤ 1000000) (hrp : (r0.all fun r => r.all fun c => !c.isOwn && c.plain) = true)
    (hset : mset (.i .i64 x) (.ref oc.length 0 (n0 + 1)) es = some es')
    (h0 : I19 K M x j base v0 n0 [a0, a1, .mp M, a3, a4, a5, a6, a7, a8, a9, a10, a11, a12] oc oc2 es' (fun _ => false) s) (hend : ∀ s', I19 K M x j base v0 n0 [a0, a1, .mp M, a3, a4, a5, a6, a7, a8, a9, a10, a11, a12] oc oc2 es' (fun _ => true) s' → Q .normal s') : W Try.prog 152 c Q s := by
  simp only [Try.f64, Option.getD_some, regAt, Nat.reduceEqDiff, reduceIte, Option.some.injEq] at hc
  subst hc
  refine W_drawInv (by decide +kernel) (fun d s => I19 K M x j base v0 n0 [a0, a1, .mp M, a3, a4, a5, a6, a7, a8, a9, a10, a11, a12] oc oc2 es' d s) (by decide +kernel) ?_ ?_ ?_
  · exact ⟨by simp, h0.b, h0.f6, h0.fx, h0.fj, fun h => by simp at h, fun h => by simp at h, fun h => by simp at h, fun h => by simp at h, fun h => by simp at h, fun h => by simp at h, fun h => by simp at h, fun h => by simp at h, fun h => by simp at h, fun h => by simp at h, fun h => by simp at h, fun h => by simp at h, fun h => by simp at h, fun h => by simp at h, by simpa using h0.o, h0.k1, h0.k2⟩
  · intro d s i o ho hd hdep hI
    obtain ⟨t, ob⟩ := s
    obtain ⟨kc, kb, k6, kx, kj, k0, k1, k2, k3, k4, k5, k7, k8, m8, m9, m0, m1, m2, m3, ko, q1, q2⟩ := hI
    simp only at kb k6 kx kj k0 k1 k2 k3 k4 k5 k7 k8 m8 m9 m0 m1 m2 m3 ko
    have nkm : K ≠ M := by rintro rfl; rw [q1] at hm1; simp at hm1
    have hkk : ob[K]? = some (.cells 13 [[a0, a1, .mp M, a3, a4, a5, a6, a7, a8, a9, a10, a11, a12]]) := by
      rw [ko]
      split
      · rw [List.getElem?_set_ne (Ne.symm nkm)]; exact q2
      · split
        · exact q2
        · exact q1
    match i, ho with
    | 0, ho =>
      obtain rfl := Option.some.inj ho
      refine ⟨rfl, OpW_run [] rfl rfl fun K' hK' => ?_⟩
      simp (maxSteps := 10000000) only [go_sem, k6]
      (try go_ints)
      (repeat refine And.intro side ?_)
      refine hK' _ ?_
      clear hK' K' ho hdep
      refine ⟨by simp_all, fun x hx => by have hq := (hb x hx).1; have hq2 := kb x hx; simp only [upd]; (repeat rw [if_neg (by omega)]); exact hq2, ?_, ?_, ?_, ?_, ?_, ?_, ?_, ?_, ?_, ?_, ?_, ?_, ?_, ?_, ?_, ?_, ?_, ?_, ?_, ?_⟩ <;> first | (simp [upd]; done) | (simp [upd]; assumption) | (simp_all [upd]; done)
    | 1, ho =>
      obtain rfl := Option.some.inj ho
      refine ⟨rfl, OpW_run [] rfl rfl fun K' hK' => ?_⟩
      simp (maxSteps := 10000000) only [go_sem, k0 (hdep 0 (by decide +kernel))]
      (try go_ints)
      (repeat refine And.intro side ?_)
      refine hK' _ ?_
      clear hK' K' ho hdep
      refine ⟨by simp_all, fun x hx => by have hq := (hb x hx).1; have hq2 := kb x hx; simp only [upd]; (repeat rw [if_neg (by omega)]); exact hq2, ?_, ?_, ?_, ?_, ?_, ?_, ?_, ?_, ?_, ?_, ?_, ?_, ?_, ?_, ?_, ?_, ?_, ?_, ?_, ?_⟩ <;> first | (simp [upd]; done) | (simp [upd]; assumption) | (simp_all [upd]; done)
    | 2, ho =>
      obtain rfl := Option.some.inj ho
      refine ⟨rfl, OpW_run [] rfl rfl fun K' hK' => ?_⟩
      simp (maxSteps := 10000000) only [go_sem, k1 (hdep 1 (by decide +kernel))]
      (try go_ints)
      (repeat refine And.intro side ?_)
      refine hK' _ ?_
      clear hK' K' ho hdep
      refine ⟨by simp_all, fun x hx => by have hq := (hb x hx).1; have hq2 := kb x hx; simp only [upd]; (repeat rw [if_neg (by omega)]); exact hq2, ?_, ?_, ?_, ?_, ?_, ?_, ?_, ?_, ?_, ?_, ?_, ?_, ?_, ?_, ?_, ?_, ?_, ?_, ?_, ?_⟩ <;> first | (simp [upd]; done) | (simp [upd]; assumption) | (simp_all [upd]; done)
    | 3, ho =>
      obtain rfl := Option.some.inj ho
      have e2 := k2 (hdep 2 (by decide +kernel))
      refine ⟨rfl, OpW_run [1000000] rfl rfl fun K' hK' => ?_⟩
      simp (maxSteps := 10000000) only [go_sem, e2, hkk]
      (try go_ints)
      (repeat refine And.intro side ?_)
      refine hK' _ ?_
      clear hK' K' ho hdep
      refine ⟨by simp_all, fun x hx => by have hq := (hb x hx).1; have hq2 := kb x hx; simp only [upd]; (repeat rw [if_neg (by omega)]); exact hq2, ?_, ?_, ?_, ?_, ?_, ?_, ?_, ?_, ?_, ?_, ?_, ?_, ?_, ?_, ?_, ?_, ?_, ?_, ?_, ?_⟩ <;> first | (simp [upd]; done) | (simp [upd]; assumption) | (simp_all [upd]; done)
    | 4, ho =>
      obtain rfl := Option.some.inj ho
      refine ⟨rfl, OpW_run [] rfl rfl fun K' hK' => ?_⟩
      simp (maxSteps := 10000000) only [go_sem, kx]
      (try go_ints)
      (repeat refine And.intro side ?_)
      refine hK' _ ?_
      clear hK' K' ho hdep
      refine ⟨by simp_all, fun x hx => by have hq := (hb x hx).1; have hq2 := kb x hx; simp only [upd]; (repeat rw [if_neg (by omega)]); exact hq2, ?_, ?_, ?_, ?_, ?_, ?_, ?_, ?_, ?_, ?_, ?_, ?_, ?_, ?_, ?_, ?_, ?_, ?_, ?_, ?_⟩ <;> first | (simp [upd]; done) | (simp [upd]; assumption) | (simp_all [upd]; done)
    | 5, ho =>
      obtain rfl := Option.some.inj ho
      refine ⟨rfl, OpW_run [] rfl rfl fun K' hK' => ?_⟩
      simp (maxSteps := 10000000) only [go_sem, k6]
      (try go_ints)
      (repeat refine And.intro side ?_)
      refine hK' _ ?_
      clear hK' K' ho hdep
      refine ⟨by simp_all, fun x hx => by have hq := (hb x hx).1; have hq2 := kb x hx; simp only [upd]; (repeat rw [if_neg (by omega)]); exact hq2, ?_, ?_, ?_, ?_, ?_, ?_, ?_, ?_, ?_, ?_, ?_, ?_, ?_, ?_, ?_, ?_, ?_, ?_, ?_, ?_⟩ <;> first | (simp [upd]; done) | (simp [upd]; assumption) | (simp_all [upd]; done)
    | 6, ho =>
      obtain rfl := Option.some.inj ho
      refine ⟨rfl, OpW_run [] rfl rfl fun K' hK' => ?_⟩
      simp (maxSteps := 10000000) only [go_sem, k5 (hdep 5 (by decide +kernel))]
      (try go_ints)
      (repeat refine And.intro side ?_)
      refine hK' _ ?_
      clear hK' K' ho hdep
      refine ⟨by simp_all, fun x hx => by have hq := (hb x hx).1; have hq2 := kb x hx; simp only [upd]; (repeat rw [if_neg (by omega)]); exact hq2, ?_, ?_, ?_, ?_, ?_, ?_, ?_, ?_, ?_, ?_, ?_, ?_, ?_, ?_, ?_, ?_, ?_, ?_, ?_, ?_⟩ <;> first | (simp [upd]; done) | (simp [upd]; assumption) | (simp_all [upd]; done)
    | 7, ho =>
      obtain rfl := Option.some.inj ho
      refine ⟨rfl, OpW_run [] rfl rfl fun K' hK' => ?_⟩
      simp (maxSteps := 10000000) only [go_sem, k7 (hdep 6 (by decide +kernel))]
      (try go_ints)
      (repeat refine And.intro side ?_)
      refine hK' _ ?_
      clear hK' K' ho hdep
      refine ⟨by simp_all, fun x hx => by have hq := (hb x hx).1; have hq2 := kb x hx; simp only [upd]; (repeat rw [if_neg (by omega)]); exact hq2, ?_, ?_, ?_, ?_, ?_, ?_, ?_, ?_, ?_, ?_, ?_, ?_, ?_, ?_, ?_, ?_, ?_, ?_, ?_, ?_⟩ <;> first | (simp [upd]; done) | (simp [upd]; assumption) | (simp_all [upd]; done)
    | 8, ho =>
      obtain rfl := Option.some.inj ho
      have e2 := k8 (hdep 7 (by decide +kernel))
      refine ⟨rfl, OpW_run [1000000] rfl rfl fun K' hK' => ?_⟩
      simp (maxSteps := 10000000) only [go_sem, e2, hkk]
      (try go_ints)
      (repeat refine And.intro side ?_)
      refine hK' _ ?_
      clear hK' K' ho hdep
      refine ⟨by simp_all, fun x hx => by have hq := (hb x hx).1; have hq2 := kb x hx; simp only [upd]; (repeat rw [if_neg (by omega)]); exact hq2, ?_, ?_, ?_, ?_, ?_, ?_, ?_, ?_, ?_, ?_, ?_, ?_, ?_, ?_, ?_, ?_, ?_, ?_, ?_, ?_⟩ <;> first | (simp [upd]; done) | (simp [upd]; assumption) | (simp_all [upd]; done)
    | 9, ho =>
      obtain rfl := Option.some.inj ho
      refine ⟨rfl, OpW_run [] rfl rfl fun K' hK' => ?_⟩
      simp (maxSteps := 10000000) only [go_sem, kx]
      (try go_ints)
      (repeat refine And.intro side ?_)
      refine hK' _ ?_
      clear hK' K' ho hdep
      refine ⟨by simp_all, fun x hx => by have hq := (hb x hx).1; have hq2 := kb x hx; simp only [upd]; (repeat rw [if_neg (by omega)]); exact hq2, ?_, ?_, ?_, ?_, ?_, ?_, ?_, ?_, ?_, ?_, ?_, ?_, ?_, ?_, ?_, ?_, ?_, ?_, ?_, ?_⟩ <;> first | (simp [upd]; done) | (simp [upd]; assumption) | (simp_all [upd]; done)
    | 10, ho =>
      obtain rfl := Option.some.inj ho
      have p13 : d 13 = false := by cases h : d 13 with | false => rfl | true => first | (rw [(kc.2 h).1] at hd; cases hd) | (rw [(kc.2 h).2] at hd; cases hd)
      have p14 : d 14 = false := by cases h : d 14 with | false => rfl | true => rw [(kc.1 h).1] at p13; cases p13
      have e8 := m8 (hdep 8 (by decide +kernel))
      have e9 := m9 (hdep 9 (by decide +kernel))
      simp only [p13, p14, Bool.false_eq_true, if_false] at ko
      subst ko
      refine ⟨rfl, OpW_run [1000000] rfl rfl fun K' hK' => ?_⟩
      rcases hf with ⟨hf, rfl, rfl, rfl⟩ | ⟨I, hf, rfl, hI, rfl⟩
      · simp (maxSteps := 10000000) only [go_sem, e8, e9, hm1, hf]
        (try go_ints)
        (repeat refine And.intro side ?_)
        refine hK' _ ?_
        clear hK' K' ho hdep
        refine ⟨by simp_all, fun x hx => by have hq := (hb x hx).1; have hq2 := kb x hx; simp only [upd]; (repeat rw [if_neg (by omega)]); exact hq2, ?_, ?_, ?_, ?_, ?_, ?_, ?_, ?_, ?_, ?_, ?_, ?_, ?_, ?_, ?_, ?_, ?_, ?_, ?_, ?_⟩ <;> first | (simp [upd]; done) | (simp [upd]; assumption) | (simp_all [upd]; done)
      · simp (maxSteps := 10000000) only [go_sem, e8, e9, hm1, hf]
        (try go_ints)
        (repeat refine And.intro side ?_)
        refine hK' _ ?_
        clear hK' K' ho hdep
        refine ⟨by simp_all, fun x hx => by have hq := (hb x hx).1; have hq2 := kb x hx; simp only [upd]; (repeat rw [if_neg (by omega)]); exact hq2, ?_, ?_, ?_, ?_, ?_, ?_, ?_, ?_, ?_, ?_, ?_, ?_, ?_, ?_, ?_, ?_, ?_, ?_, ?_, ?_⟩ <;> first | (simp [upd]; done) | (simp [upd]; assumption) | (simp_all [upd]; done)
    | 11, ho =>
      obtain rfl := Option.some.inj ho
      refine ⟨rfl, OpW_run [] rfl rfl fun K' hK' => ?_⟩
      simp (maxSteps := 10000000) only [go_sem, kj]
      (try go_ints)
      (repeat refine And.intro side ?_)
      refine hK' _ ?_
      clear hK' K' ho hdep
      refine ⟨by simp_all, fun x hx => by have hq := (hb x hx).1; have hq2 := kb x hx; simp only [upd]; (repeat rw [if_neg (by omega)]); exact hq2, ?_, ?_, ?_, ?_, ?_, ?_, ?_, ?_, ?_, ?_, ?_, ?_, ?_, ?_, ?_, ?_, ?_, ?_, ?_, ?_⟩ <;> first | (simp [upd]; done) | (simp [upd]; assumption) | (simp_all [upd]; done)
    | 12, ho =>
      obtain rfl := Option.some.inj ho
      have e1 := m1 (hdep 11 (by decide +kernel))
      refine ⟨rfl, OpW_run [] rfl rfl fun K' hK' => ?_⟩
      simp (maxSteps := 10000000) only [go_sem, e1]
      (try go_ints)
      (repeat refine And.intro side ?_)
      refine hK' _ ?_
      clear hK' K' ho hdep
      refine ⟨by simp_all, fun x hx => by have hq := (hb x hx).1; have hq2 := kb x hx; simp only [upd]; (repeat rw [if_neg (by omega)]); exact hq2, ?_, ?_, ?_, ?_, ?_, ?_, ?_, ?_, ?_, ?_, ?_, ?_, ?_, ?_, ?_, ?_, ?_, ?_, ?_, ?_⟩ <;> first | (simp [upd]; done) | (simp [upd]; assumption) | (simp_all [upd]; done)
    | 13, ho =>
      obtain rfl := Option.some.inj ho
      have p14 : d 14 = false := by cases h : d 14 with | false => rfl | true => rw [(kc.1 h).1] at hd; cases hd
      have e10 := m0 (hdep 10 (by decide +kernel)) hd
      have e12 := m2 (hdep 12 (by decide +kernel))
      have e10' := (hdep 10 (by decide +kernel))
      have e12' := (hdep 12 (by decide +kernel))
      simp only [hd, p14, Bool.false_eq_true, if_false] at ko
      subst ko
      refine ⟨rfl, OpW_run [1000000] rfl rfl fun K' hK' => ?_⟩
      rcases hf with ⟨hf, rfl, rfl, rfl⟩ | ⟨I, hf, rfl, hI, rfl⟩
      · simp only [List.length_nil] at hr0
        subst hr0
        simp (maxSteps := 10000000) only [go_sem, e10, e12]
        (try go_ints)
        (repeat refine And.intro side ?_)
        refine hK' _ ?_
        clear hK' K' ho hdep
        refine ⟨by simp_all, fun x hx => by have hq := (hb x hx).1; have hq2 := kb x hx; simp only [upd]; (repeat rw [if_neg (by omega)]); exact hq2, ?_, ?_, ?_, ?_, ?_, ?_, ?_, ?_, ?_, ?_, ?_, ?_, ?_, ?_, ?_, ?_, ?_, ?_, ?_, ?_⟩ <;> first | (simp [upd]; done) | (simp [upd]; assumption) | (simp_all [upd]; done)
      · have htk : r0.take n0 = r0 := by rw [← hr0, List.take_length]
        simp (maxSteps := 10000000) only [go_sem, e10, e12, hI, hrp, htk]
        (try go_ints)
        refine And.intro (by simp only [Bool.and_eq_true, decide_eq_true_eq]; exact ⟨⟨⟨by omega, by omega⟩, by omega⟩, hrp⟩) ?_
        refine hK' _ ?_
        clear hK' K' ho hdep
        refine ⟨by simp_all, fun x hx => by have hq := (hb x hx).1; have hq2 := kb x hx; simp only [upd]; (repeat rw [if_neg (by omega)]); exact hq2, ?_, ?_, ?_, ?_, ?_, ?_, ?_, ?_, ?_, ?_, ?_, ?_, ?_, ?_, ?_, ?_, ?_, ?_, ?_, ?_⟩ <;> first | (simp [upd]; done) | (simp [upd]; assumption) | (simp_all [upd]; done)
    | 14, ho =>
      obtain rfl := Option.some.inj ho
      have e3 := k3 (hdep 3 (by decide +kernel))
      have e4 := k4 (hdep 4 (by decide +kernel))
      have e13 := m3 (hdep 13 (by decide +kernel))
      have e13' := (hdep 13 (by decide +kernel))
      have e3' := (hdep 3 (by decide +kernel))
      have e4' := (hdep 4 (by decide +kernel))
      simp only [hd, e13', if_true, Bool.false_eq_true, if_false] at ko
      subst ko
      refine ⟨rfl, OpW_run [] rfl rfl fun K' hK' => ?_⟩
      simp (maxSteps := 10000000) only [go_sem, e3, e4, e13, hm2, hset]
      (try go_ints)
      (repeat refine And.intro side ?_)
      refine hK' _ ?_
      clear hK' K' ho hdep
      refine ⟨by simp_all, fun x hx => by have hq := (hb x hx).1; have hq2 := kb x hx; simp only [upd]; (repeat rw [if_neg (by omega)]); exact hq2, ?_, ?_, ?_, ?_, ?_, ?_, ?_, ?_, ?_, ?_, ?_, ?_, ?_, ?_, ?_, ?_, ?_, ?_, ?_, ?_⟩ <;> first | (simp [upd]; done) | (simp [upd]; assumption) | (simp_all [upd]; done)
    | i + 15, ho => simp at ho
  · intro d s hd hI
    have e : ∀ i < 15, d i = true := hd
    obtain ⟨kc, kb, k6, kx, kj, k0, k1, k2, k3, k4, k5, k7, k8, m8, m9, m0, m1, m2, m3, ko, q1, q2⟩ := hI
    simp only [e 13 (by omega), e 14 (by omega), if_true] at ko
    refine hend s ⟨by simp, kb, k6, kx, kj, fun _ => k0 (e 0 (by omega)), fun _ => k1 (e 1 (by omega)), fun _ => k2 (e 2 (by omega)), fun _ => k3 (e 3 (by omega)), fun _ => k4 (e 4 (by omega)), fun _ => k5 (e 5 (by omega)), fun _ => k7 (e 6 (by omega)), fun _ => k8 (e 7 (by omega)), fun _ => m8 (e 8 (by omega)), fun _ => m9 (e 9 (by omega)), fun _ h => by simp at h, fun _ => m1 (e 11 (by omega)), fun _ => m2 (e 12 (by omega)), fun _ => m3 (e 13 (by omega)), by simpa using ko, q1, q2⟩
end Go.AW
/-
The search for models begins: empty clauses; a cleaned clause.
-/
namespace Go.AW
open Go Go.Proofs TyTry Go.IntWalk
set_option linter.unusedSimpArgs false
set_option linter.unusedVariables false
set_option maxRecDepth 10000
set_option maxHeartbeats 1000000

theorem sort0_spec : ACallsD Try.prog 80 [.sl 1 []] (.tup []) := run_ok (k := 300) (by kernel_rfl)
theorem compact0_spec : ACallsD Try.prog 81 [.sl 1 []] (.sl 1 []) := run_ok (k := 300) (by kernel_rfl)
def cln (l : List Int) : List Int := Lib.compact (sortI l)
theorem cln_nil : cln [] = [] := by
  have := compact_len (sortI [])
  rw [sortI_len] at this
  exact List.eq_nil_of_length_eq_zero (by simpa [cln] using this)
theorem cln_len (l : List Int) : (cln l).length ≤ l.length := by
  have := compact_len (sortI l)
  rw [sortI_len] at this
  exact this
theorem cln_mem (l : List Int) (x : Int) : x ∈ cln l ↔ x ∈ l := by
  unfold cln
  rw [compact_mem, sortI_mem]
theorem call7 {o7 : Oper} {t : Nat → AV} {o : List Ob} {v9 : AV} {R : AV → List Ob → Prop} {K : St → Prop} (ho : o7.op = .call ⟨.value (.func 81), #[.tmp 41], #[29]⟩) (hd : o7.dst = some 42)
    (h : ACalls Try.prog 81 [v9] o R) (hlen : ∀ r o', R r o' → o.length ≤ o'.length ∧ r.ltk o'.length = true ∧ okO o' = true) (ht : t 41 = v9) (hown : v9.isOwn = false) (hle : (ung true v9).dat = v9) (hoc : okO o = true) (hv : v9.ltk o.length = true)
    (hK : ∀ r o', R r o' → K ⟨upd t 42 r, o'⟩) : OpW Try.prog 152 o7 ⟨t, o⟩ K := by
  refine OpW_callE (R := R) (s := ⟨t, o⟩) (caps := []) ho rfl rfl h hlen rfl (by rw [hd]; rfl) (by simp) ?_ hoc (by simpa using hv) fun r o' hR => ?_
  · simp only [List.size_toArray, List.length_cons, List.length_nil, List.take_succ_cons, List.take_zero, List.map_nil, List.append_nil, argVals, argA, hown, Bool.false_eq_true, if_false, Nat.zero_add, opd]
    rw [ht, hle]
    exact LeA.refl _
  · have := hK r o' hR
    simp only [List.size_toArray, List.length_cons, List.length_nil, List.take_succ_cons, List.take_zero, argDrop, argT, hown, Bool.false_eq_true, if_false, Nat.zero_add]
    rw [hd]
    exact this
theorem hcall0 {K vars M V : Nat} {first : Bool} {lav : AV} {oc : List Ob} (hok : ∀ L, L = lav ∨ L = lav.dat → okO (oc.set K (.cells 13 [rowB vars M V first L])) = true) :
    ∀ (o7 : Oper) (t : Nat → AV) (L : AV), o7.op = .call ⟨.value (.func 81), #[.tmp 41], #[29]⟩ → o7.dst = some 42 → t 41 = .sl 1 [] → L = lav ∨ L = lav.dat → OpW Try.prog 152 o7 ⟨t, oc.set K (.cells 13 [rowB vars M V first L])⟩ fun s' =>
      (∀ k ≠ 42, ∀ v, stab v → t k = v → s'.t k = v) ∧ s'.t 42 = .sl 1 [] ∧ s'.o = oc.set K (.cells 13 [rowB vars M V first L]) := by
  intro o7 t L h1 h2 h3 h4
  refine call7 h1 h2 (compact0_spec.frame rfl rfl _) ?_ h3 rfl rfl (hok L h4) rfl ?_
  · rintro r o' ⟨rfl, rfl⟩
    exact ⟨Nat.le_refl _, rfl, hok L h4⟩
  · rintro r o' ⟨rfl, rfl⟩
    exact ⟨fun k hk v _ hv => by simp only [upd, if_neg hk]; exact hv, by simp [upd], rfl⟩
theorem ints_dat (l : List Int) : (ints l).map (fun r => r.map AV.dat) = ints l := by
  unfold ints
  rw [List.map_map]
  rfl
theorem hcallR {K vars M V : Nat} {first : Bool} {lav : AV} {o1 : List Ob} {l : List Int} (hl0 : 0 < l.length) (hll : l.length ≤ 1000000) (hK : K < o1.length) (hok : ∀ L, L = lav ∨ L = lav.dat → okO (o1.set K (.cells 13 [rowB vars M V first L])) = true) :
    ∀ (o7 : Oper) (t : Nat → AV) (L : AV), o7.op = .call ⟨.value (.func 81), #[.tmp 41], #[29]⟩ → o7.dst = some 42 → t 41 = .ref o1.length 0 l.length → L = lav ∨ L = lav.dat →
      OpW Try.prog 152 o7 ⟨t, (o1 ++ [Ob.cells 1 (ints l)]).set K (.cells 13 [rowB vars M V first L])⟩ fun s' =>
      (∀ k ≠ 42, ∀ v, stab v → t k = v → s'.t k = v) ∧ s'.t 42 = .sl 1 (ints (Lib.compact l)) ∧ s'.o = (o1 ++ [Ob.frz 1 (ints (Lib.compact l ++ List.replicate (l.length - (Lib.compact l).length) 0))]).set K (.cells 13 [rowB vars M V first L]) := by
  intro o7 t L h1 h2 h3 h4
  have hcl := compact_len l
  have hokL := hok L h4
  have hset : ∀ X : Ob, (o1 ++ [X]).set K (.cells 13 [rowB vars M V first L]) = o1.set K (.cells 13 [rowB vars M V first L]) ++ [X] := fun X => by
    rw [List.set_append_left _ _ hK]
  rw [hset, hset]
  generalize ho2 : o1.set K (.cells 13 [rowB vars M V first L]) = o2 at hokL
  have hlen2 : o2.length = o1.length := by rw [← ho2, List.length_set]
  rw [← hlen2] at h3
  have ho : (o2 ++ [Ob.cells 1 (ints l)])[o2.length]? = some (.cells 1 (ints l)) := by simp
  refine OpW.frz (K := fun s' => s' = ⟨upd t 42 (.ref o2.length 0 (Lib.compact l).length), o2 ++ [.cells 1 (ints (Lib.compact l ++ List.replicate (l.length - (Lib.compact l).length) 0))]⟩) (call7 h1 h2 (compact_spec ho hl0 (by omega)) ?_ h3 rfl rfl (okO_app hokL (by rw [List.all_cons, List.all_nil, Bool.and_true]; exact ints_ltk _ _)) (by simp [AV.ltk]) ?_) ?_
  · rintro r o' ⟨rfl, rfl⟩
    refine ⟨by simp, by simp [AV.ltk], ?_⟩
    rw [app_set]
    exact okO_app hokL (by rw [List.all_cons, List.all_nil, Bool.and_true]; exact ints_ltk _ _)
  · rintro r o' ⟨rfl, rfl⟩
    rw [app_set]
  · rintro s' rfl
    refine ⟨o2.length, 1, ints (Lib.compact l ++ List.replicate (l.length - (Lib.compact l).length) 0), by simp, ?_, ?_⟩
    · simp [ints, AV.dat, AV.ltk, AV.plain]
    · rw [frS_last hokL (ints_dat _)]
      refine ⟨fun k hk v hs hv => ?_, ?_, rfl⟩
      · simp only [upd, if_neg hk]
        rw [hv]
        exact hs _ _ _
      · simp only [upd, if_true, AV.unref]
        rw [if_pos ⟨by first | trivial | rfl, by rw [ints_len]; simp⟩]
        congr 1
        simp [ints]
end Go.AW
/-
The search for models begins: the clauses are taken over.
-/
namespace Go.AW
open Go Go.Proofs TyTry Go.IntWalk
set_option linter.unusedSimpArgs false
set_option linter.unusedVariables false
set_option maxRecDepth 10000
set_option maxHeartbeats 1000000

def lavL (L : List (List Int)) : AV := if L = [] then .nsl else .own 1 (tups L)
theorem lavL_or (L : List (List Int)) : lavL L = .nsl ∧ tups L = [] ∨ lavL L = .own 1 (tups L) := by
  unfold lavL
  split
  · rename_i h; subst h; exact .inl ⟨rfl, rfl⟩
  · exact .inr rfl
structure W1 (n0 vars : Nat) (first : Bool) (cls L : List (List Int)) (o : List Ob) : Prop where
  ok : okO o = true
  b : o[n0]? = some (.cells 2 [[.i .i64 vars, .sl 1 (tups cls)]])
  m : o[n0 + 1]? = some (.mapo [])
  v : o[n0 + 2]? = some (.cells 1 (ints (List.replicate vars 0)))
  k : o[n0 + 3]? = some (.cells 13 [rowB vars (n0 + 1) (n0 + 2) first (lavL L)])
theorem tups_dat (L : List (List Int)) : ((tups L).all fun r => r.all fun c => !c.isOwn && c.ltk 0 && c.plain) = true := by
  rw [List.all_eq_true]
  intro r hr
  simp only [tups, List.mem_map] at hr
  obtain ⟨l, _, rfl⟩ := hr
  rfl
theorem tups_app (L : List (List Int)) (x : List Int) : tups (L ++ [x]) = tups L ++ [[.sl 1 (ints x)]] := by simp [tups]
theorem rowB_ltk {n vars M V : Nat} {first : Bool} {lav : AV} (h1 : M < n) (h2 : V < n) (h3 : lav.ltk n = true) : Ob.ltk n (.cells 13 [rowB vars M V first lav]) = true := by
  simp [Ob.ltk, rowB, AV.ltk, h1, h2, h3]
theorem W1.next {n0 vars : Nat} {first : Bool} {cls L : List (List Int)} {o : List Ob} (h : W1 n0 vars first cls L o) {x : List Int} (Y : List Ob) (hY : okO (o ++ Y) = true) :
    W1 n0 vars first cls (L ++ [x]) ((o ++ Y).set (n0 + 3) (.cells 13 [rowB vars (n0 + 1) (n0 + 2) first (.own 1 (tups L ++ [[.sl 1 (ints x)]]))])) := by
  have g : ∀ {j : Nat} {X : Ob}, o[j]? = some X → (o ++ Y)[j]? = some X := fun hj => app_get _ hj
  have hs : ∀ (X : Ob) (j : Nat), ((o ++ Y).set (n0 + 3) X)[j]? = if j = n0 + 3 then some X else (o ++ Y)[j]? := fun X j => set_get (g h.k)
  have lk := (List.getElem?_eq_some_iff.1 (g h.k)).1
  refine ⟨okO_set hY ?_, by rw [hs, if_neg (by omega)]; exact g h.b, by rw [hs, if_neg (by omega)]; exact g h.m, by rw [hs, if_neg (by omega)]; exact g h.v, ?_⟩
  · refine rowB_ltk (by omega) (by omega) ?_
    rfl
  · rw [hs, if_pos rfl, ← tups_app]
    simp [lavL]
theorem set_same {o : List Ob} {i : Nat} {X : Ob} (h : o[i]? = some X) : o.set i X = o := by
  apply List.ext_getElem?
  intro j
  rw [set_get h]
  by_cases e : j = i
  · rw [if_pos e, e, h]
  · rw [if_neg e]
def outB (n0 : Nat) (cls : List (List Int)) : List (Nat × AV) := [(2, .ptr n0 0 0), (6, .ptr (n0 + 3) 0 0), (25, .sl 1 (tups cls)), (26, .i .i64 cls.length)]
/-- A block of a function's code. -/
def blkAt (k : Nat) : Code → Option Code
  | .seq a b => match blkAt k a with | some x => some x | none => blkAt k b
  | .cond _ a b => match blkAt k a with | some x => some x | none => blkAt k b
  | .block i a => if i = k then some a else blkAt k a
  | .loop a => blkAt k a
  | _ => none
theorem loop1 {c : Code} (hc : blkAt 0 (Try.f64.body.getD .skip) = some c) {Q : Exit → St → Prop} {n0 vars : Nat} {cls : List (List Int)} {first : Bool} (hv : vars ≤ 20000) (hcl : cls.length ≤ 20000) (hll : ∀ l ∈ cls, l.length ≤ 200000)
    {t0 : Nat → AV} {o0 : List Ob} (w1 : W1 n0 vars first cls [] o0) (h27 : t0 27 = .i .i64 0) (ht : ∀ x ∈ outB n0 cls, t0 x.1 = x.2)
    (hend : ∀ t o, W1 n0 vars first cls (cls.map cln) o → Q (.exit 0) ⟨mix 28 49 [8, 9, 27] t (tab (outB n0 cls)), o⟩) : W Try.prog 152 c Q ⟨t0, o0⟩ := by
  simp only [Try.f64, Option.getD_some, blkAt, Nat.reduceEqDiff, reduceIte, Option.some.injEq] at hc
  subst hc
  refine W_weak (s' := ⟨mix 28 49 [8, 9, 27] (tab [(27, .i .i64 0)]) (tab (outB n0 cls)), o0⟩) (tab_mix (fun y hy => ?_) ht) rfl ?_
  · simp only [List.mem_cons, List.not_mem_nil, or_false] at hy
    subst hy; exact h27
  repeat (first | refine nav ?_ | refine bo ?_)
  refine W_forM 28 49 [8, 9, 27] (fun m t o => ∃ i : Nat, W1 n0 vars first cls ((cls.take i).map cln) o ∧ t 27 = .i .i64 i ∧ m = cls.length - i ∧ i ≤ cls.length) cls.length ⟨0, by rw [List.take_zero]; exact w1, rfl, rfl, by omega⟩ ?_
  clear w1
  rintro m t o ⟨i, hw, h27, rfl, hi⟩
  repeat (first | refine nav ?_ | refine bo ?_)
  (refine wr fun K R hK hR => ?_; simp (maxSteps := 10000000) only [go_sem, h27, outB]; (try go_ints); (try simp only [go_sem, h27, outB]); (repeat refine And.intro side ?_); (first | refine hK _ ?_ | refine hR _ _ ?_); clear hK hR K R)
  repeat (first | refine nav ?_ | refine bo ?_)
  refine W_cond (by simp only [go_sem] <;> exact rfl) (fun hb => ?_) (fun hb => ?_)
  · have hb : i < cls.length := by simpa using hb
    obtain ⟨l, hl⟩ : ∃ l, cls[i]? = some l := ⟨_, List.getElem?_eq_getElem hb⟩
    have hlm := hll l (List.mem_of_getElem? hl)
    repeat (first | refine nav ?_ | refine bo ?_)
    (refine wr fun K R hK hR => ?_; simp (maxSteps := 10000000) only [go_sem, h27, tups_get hl]; (try go_ints); (try simp only [go_sem, h27, tups_get hl]); (repeat refine And.intro side ?_); (first | refine hK _ ?_ | refine hR _ _ ?_); clear hK hR K R)
    repeat (first | refine nav ?_ | refine bo ?_)
    have htk : (cls.take (i + 1)).map cln = (cls.take i).map cln ++ [cln l] := by
      rw [List.take_add_one, hl]; simp
    have hkl := (List.getElem?_eq_some_iff.1 hw.k).1
    have hbase : ∀ x ∈ [(2, AV.ptr n0 0 0), (25, .sl 1 (tups cls)), (26, .i .i64 cls.length), (27, .i .i64 i)], (x.1 < 35 ∨ 48 ≤ x.1) ∧ x.1 ≠ 9 ∧ stab x.2 := by
      intro x hx
      simp only [List.mem_cons, List.not_mem_nil, or_false] at hx
      rcases hx with rfl | rfl | rfl | rfl <;> exact ⟨by simp, by simp, fun _ _ _ => rfl⟩
    have hLl : (tups ((cls.take i).map cln)).length ≤ 1000000 := by rw [tups_len, List.length_map, List.length_take]; omega
    have hokL : ∀ (L : AV), L = lavL ((cls.take i).map cln) ∨ L = (lavL ((cls.take i).map cln)).dat → okO (o.set (n0 + 3) (.cells 13 [rowB vars (n0 + 1) (n0 + 2) first L])) = true := by
      intro L hL
      refine okO_set hw.ok (rowB_ltk (by omega) (by omega) ?_)
      rcases lavL_or ((cls.take i).map cln) with ⟨e, _⟩ | e <;> rw [e] at hL <;> rcases hL with rfl | rfl <;> rfl
    by_cases hl0 : l = []
    · subst hl0
      (refine wr fun K R hK hR => ?_; simp (maxSteps := 10000000) only [go_sem]; (try go_ints); (repeat refine And.intro side ?_); (first | refine hK _ ?_ | refine hR _ _ ?_); clear hK hR K R)
      refine RL_callF (clone0_spec) rfl rfl rfl (by first | (simp only [go_sem] <;> first | exact LeA.refl _ | exact Le.refl _) | exact LeA.refl _) rfl rfl ?_
      (refine rr fun K R hK hR => ?_; simp (maxSteps := 10000000) only [go_sem]; (try go_ints); (repeat refine And.intro side ?_); (first | refine hK _ ?_ | refine hR _ _ ?_); clear hK hR K R)
      repeat (first | refine nav ?_ | refine bo ?_)
      (refine wr fun K R hK hR => ?_; simp (maxSteps := 10000000) only [go_sem]; (try go_ints); (repeat refine And.intro side ?_); (first | refine hK _ ?_ | refine hR _ _ ?_); clear hK hR K R)
      refine RL_callF (sort0_spec) rfl rfl rfl (by first | (simp only [go_sem] <;> first | exact LeA.refl _ | exact Le.refl _) | exact LeA.refl _) rfl rfl ?_
      (refine rr fun K R hK hR => ?_; simp (maxSteps := 10000000) only [go_sem]; (try go_ints); (repeat refine And.intro side ?_); (first | refine hK _ ?_ | refine hR _ _ ?_); clear hK hR K R)
      repeat (first | refine nav ?_ | refine bo ?_)
      refine reg7 (by rfl) (K := n0 + 3) (M := n0 + 1) (V := n0 + 2) (vars := vars) (first := first) (base := [(2, .ptr n0 0 0), (25, .sl 1 (tups cls)), (26, .i .i64 cls.length), (27, .i .i64 i)]) (v9 := .sl 1 []) (cl := []) (oc := o) (oc' := o) hbase (lavL_or _) hLl (tups_dat _) rfl hkl hkl (.inl rfl) (hcall0 hokL) ?_ ?_
      · refine ⟨by simp, fun x hx => ?_, rfl, fun _ => rfl, fun h => by simp at h, fun h => by simp at h, fun h => by simp at h, fun h => by simp at h, fun h => by simp at h, fun h => by simp at h, fun h => by simp at h, fun h => by simp at h, fun h => by simp at h, fun h => by simp at h, fun h => by simp at h, fun h => by simp at h, fun h => by simp at h, ?_⟩
        · simp only [List.mem_cons, List.not_mem_nil, or_false] at hx
          rcases hx with rfl | rfl | rfl | rfl
          · rfl
          · rfl
          · rfl
          · simp only [go_sem, h27]
        · simp only [Bool.false_eq_true, if_false]
          exact (set_same hw.k).symm
      rintro s2 hI
      have hb2 := hI.b
      have hs2 : s2 = ⟨s2.t, s2.o⟩ := rfl
      repeat (first | refine nav ?_ | refine bo ?_)
      rw [hs2]
      refine W_weak (s' := ⟨mix 28 49 [8, 9, 27] (tab [(27, .i .i64 i)]) (tab (outB n0 cls)), _⟩) (tab_mix (fun y hy => ?_) (fun y hy => ?_)) rfl ?_
      · simp only [List.mem_cons, List.not_mem_nil, or_false] at hy
        subst hy; exact hb2 (27, _) (by simp [outB])
      · simp only [outB, List.mem_cons, List.not_mem_nil, or_false] at hy
        rcases hy with rfl | rfl | rfl | rfl
        · exact hb2 (2, _) (by simp [outB])
        · exact hI.f6
        · exact hb2 (25, _) (by simp [outB])
        · exact hb2 (26, _) (by simp [outB])
      (refine wr fun K R hK hR => ?_; simp (maxSteps := 10000000) only [go_sem]; (try go_ints); (repeat refine And.intro side ?_); (first | refine hK _ ?_ | refine hR _ _ ?_); clear hK hR K R)
      repeat (first | refine nav ?_ | refine bo ?_)
      refine forQ_normal (cls.length - (i + 1)) (by omega) ⟨i + 1, ?_, ?_, rfl, by omega⟩
      · have := hI.o
        simp only [if_true] at this
        rw [this, htk]
        rw [cln_nil]
        have := hw.next (x := []) [] (by rw [List.append_nil]; exact hw.ok)
        rw [List.append_nil] at this
        exact this
      · simp only [go_sem] <;> simp
    · have hlp : 0 < l.length := List.length_pos_iff.2 hl0
      have hkl2 : n0 + 3 < (o ++ [Ob.cells 1 (ints (sortI l))]).length := by rw [List.length_append]; omega
      have hcd : ((ints (cln l)).all fun r => r.all fun c => !c.isOwn && c.ltk 0 && c.plain) = true := by simp [ints, AV.isOwn, AV.ltk, AV.plain]
      have hokI : ∀ q : List Int, okO (o ++ [.cells 1 (ints q)]) = true := fun q => okO_app hw.ok (by rw [List.all_cons, List.all_nil, Bool.and_true]; exact ints_ltk _ _)
      (refine wr fun K R hK hR => ?_; simp (maxSteps := 10000000) only [go_sem]; (try go_ints); (repeat refine And.intro side ?_); (first | refine hK _ ?_ | refine hR _ _ ?_); clear hK hR K R)
      refine RL_callE (clone_spec hw.ok hlp (by omega)) (fun r o' ⟨e1, e2⟩ => by rw [e1, e2]; exact ⟨by simp, by simp [AV.ltk], hokI l⟩) (by simp only [go_sem] <;> exact rfl) rfl rfl (by simp) (by simp only [go_sem] <;> exact LeA.refl _) hw.ok (by simp [AV.ltk]) ?_
      rintro r o2 ⟨rfl, rfl⟩
      (refine rr fun K R hK hR => ?_; simp (maxSteps := 10000000) only [go_sem]; (try go_ints); (repeat refine And.intro side ?_); (first | refine hK _ ?_ | refine hR _ _ ?_); clear hK hR K R)
      repeat (first | refine nav ?_ | refine bo ?_)
      (refine wr fun K R hK hR => ?_; simp (maxSteps := 10000000) only [go_sem]; (try go_ints); (repeat refine And.intro side ?_); (first | refine hK _ ?_ | refine hR _ _ ?_); clear hK hR K R)
      refine RL_callE (sort_spec (l := l) (oc := o ++ [.cells 1 (ints l)]) (id := o.length) (by simp) hlp (by omega)) (fun r o' ⟨e1, e2⟩ => by rw [e1, e2, app_set]; exact ⟨by simp, by simp [AV.ltk, AV.ltks], hokI (sortI l)⟩) (by simp only [go_sem] <;> exact rfl) rfl rfl (by simp) (by simp only [go_sem] <;> exact LeA.refl _) (hokI l) (by simp [AV.ltk]) ?_
      rintro r o3 ⟨rfl, rfl⟩
      rw [app_set]
      (refine rr fun K R hK hR => ?_; simp (maxSteps := 10000000) only [go_sem]; (try go_ints); (repeat refine And.intro side ?_); (first | refine hK _ ?_ | refine hR _ _ ?_); clear hK hR K R)
      repeat (first | refine nav ?_ | refine bo ?_)
      rw [← sortI_len l]
      refine reg7 (by rfl) (K := n0 + 3) (M := n0 + 1) (V := n0 + 2) (vars := vars) (first := first) (base := [(2, .ptr n0 0 0), (25, .sl 1 (tups cls)), (26, .i .i64 cls.length), (27, .i .i64 i)]) (v9 := .ref o.length 0 (sortI l).length) (cl := ints (cln l)) (oc := o ++ [.cells 1 (ints (sortI l))]) (oc' := o ++ [.frz 1 (ints (Lib.compact (sortI l) ++ List.replicate ((sortI l).length - (Lib.compact (sortI l)).length) 0))]) hbase (lavL_or _) hLl (tups_dat _) hcd hkl2 (by simp; omega) (.inr ⟨_, _, rfl⟩) (hcallR (by rw [sortI_len]; exact hlp) (by rw [sortI_len]; omega) hkl hokL) ?_ ?_
      · refine ⟨by simp, fun x hx => ?_, rfl, fun _ => rfl, fun h => by simp at h, fun h => by simp at h, fun h => by simp at h, fun h => by simp at h, fun h => by simp at h, fun h => by simp at h, fun h => by simp at h, fun h => by simp at h, fun h => by simp at h, fun h => by simp at h, fun h => by simp at h, fun h => by simp at h, fun h => by simp at h, ?_⟩
        · simp only [List.mem_cons, List.not_mem_nil, or_false] at hx
          rcases hx with rfl | rfl | rfl | rfl
          · rfl
          · rfl
          · rfl
          · simp only [go_sem, h27]
        · simp only [Bool.false_eq_true, if_false]
          exact (set_same (app_get _ hw.k)).symm
      rintro s2 hI
      have hb2 := hI.b
      have hs2 : s2 = ⟨s2.t, s2.o⟩ := rfl
      repeat (first | refine nav ?_ | refine bo ?_)
      rw [hs2]
      refine W_weak (s' := ⟨mix 28 49 [8, 9, 27] (tab [(27, .i .i64 i)]) (tab (outB n0 cls)), _⟩) (tab_mix (fun y hy => ?_) (fun y hy => ?_)) rfl ?_
      · simp only [List.mem_cons, List.not_mem_nil, or_false] at hy
        subst hy; exact hb2 (27, _) (by simp [outB])
      · simp only [outB, List.mem_cons, List.not_mem_nil, or_false] at hy
        rcases hy with rfl | rfl | rfl | rfl
        · exact hb2 (2, _) (by simp [outB])
        · exact hI.f6
        · exact hb2 (25, _) (by simp [outB])
        · exact hb2 (26, _) (by simp [outB])
      (refine wr fun K R hK hR => ?_; simp (maxSteps := 10000000) only [go_sem]; (try go_ints); (repeat refine And.intro side ?_); (first | refine hK _ ?_ | refine hR _ _ ?_); clear hK hR K R)
      repeat (first | refine nav ?_ | refine bo ?_)
      refine forQ_normal (cls.length - (i + 1)) (by omega) ⟨i + 1, ?_, ?_, rfl, by omega⟩
      · have := hI.o
        simp only [if_true] at this
        rw [this, htk]
        exact hw.next (x := cln l) [.frz 1 (ints (Lib.compact (sortI l) ++ List.replicate ((sortI l).length - (Lib.compact (sortI l)).length) 0))] (okO_app hw.ok rfl)
      · simp only [go_sem] <;> simp
  · have hb : ¬ i < cls.length := by simpa using hb
    obtain rfl : i = cls.length := by omega
    rw [List.take_length] at hw
    repeat (first | refine nav ?_ | refine bo ?_)
    exact hend _ _ hw
end Go.AW
/-
The search for models begins: which clauses hold a number.
-/
namespace Go.AW
open Go Go.Proofs TyTry Go.IntWalk
set_option linter.unusedSimpArgs false
set_option linter.unusedVariables false
set_option maxRecDepth 10000
set_option maxHeartbeats 1000000

theorem innOf_take {list : List (List Int)} (x : Int) {i : Nat} (hi : i ≤ list.length) : innOf (list.take i) x = (List.range i).flatMap fun k => List.replicate ((list.getD k []).count x) (k : Int) := by
  unfold innOf
  rw [List.length_take, Nat.min_eq_left hi, List.flatMap_def, List.flatMap_def]
  congr 1
  refine List.map_congr_left fun k hk => ?_
  have hk := List.mem_range.1 hk
  rw [List.getD_eq_getElem?_getD, List.getD_eq_getElem?_getD, List.getElem?_take_of_lt hk]
theorem innOf_succ {list : List (List Int)} (x : Int) {i : Nat} (hi : i < list.length) : innOf (list.take (i + 1)) x = innOf (list.take i) x ++ List.replicate ((list.getD i []).count x) (i : Int) := by
  rw [innOf_take x (by omega), innOf_take x (by omega), List.range_succ, List.flatMap_append]
  simp
theorem innOf_mono {list : List (List Int)} (x : Int) : ∀ (k i : Nat), i + k ≤ list.length → (innOf (list.take i) x).length ≤ (innOf (list.take (i + k)) x).length
  | 0, i, _ => Nat.le_refl _
  | k + 1, i, h => by
    have := innOf_mono (list := list) x k i (by omega)
    rw [← Nat.add_assoc, innOf_succ x (i := i + k) (by omega), List.length_append]
    omega
def inP (list : List (List Int)) (i p : Nat) (x : Int) : List Int := innOf (list.take i) x ++ List.replicate (((list.getD i []).take p).count x) (i : Int)
def row2 (vars : Nat) (list : List (List Int)) (first : Bool) (n0 G : Nat) (lv : AV) : List AV := [.i .i64 vars, lavL list, .mp (n0 + 1), lv, .ref G 0 list.length, .i .i64 list.length, .ref (n0 + 2) 0 vars, .nsl, .i .i64 0, .b first, .nsl, .i .i64 0, .b false]
structure W2 (n0 vars : Nat) (first : Bool) (list : List (List Int)) (G : Nat) (lv : AV) (lft : List Int) (inn : Int → List Int) (es : List (AV × AV)) (o : List Ob) : Prop where
  ok : okO o = true
  k : o[n0 + 3]? = some (.cells 13 [row2 vars list first n0 G lv])
  m : o[n0 + 1]? = some (.mapo es)
  ai : AllI es
  l : lv = .nsl ∧ lft = [] ∨ ∃ Lf, lv = .ref Lf 0 lft.length ∧ o[Lf]? = some (.cells 1 (ints lft)) ∧ Lf ≠ G ∧ Lf ≠ n0 + 2
  g : o[G]? = some (.cells 1 (ints (List.replicate list.length 0)))
  v : o[n0 + 2]? = some (.cells 1 (ints (List.replicate vars 0)))
  gv : G ≠ n0 + 2
  inn : ∀ x : Int, (mfind (.i .i64 x) es = some none ∧ inn x = []) ∨ ∃ I, mfind (.i .i64 x) es = some (some (.ref I 0 (inn x).length)) ∧ o[I]? = some (.cells 1 (ints (inn x))) ∧ I ≠ G ∧ I ≠ n0 + 2 ∧ ∀ l, lv ≠ .ref I 0 l
  inj : ∀ (x y : Int) (I a b : Nat), mfind (.i .i64 x) es = some (some (.ref I 0 a)) → mfind (.i .i64 y) es = some (some (.ref I 0 b)) → x = y
theorem row2_ltk {n vars n0 G : Nat} {list : List (List Int)} {first : Bool} {lv : AV} (h1 : n0 + 3 < n) (h2 : G < n) (h3 : lv.ltk n = true) : Ob.ltk n (.cells 13 [row2 vars list first n0 G lv]) = true := by
  have : (lavL list).ltk n = true := by rcases lavL_or list with ⟨e, _⟩ | e <;> rw [e] <;> rfl
  simp [Ob.ltk, row2, AV.ltk, h2, h3, this]
  omega
theorem W2.left {n0 vars : Nat} {first : Bool} {list : List (List Int)} {G : Nat} {lv : AV} {lft : List Int} {inn : Int → List Int} {es : List (AV × AV)} {o : List Ob} (h : W2 n0 vars first list G lv lft inn es o) {o1 : List Ob} {T : Nat} {v : Int}
    (hlen : o.length ≤ o1.length) (hpre : ∀ j X, o[j]? = some X → (∀ l, lv ≠ .ref j 0 l) → o1[j]? = some X) (hok : okO o1 = true) (hT : o1[T]? = some (.cells 1 (ints (lft ++ [v])))) (hTl : o.length ≤ T) :
    W2 n0 vars first list G (.ref T 0 (lft.length + 1)) (lft ++ [v]) inn es (o1.set (n0 + 3) (.cells 13 [row2 vars list first n0 G (.ref T 0 (lft.length + 1))])) := by
  have lk := (List.getElem?_eq_some_iff.1 h.k).1
  have lg := (List.getElem?_eq_some_iff.1 h.g).1
  have lT := (List.getElem?_eq_some_iff.1 hT).1
  have nl : ∀ j X, o[j]? = some X → (∀ r, X ≠ .cells 1 r) → ∀ l, lv ≠ .ref j 0 l := by
    intro j X hj hX l e
    rcases h.l with ⟨q, _⟩ | ⟨Lf, q, q2, _⟩
    · rw [q] at e; cases e
    · rw [q] at e
      simp only [AV.ref.injEq] at e
      rw [e.1, hj] at q2
      exact hX _ (Option.some.inj q2)
  have ng : ∀ j, (j = G ∨ j = n0 + 2) → ∀ l, lv ≠ .ref j 0 l := by
    intro j hj l e
    rcases h.l with ⟨q, _⟩ | ⟨Lf, q, q2, q3, q4⟩
    · rw [q] at e; cases e
    · rw [q] at e
      simp only [AV.ref.injEq] at e
      rcases hj with rfl | rfl
      · exact q3 e.1
      · exact q4 e.1
  have kk := hpre _ _ h.k (nl _ _ h.k fun r => by simp)
  have hs : ∀ (X : Ob) (j : Nat), (o1.set (n0 + 3) X)[j]? = if j = n0 + 3 then some X else o1[j]? := fun X j => set_get kk
  refine ⟨okO_set hok (row2_ltk (by omega) (by omega) (by simp [AV.ltk, lT])), by rw [hs, if_pos rfl], by rw [hs, if_neg (by omega)]; exact hpre _ _ h.m (nl _ _ h.m fun r => by simp), h.ai, .inr ⟨T, by simp, by rw [hs, if_neg (by omega)]; exact hT, by omega, by omega⟩, ?_, by rw [hs, if_neg (by omega)]; exact hpre _ _ h.v (ng _ (.inr rfl)), h.gv, fun x => ?_, h.inj⟩
  · have : G ≠ n0 + 3 := by
      intro e; have := h.g; rw [e, h.k] at this; simp at this
    rw [hs, if_neg this]; exact hpre _ _ h.g (ng _ (.inl rfl))
  · refine (h.inn x).imp id fun ⟨I, q1, q2, q3, q4, q5⟩ => ⟨I, q1, ?_, q3, q4, fun l e => ?_⟩
    · have : I ≠ n0 + 3 := by
        intro e; rw [e, h.k] at q2; simp at q2
      rw [hs, if_neg this]; exact hpre _ _ q2 q5
    · simp only [AV.ref.injEq] at e
      have := (List.getElem?_eq_some_iff.1 q2).1
      omega
theorem W2.push {n0 vars : Nat} {first : Bool} {list : List (List Int)} {G : Nat} {lv : AV} {lft : List Int} {inn : Int → List Int} {es es' : List (AV × AV)} {o : List Ob} (h : W2 n0 vars first list G lv lft inn es o) {x : Int} {j : Nat} {oc2 : List Ob}
    (hset : mset (.i .i64 x) (.ref o.length 0 ((inn x).length + 1)) es = some es')
    (h2 : (mfind (.i .i64 x) es = some none ∧ oc2 = o ++ [.cells 1 [[.i .i64 j]]]) ∨ ∃ I n, mfind (.i .i64 x) es = some (some (.ref I 0 n)) ∧ oc2 = o.set I .dead ++ [.cells 1 (ints (inn x) ++ [[.i .i64 j]])]) :
    W2 n0 vars first list G lv lft (fun y => if y = x then inn x ++ [(j : Int)] else inn y) es' (oc2.set (n0 + 1) (.mapo es')) ∧ oc2[n0 + 1]? = some (.mapo es) ∧ oc2[n0 + 3]? = some (.cells 13 [row2 vars list first n0 G lv]) := by
  obtain ⟨es2, e1, e2, e3⟩ := mset_ok x (.ref o.length 0 ((inn x).length + 1)) es h.ai
  rw [hset] at e1
  obtain rfl := Option.some.inj e1
  have lk := (List.getElem?_eq_some_iff.1 h.k).1
  have lg := (List.getElem?_eq_some_iff.1 h.g).1
  have hoc : okO oc2 = true ∧ oc2.length = o.length + 1 ∧ oc2[o.length]? = some (.cells 1 (ints (inn x ++ [(j : Int)]))) ∧ ∀ (J : Nat) (X : Ob), o[J]? = some X → (∀ n, mfind (.i .i64 x) es ≠ some (some (.ref J 0 n))) → oc2[J]? = some X := by
    have hi : ints (inn x ++ [(j : Int)]) = ints (inn x) ++ [[.i .i64 j]] := by simp [ints]
    rcases h2 with ⟨f, rfl⟩ | ⟨I, n, f, rfl⟩
    · have hx : inn x = [] := by
        rcases h.inn x with ⟨_, q⟩ | ⟨I, q, _⟩
        · exact q
        · rw [f] at q; cases q
      rw [hx]
      exact ⟨okO_app h.ok (by simp [Ob.ltk, AV.ltk]), by simp, by simp [ints], fun J X hJ _ => app_get _ hJ⟩
    · rw [hi]
      refine ⟨okO_app (okO_set h.ok rfl) ?_, by simp, by rw [List.getElem?_append_right (by simp)]; simp, fun J X hJ hn => ?_⟩
      · rw [List.all_cons, List.all_nil, Bool.and_true, ← hi]
        exact ints_ltk _ _
      · have : I ≠ J := fun e => hn n (e ▸ f)
        refine app_get _ ?_
        rw [List.getElem?_set_ne this]
        exact hJ
  obtain ⟨o1, o2, o3, o4⟩ := hoc
  have nx : ∀ (J : Nat) (X : Ob), o[J]? = some X → (∀ r, X ≠ .cells 1 r) → ∀ n, mfind (.i .i64 x) es ≠ some (some (.ref J 0 n)) := by
    intro J X hJ hX n f
    rcases h.inn x with ⟨q, _⟩ | ⟨I, q, q2, _⟩
    · rw [q] at f; cases f
    · rw [q] at f
      simp only [Option.some.injEq, AV.ref.injEq] at f
      rw [f.1, hJ] at q2
      exact hX _ (Option.some.inj q2)
  have nj : ∀ J, (J = G ∨ J = n0 + 2 ∨ ∃ l, lv = .ref J 0 l) → ∀ n, mfind (.i .i64 x) es ≠ some (some (.ref J 0 n)) := by
    intro J hJ n f
    rcases h.inn x with ⟨q, _⟩ | ⟨I, q, q2, q3, q4, q5⟩
    · rw [q] at f; cases f
    · rw [q] at f
      simp only [Option.some.injEq, AV.ref.injEq] at f
      rcases hJ with rfl | rfl | ⟨l, q⟩
      · exact q3 f.1
      · exact q4 f.1
      · rw [← f.1] at q; exact q5 l q
  have km := o4 _ _ h.m (nx _ _ h.m fun r => by simp)
  have kk := o4 _ _ h.k (nx _ _ h.k fun r => by simp)
  refine ⟨?_, km, kk⟩
  have hs : ∀ (X : Ob) (j : Nat), (oc2.set (n0 + 1) X)[j]? = if j = n0 + 1 then some X else oc2[j]? := fun X j => set_get km
  have ne : ∀ {J : Nat} {r : List (List AV)}, o[J]? = some (.cells 1 r) → J ≠ n0 + 1 := by
    intro J r hJ e; rw [e, h.m] at hJ; simp at hJ
  have hlv : ∀ l, lv ≠ .ref o.length 0 l := by
    intro l e
    rcases h.l with ⟨q, _⟩ | ⟨Lf, q, q2, _⟩
    · rw [q] at e; cases e
    · rw [q] at e
      simp only [AV.ref.injEq] at e
      have := (List.getElem?_eq_some_iff.1 q2).1
      omega
  refine ⟨okO_set o1 ?_, by rw [hs, if_neg (by omega)]; exact kk, by rw [hs, if_pos rfl], h.ai.set e2, ?_, by rw [hs, if_neg (ne h.g)]; exact o4 _ _ h.g (nj _ (.inl rfl)), by rw [hs, if_neg (ne h.v)]; exact o4 _ _ h.v (nj _ (.inr (.inl rfl))), h.gv, fun y => ?_, ?_⟩
  · have hm : Ob.ltk o.length (.mapo es) = true := by
      have := h.ok
      unfold okO at this
      rw [List.all_eq_true] at this
      exact this _ (List.mem_of_getElem? h.m)
    simp only [Ob.ltk, List.all_eq_true, Bool.and_eq_true] at hm ⊢
    intro e he
    rcases e2 e he with q | q
    · exact ⟨ltk_mono (by omega) _ (hm e q).1, ltk_mono (by omega) _ (hm e q).2⟩
    · rw [q]; exact ⟨rfl, by simp [AV.ltk, o2]⟩
  · refine h.l.imp id fun ⟨Lf, q1, q2, q3, q4⟩ => ⟨Lf, q1, ?_, q3, q4⟩
    rw [hs, if_neg (ne q2)]
    exact o4 _ _ q2 (nj _ (.inr (.inr ⟨_, q1⟩)))
  · simp only [e3]
    by_cases hy : y = x
    · subst hy
      simp only [if_true]
      refine .inr ⟨o.length, by simp, ?_, by omega, by omega, hlv⟩
      rw [hs, if_neg (by omega)]; exact o3
    · simp only [if_neg hy]
      refine (h.inn y).imp id fun ⟨I, q1, q2, q3⟩ => ⟨I, q1, ?_, q3⟩
      rw [hs, if_neg (ne q2)]
      exact o4 _ _ q2 fun n f => hy (h.inj _ _ _ _ _ q1 f)
  · intro a b I p q ha hb
    rw [e3] at ha hb
    have lt : ∀ (z : Int) (n : Nat), mfind (.i .i64 z) es = some (some (.ref I 0 n)) → I < o.length := by
      intro z n hz
      rcases h.inn z with ⟨q, _⟩ | ⟨I', q, q2, _⟩
      · rw [q] at hz; cases hz
      · rw [q] at hz
        simp only [Option.some.injEq, AV.ref.injEq] at hz
        rw [← hz.1]
        exact (List.getElem?_eq_some_iff.1 q2).1
    split at ha <;> split at hb
    · rename_i r1 r2; rw [r1, r2]
    · simp only [Option.some.injEq, AV.ref.injEq] at ha
      have := lt _ _ hb; omega
    · simp only [Option.some.injEq, AV.ref.injEq] at hb
      have := lt _ _ ha; omega
    · exact h.inj _ _ _ _ _ ha hb
end Go.AW
/-
The search for models begins: the loop over a clause's numbers, the loop over the clauses.
-/
namespace Go.AW
open Go Go.Proofs TyTry Go.IntWalk
set_option linter.unusedSimpArgs false
set_option linter.unusedVariables false
set_option maxRecDepth 10000
set_option maxHeartbeats 1000000

def outD (n0 : Nat) (list : List (List Int)) (i : Nat) (l : List Int) : List (Nat × AV) := [(6, .ptr (n0 + 3) 0 0), (10, .i .i64 i), (72, .sl 1 (tups list)), (73, .i .i64 list.length), (74, .i .i64 i), (90, .sl 1 (ints l)), (91, .i .i64 l.length)]
theorem inP_zero (list : List (List Int)) (i : Nat) : inP list i 0 = innOf (list.take i) := by
  funext x
  simp [inP]
theorem inP_full {list : List (List Int)} {i : Nat} {l : List Int} (h : list[i]? = some l) : inP list i l.length = innOf (list.take (i + 1)) := by
  funext x
  have hlt := (List.getElem?_eq_some_iff.1 h).1
  have hg : list.getD i [] = l := getD_of2 h
  rw [innOf_succ x hlt, inP, hg, List.take_length]
theorem inP_succ {list : List (List Int)} {i p : Nat} {l : List Int} {x : Int} (h : list[i]? = some l) (hp : l[p]? = some x) : inP list i (p + 1) = fun y => if y = x then inP list i p x ++ [(i : Int)] else inP list i p y := by
  funext y
  have hg : list.getD i [] = l := getD_of2 h
  simp only [inP, hg]
  rw [List.take_add_one, hp]
  simp only [Option.toList_some, List.count_append]
  by_cases e : y = x
  · subst e
    simp only [if_true, List.count_cons_self, List.count_nil, Nat.zero_add, List.append_assoc]
    rw [List.replicate_succ']
  · rw [if_neg e]
    have : List.count y [x] = 0 := by simp [List.count_eq_zero, e]
    rw [this, Nat.add_zero]
theorem inP_le {list : List (List Int)} {i : Nat} (p : Nat) (x : Int) (hi : i < list.length) : (inP list i p x).length ≤ (innOf list x).length := by
  have h1 := innOf_mono (list := list) x (list.length - (i + 1)) (i + 1) (by omega)
  rw [show i + 1 + (list.length - (i + 1)) = list.length by omega, List.take_length, innOf_succ x hi, List.length_append, List.length_replicate] at h1
  have h2 : ((list.getD i []).take p).count x ≤ (list.getD i []).count x := (List.take_sublist p _).count_le x
  simp only [inP, List.length_append, List.length_replicate]
  omega
theorem loop4 {c : Code} (hc : blkAt 4 (Try.f64.body.getD .skip) = some c) {Q : Exit → St → Prop} {n0 vars : Nat} {first : Bool} {list : List (List Int)} {i : Nat} {l : List Int} {G : Nat} {lv : AV} {lft : List Int}
    (hl : list[i]? = some l) (hll : l.length ≤ 200000) (hln : list.length ≤ 20000) (hsum : ∀ x, (innOf list x).length ≤ 200000) (hlit : ∀ x ∈ l, LitOk vars x) (hvs : vars ≤ 20000)
    {es0 : List (AV × AV)} {t0 : Nat → AV} {o0 : List Ob} (w0 : W2 n0 vars first list G lv lft (innOf (list.take i)) es0 o0) (h92 : t0 92 = .i .i64 0) (ht : ∀ x ∈ outD n0 list i l, t0 x.1 = x.2)
    (hend : ∀ t o es, W2 n0 vars first list G lv lft (innOf (list.take (i + 1))) es o → Q (.exit 4) ⟨mix 93 111 [13, 92] t (tab (outD n0 list i l)), o⟩) : W Try.prog 152 c Q ⟨t0, o0⟩ := by
  simp only [Try.f64, Option.getD_some, blkAt, Nat.reduceEqDiff, reduceIte, Option.some.injEq] at hc
  subst hc
  have hlt := (List.getElem?_eq_some_iff.1 hl).1
  refine W_weak (s' := ⟨mix 93 111 [13, 92] (tab [(92, .i .i64 0)]) (tab (outD n0 list i l)), o0⟩) (tab_mix (fun y hy => ?_) ht) rfl ?_
  · simp only [List.mem_cons, List.not_mem_nil, or_false] at hy
    subst hy; exact h92
  repeat (first | refine nav ?_ | refine bo ?_)
  refine W_forM 93 111 [13, 92] (fun m t o => ∃ (p : Nat) (es : List (AV × AV)), W2 n0 vars first list G lv lft (inP list i p) es o ∧ t 92 = .i .i64 p ∧ m = l.length - p ∧ p ≤ l.length) l.length ⟨0, es0, by rw [inP_zero]; exact w0, rfl, rfl, by omega⟩ ?_
  rintro m t o ⟨p, es, hw, h92, rfl, hp⟩
  repeat (first | refine nav ?_ | refine bo ?_)
  (refine wr fun K R hK hR => ?_; simp (maxSteps := 10000000) only [go_sem, h92, outD]; (try go_ints); (try simp only [go_sem, h92, outD]); (repeat refine And.intro side ?_); (first | refine hK _ ?_ | refine hR _ _ ?_); clear hK hR K R)
  repeat (first | refine nav ?_ | refine bo ?_)
  refine W_cond (by simp only [go_sem] <;> exact rfl) (fun hb => ?_) (fun hb => ?_)
  · have hb : p < l.length := by simpa using hb
    obtain ⟨x, hx⟩ : ∃ x, l[p]? = some x := ⟨_, List.getElem?_eq_getElem hb⟩
    obtain ⟨x0, x1, x2⟩ := hlit x (List.mem_of_getElem? hx)
    have hle := inP_le p x hlt
    have hsx := hsum x
    repeat (first | refine nav ?_ | refine bo ?_)
    (refine wr fun K R hK hR => ?_; simp (maxSteps := 10000000) only [go_sem, h92, ints_get hx]; (try go_ints); (try simp only [go_sem, h92, ints_get hx]); (repeat refine And.intro side ?_); (first | refine hK _ ?_ | refine hR _ _ ?_); clear hK hR K R)
    repeat (first | refine nav ?_ | refine bo ?_)
    obtain ⟨es', hes', _, _⟩ := mset_ok x (.ref o.length 0 ((inP list i p x).length + 1)) es hw.ai
    obtain ⟨oc2, v0, hoc, hoc'⟩ : ∃ oc2 v0, (mfind (.i .i64 x) es = some none ∧ v0 = .nsl ∧ ints (inP list i p x) = [] ∧ oc2 = o ++ [Ob.cells 1 [[.i .i64 i]]] ∨
      ∃ I, mfind (.i .i64 x) es = some (some v0) ∧ v0 = .ref I 0 (inP list i p x).length ∧ o[I]? = some (.cells 1 (ints (inP list i p x))) ∧ oc2 = o.set I .dead ++ [Ob.cells 1 (ints (inP list i p x) ++ [[.i .i64 i]])]) ∧
      ((mfind (.i .i64 x) es = some none ∧ oc2 = o ++ [Ob.cells 1 [[.i .i64 i]]]) ∨ ∃ I n, mfind (.i .i64 x) es = some (some (.ref I 0 n)) ∧ oc2 = o.set I .dead ++ [Ob.cells 1 (ints (inP list i p x) ++ [[.i .i64 i]])]) := by
      rcases hw.inn x with ⟨q1, q2⟩ | ⟨I, q1, q2, _⟩
      · exact ⟨_, .nsl, .inl ⟨q1, rfl, by rw [q2]; rfl, rfl⟩, .inl ⟨q1, rfl⟩⟩
      · exact ⟨_, _, .inr ⟨I, q1, rfl, q2, rfl⟩, .inr ⟨I, _, q1, rfl⟩⟩
    obtain ⟨w3, k1, k2⟩ := hw.push hes' hoc'
    refine reg19 (by rfl) (K := n0 + 3) (M := n0 + 1) (x := x) (j := i) (n0 := (inP list i p x).length) (base := [(72, .sl 1 (tups list)), (73, .i .i64 list.length), (74, .i .i64 i), (90, .sl 1 (ints l)), (91, .i .i64 l.length), (92, .i .i64 p)]) (oc := o) (oc2 := oc2) (es := es) (es' := es') (r0 := ints (inP list i p x)) (a0 := .i .i64 vars) (a1 := lavL list) (a3 := lv) (a4 := .ref G 0 list.length) (a5 := .i .i64 list.length) (a6 := .ref (n0 + 2) 0 vars) (a7 := .nsl) (a8 := .i .i64 0) (a9 := .b first) (a10 := .nsl) (a11 := .i .i64 0) (a12 := .b false) ?_ hw.m k1 hoc (by rw [ints_len]) (by omega) (by simp [ints, AV.isOwn, AV.plain]) hes' ?_ ?_
    · intro x hx
      simp only [List.mem_cons, List.not_mem_nil, or_false] at hx
      rcases hx with rfl | rfl | rfl | rfl | rfl | rfl <;> exact ⟨by simp, by simp⟩
    · refine ⟨by simp, fun y hy => ?_, rfl, rfl, rfl, fun h => by simp at h, fun h => by simp at h, fun h => by simp at h, fun h => by simp at h, fun h => by simp at h, fun h => by simp at h, fun h => by simp at h, fun h => by simp at h, fun h => by simp at h, fun h => by simp at h, fun h => by simp at h, fun h => by simp at h, fun h => by simp at h, fun h => by simp at h, rfl, hw.k, k2⟩
      simp only [List.mem_cons, List.not_mem_nil, or_false] at hy
      rcases hy with rfl | rfl | rfl | rfl | rfl | rfl
      · rfl
      · rfl
      · rfl
      · rfl
      · rfl
      · simp only [go_sem, h92]
    · intro s2 hI
      have hb2 := hI.b
      have hs2 : s2 = ⟨s2.t, s2.o⟩ := rfl
      repeat (first | refine nav ?_ | refine bo ?_)
      rw [hs2]
      refine W_weak (s' := ⟨mix 93 111 [13, 92] (tab [(92, .i .i64 p)]) (tab (outD n0 list i l)), _⟩) (tab_mix (fun y hy => ?_) (fun y hy => ?_)) rfl ?_
      · simp only [List.mem_cons, List.not_mem_nil, or_false] at hy
        subst hy; exact hb2 (92, _) (by simp)
      · simp only [outD, List.mem_cons, List.not_mem_nil, or_false] at hy
        rcases hy with rfl | rfl | rfl | rfl | rfl | rfl | rfl
        · exact hI.f6
        · exact hI.fj
        · exact hb2 (72, _) (by simp)
        · exact hb2 (73, _) (by simp)
        · exact hb2 (74, _) (by simp)
        · exact hb2 (90, _) (by simp)
        · exact hb2 (91, _) (by simp)
      (refine wr fun K R hK hR => ?_; simp (maxSteps := 10000000) only [go_sem]; (try go_ints); (repeat refine And.intro side ?_); (first | refine hK _ ?_ | refine hR _ _ ?_); clear hK hR K R)
      repeat (first | refine nav ?_ | refine bo ?_)
      refine forQ_normal (l.length - (p + 1)) (by omega) ⟨p + 1, es', ?_, ?_, rfl, by omega⟩
      · have := hI.o
        simp only [if_true] at this
        rw [this, inP_succ hl hx]
        exact w3
      · simp only [go_sem] <;> simp
  · have hb : ¬ p < l.length := by simpa using hb
    obtain rfl : p = l.length := by omega
    rw [inP_full hl] at hw
    repeat (first | refine nav ?_ | refine bo ?_)
    exact hend _ _ _ hw
end Go.AW
/-
The search for models begins: the loop over the clauses.
-/
namespace Go.AW
open Go Go.Proofs TyTry Go.IntWalk
set_option linter.unusedSimpArgs false
set_option linter.unusedVariables false
set_option maxRecDepth 10000
set_option maxHeartbeats 1000000

def lensL (L : List (List Int)) : List Int := L.map fun l => (l.length : Int)
theorem lensL_len (L : List (List Int)) : (lensL L).length = L.length := by simp [lensL]
theorem lensL_app (L : List (List Int)) (l : List Int) : lensL (L ++ [l]) = lensL L ++ [(l.length : Int)] := by simp [lensL]
def outC (n0 : Nat) (list : List (List Int)) : List (Nat × AV) := [(6, .ptr (n0 + 3) 0 0), (72, .sl 1 (tups list)), (73, .i .i64 list.length)]
theorem loop2 {c : Code} (hc : blkAt 2 (Try.f64.body.getD .skip) = some c) {Q : Exit → St → Prop} {n0 vars : Nat} {first : Bool} {list : List (List Int)} {G : Nat}
    (hll : ∀ l ∈ list, l.length ≤ 200000) (hln : list.length ≤ 20000) (hsum : ∀ x, (innOf list x).length ≤ 200000) (hlit : ∀ l ∈ list, ∀ x ∈ l, LitOk vars x) (hvs : vars ≤ 20000)
    {t0 : Nat → AV} {o0 : List Ob} (w0 : W2 n0 vars first list G .nsl [] (fun _ => []) [] o0) (h74 : t0 74 = .i .i64 0) (ht : ∀ x ∈ outC n0 list, t0 x.1 = x.2)
    (hend : ∀ t o es lv, W2 n0 vars first list G lv (lensL list) (innOf list) es o → Q (.exit 2) ⟨mix 75 112 [10, 11, 13, 74] t (tab (outC n0 list)), o⟩) : W Try.prog 152 c Q ⟨t0, o0⟩ := by
  simp only [Try.f64, Option.getD_some, blkAt, Nat.reduceEqDiff, reduceIte, Option.some.injEq] at hc
  subst hc
  refine W_weak (s' := ⟨mix 75 112 [10, 11, 13, 74] (tab [(74, .i .i64 0)]) (tab (outC n0 list)), o0⟩) (tab_mix (fun y hy => ?_) ht) rfl ?_
  · simp only [List.mem_cons, List.not_mem_nil, or_false] at hy
    subst hy; exact h74
  repeat (first | refine nav ?_ | refine bo ?_)
  refine W_forM 75 112 [10, 11, 13, 74] (fun m t o => ∃ (i : Nat) (lv : AV) (es : List (AV × AV)), W2 n0 vars first list G lv (lensL (list.take i)) (innOf (list.take i)) es o ∧ t 74 = .i .i64 i ∧ m = list.length - i ∧ i ≤ list.length) list.length ⟨0, .nsl, [], by
    have e : innOf (list.take 0) = fun _ => [] := by funext x; simp [innOf]
    rw [e, List.take_zero]; exact w0, rfl, rfl, by omega⟩ ?_
  rintro m t o ⟨i, lv, es, hw, h74, rfl, hi⟩
  repeat (first | refine nav ?_ | refine bo ?_)
  (refine wr fun K R hK hR => ?_; simp (maxSteps := 10000000) only [go_sem, h74, outC]; (try go_ints); (try simp only [go_sem, h74, outC]); (repeat refine And.intro side ?_); (first | refine hK _ ?_ | refine hR _ _ ?_); clear hK hR K R)
  repeat (first | refine nav ?_ | refine bo ?_)
  refine W_cond (by simp only [go_sem] <;> exact rfl) (fun hb => ?_) (fun hb => ?_)
  · have hb : i < list.length := by simpa using hb
    obtain ⟨l, hl⟩ : ∃ l, list[i]? = some l := ⟨_, List.getElem?_eq_getElem hb⟩
    have hlm := hll l (List.mem_of_getElem? hl)
    have hok := hw.ok
    have hkl := (List.getElem?_eq_some_iff.1 hw.k).1
    have htk : lensL (list.take (i + 1)) = lensL (list.take i) ++ [(l.length : Int)] := by
      rw [List.take_add_one, hl, Option.toList_some, lensL_app]
    have hle : (lensL (list.take i)).length = i := by rw [lensL_len, List.length_take]; omega
    repeat (first | refine nav ?_ | refine bo ?_)
    (refine wr fun K R hK hR => ?_; simp (maxSteps := 10000000) only [go_sem, h74, tups_get hl]; (try go_ints); (try simp only [go_sem, h74, tups_get hl]); (repeat refine And.intro side ?_); (first | refine hK _ ?_ | refine hR _ _ ?_); clear hK hR K R)
    repeat (first | refine nav ?_ | refine bo ?_)
    refine seqQ_normal ?_
    refine W_joinS 79 90 [] (fun t o' => ∃ lv', W2 n0 vars first list G lv' (lensL (list.take (i + 1))) (innOf (list.take i)) es o') ?_ ?_
    · rcases hw.l with ⟨rfl, hlf⟩ | ⟨Lf, rfl, hT, hg1, hg2⟩
      · have hk1 := fun l => app_get l hw.k
        have hro : rowsOk false [[AV.i .i64 l.length]] = true := rfl
        simp only [row2] at hk1
        (refine W_reg [1000000] fun K R hK hR => ?_; simp (maxSteps := 10000000) only [go_sem, hw.k, row2, hro, hk1]; (try go_ints); (try simp only [go_sem, hw.k, row2, hro, hk1]); (repeat refine And.intro side ?_); (first | refine hK _ ?_ | refine hR _ _ ?_); clear hK hR K R)
        refine ⟨_, rfl, .ref (o.length + 1) 0 1, ?_⟩
        have hR := hw.left (o1 := o ++ [Ob.cells 1 [[AV.i .i64 l.length]], Ob.cells 1 [[AV.i .i64 l.length]]]) (T := o.length + 1) (v := l.length) (by simp) (fun j X hj _ => app_get _ hj) (okO_app hok (by simp [Ob.ltk, AV.ltk])) (by rw [hlf]; simp [ints]) (by omega)
        rw [htk]
        rw [hlf] at hR ⊢
        exact hR
      · have hTl := (List.getElem?_eq_some_iff.1 hT).1
        have hk1 := fun l => app_get l hw.k
        have hT1 := fun l => app_get l hT
        have hTK : Lf ≠ n0 + 3 := by intro e; rw [e, hw.k] at hT; simp at hT
        have hk2 : ∀ X Y : List Ob, ((o ++ X).set Lf .dead ++ Y)[n0 + 3]? = _ := fun X Y => app_get Y (by rw [List.getElem?_set_ne hTK]; exact hk1 X)
        have hro : rowsOk false [[AV.i .i64 l.length]] = true := rfl
        simp only [row2] at hk1 hk2 hT1
        rw [hle] at hk1 hk2
        refine W_reg [1000000] fun K R hK hR => ?_
        simp (maxSteps := 10000000) only [go_sem, hw.k, row2, hT1, hro, hk1, hk2, hle]
        refine ⟨by simp [ints]; omega, hK _ ?_⟩
        clear hK hR K R
        have htk2 : List.take i (ints (lensL (list.take i))) = ints (lensL (list.take i)) := List.take_of_length_le (by rw [ints_len, hle]; exact Nat.le_refl _)
        have hix : ints (lensL (list.take i)) ++ [[AV.i .i64 l.length]] = ints (lensL (list.take i) ++ [(l.length : Int)]) := by simp [ints]
        rw [htk2, hix]
        refine ⟨_, rfl, .ref (o.length + 1) 0 (i + 1), ?_⟩
        have hR := hw.left (o1 := (o ++ [Ob.cells 1 [[AV.i .i64 l.length]]]).set Lf .dead ++ [Ob.cells 1 (ints (lensL (list.take i) ++ [(l.length : Int)]))]) (T := o.length + 1) (v := l.length) (by simp; omega) (fun j X hj hn => app_get _ (by rw [List.getElem?_set_ne (fun e => hn _ (by rw [e]))]; exact app_get _ hj)) (okO_app (okO_set (okO_app hok rfl) rfl) (by simp [Ob.ltk, AV.ltk, ints])) (by simp) (by omega)
        rw [htk]
        rw [hle] at hR
        exact hR
    rintro t2 o2 ⟨lv2, hw2⟩
    repeat (first | refine nav ?_ | refine bo ?_)
    (refine wr fun K R hK hR => ?_; simp (maxSteps := 10000000) only [go_sem]; (try go_ints); (repeat refine And.intro side ?_); (first | refine hK _ ?_ | refine hR _ _ ?_); clear hK hR K R)
    repeat (first | refine nav ?_ | refine bo ?_)
    refine seqQ_normal ?_
    refine loop4 (by rfl) hl hlm hln hsum (hlit l (List.mem_of_getElem? hl)) hvs hw2 ?_ ?_ ?_
    · rfl
    · intro y hy
      simp only [outD, List.mem_cons, List.not_mem_nil, or_false] at hy
      rcases hy with rfl | rfl | rfl | rfl | rfl | rfl | rfl
      · rfl
      · rfl
      · rfl
      · rfl
      · simp only [go_sem, h74]
      · rfl
      · rfl
    · intro t3 o3 es3 hw3
      repeat (first | refine nav ?_ | refine bo ?_)
      refine W_weak (s' := ⟨mix 75 112 [10, 11, 13, 74] (tab [(74, .i .i64 i)]) (tab (outC n0 list)), o3⟩) (tab_mix (fun y hy => ?_) (fun y hy => ?_)) rfl ?_
      · simp only [List.mem_cons, List.not_mem_nil, or_false] at hy
        subst hy; rfl
      · simp only [outC, List.mem_cons, List.not_mem_nil, or_false] at hy
        rcases hy with rfl | rfl | rfl <;> rfl
      (refine wr fun K R hK hR => ?_; simp (maxSteps := 10000000) only [go_sem]; (try go_ints); (repeat refine And.intro side ?_); (first | refine hK _ ?_ | refine hR _ _ ?_); clear hK hR K R)
      repeat (first | refine nav ?_ | refine bo ?_)
      refine forQ_normal (list.length - (i + 1)) (by omega) ⟨i + 1, lv2, es3, hw3, ?_, rfl, by omega⟩
      simp only [go_sem] <;> simp
  · have hb : ¬ i < list.length := by simpa using hb
    obtain rfl : i = list.length := by omega
    rw [List.take_length] at hw
    repeat (first | refine nav ?_ | refine bo ?_)
    exact hend _ _ _ _ hw
end Go.AW
/-
The search for models begins: clauses with one number.
-/
namespace Go.AW
open Go Go.Proofs TyTry Go.IntWalk
set_option linter.unusedSimpArgs false
set_option linter.unusedVariables false
set_option maxRecDepth 10000
set_option maxHeartbeats 1000000

/-- A guarded call whose guard holds. -/
theorem RL_callEt {P : Program} {n : Nat} {gd : List (Option Nat)} {Q : Exit → St → Prop} {s : St} {d : Option Tmp} {x : Operand} {xs : List Operand} {ats : Array TypeId} {ty : TypeId} {pos : String} {aft : Array Edge} {rest : List Oper} {f : FuncId} {caps ac : List AV} {R : AV → List Ob → Prop} {j t : Nat} {want h0 b : Bool} (h : ACalls P f ac s.o R)
    (hj : gd.getD j none = some t) (hg : gv (s.t t) = some (h0, b)) (ht : (h0 && b == want) = true) (hlen : ∀ r o', R r o' → s.o.length ≤ o'.length ∧ r.ltk o'.length = true ∧ okO o' = true)
    (hx : ung true (opd s.t x) = .fn f caps) (hin : xs.all (opIn n) = true) (hd : dstOk n d = true) (hl : xs.length ≤ ac.length) (hle : LeA (argVals xs (ac.take xs.length) s.t ++ caps.map AV.dat) ac)
    (hoc : okO s.o = true) (hac : ac.all (AV.ltk s.o.length) = true) (hK : ∀ r o', R r o' → RL P n gd rest Q ((⟨argDrop xs (ac.take xs.length) s.t, o'⟩ : St).put d r)) :
    RL P n gd (⟨d, .call ⟨.value x, xs.toArray, ats⟩, ty, pos, aft, some (j, want)⟩ :: rest) Q s := by
  refine RL_gd rfl hj hg hd (fun _ => OpW_callE (R := R) rfl rfl hx h hlen hin hd (by simpa using hl) (by simpa using hle) hoc hac ?_) (fun e => by rw [ht] at e; cases e)
  simpa only [List.size_toArray] using hK
/-- A guarded operation whose guard fails. -/
theorem RL_skip {P : Program} {n : Nat} {gd : List (Option Nat)} {Q : Exit → St → Prop} {s : St} {o : Oper} {r : List Oper} {j t : Nat} {want h0 b : Bool} (hg : o.guard = some (j, want)) (hj : gd.getD j none = some t) (hx : gv (s.t t) = some (h0, b)) (ht : (h0 && b == want) = false) (hd : dstOk n o.dst = true)
    (h : RL P n gd r Q (s.put o.dst (.gd false .any))) : RL P n gd (o :: r) Q s :=
  RL_gd hg hj hx hd (fun e => by rw [ht] at e; cases e) (fun _ => ⟨.gd false .any, (gdF_undef _).1, (gdF_undef _).2, h⟩)
/-- Where ways meet, whatever follows. -/
theorem W_joinN {P : Program} {n : Nat} {Q : Exit → St → Prop} {x : Code} (lo hi : Nat) (L : List Nat) (I : (Nat → AV) → List Ob → Prop) {t0 : Nat → AV} {o0 : List Ob} (h : W P n x (joinQ lo hi L t0 I Q) ⟨mix lo hi L t0 t0, o0⟩)
    (h2 : ∀ t o, I t o → Q .normal ⟨mix lo hi L t t0, o⟩) : W P n x Q ⟨t0, o0⟩ := by
  rw [mix_self] at h
  refine h.mono ?_
  intro e s k
  cases e with
  | normal =>
    obtain ⟨t', h1, h3⟩ := k
    have := h2 t' s.o h3
    rw [← h1] at this
    exact this
  | _ => exact k

def outE (K : Nat) (list : List (List Int)) : List (Nat × AV) := [(6, .ptr K 0 0), (116, .sl 1 (tups list)), (117, .i .i64 list.length)]
structure U3 (K : Nat) (d : IdS) (c : Env) (i : Nat) (ok : Bool) (o : List Ob) : Prop where
  run : ∃ tr ta, RepG o K d c ta (canon c tr 0 .nsl 0 false) ∧ TrOk c.vars tr ∧ (ok = true → Quiet c.list tr ∧ ∀ a, satC c.list a = true → agr tr a = true)
  yes : ok = true → ∀ l ∈ c.list.take i, l ≠ []
  no : ok = false → ∀ a, satC c.list a = false
theorem satC_nil {list : List (List Int)} (h : [] ∈ list) (a : List Bool) : satC list a = false := by
  unfold satC
  rw [List.all_eq_false]
  exact ⟨[], h, by simp⟩
theorem sat_unit {list : List (List Int)} {x : Int} (h : [x] ∈ list) {a : List Bool} (hs : satC list a = true) : litB a x = true := by
  have := List.all_eq_true.1 hs _ h
  simpa using this
theorem loop3 {code : Code} (hcd : blkAt 6 (Try.f64.body.getD .skip) = some code) {Q : Exit → St → Prop} {K : Nat} {d : IdS} {c : Env} (hc : EnvOk c) {t0 : Nat → AV} {o0 : List Ob} (w0 : U3 K d c 0 true o0)
    (h14 : t0 14 = .b true) (h118 : t0 118 = .i .i64 0) (ht : ∀ x ∈ outE K c.list, t0 x.1 = x.2)
    (hend : ∀ t o ok, U3 K d c c.list.length ok o → t 14 = .b ok → o0.length ≤ o.length → Q (.exit 6) ⟨mix 119 150 [14, 15, 16, 118] t (tab (outE K c.list)), o⟩) : W Try.prog 152 code Q ⟨t0, o0⟩ := by
  simp only [Try.f64, Option.getD_some, blkAt, Nat.reduceEqDiff, reduceIte, Option.some.injEq] at hcd
  subst hcd
  refine W_weak (s' := ⟨mix 119 150 [14, 15, 16, 118] (tab [(14, .b true), (118, .i .i64 0)]) (tab (outE K c.list)), o0⟩) (tab_mix (fun y hy => ?_) ht) rfl ?_
  · simp only [List.mem_cons, List.not_mem_nil, or_false] at hy
    rcases hy with rfl | rfl
    · exact h14
    · exact h118
  repeat (first | refine nav ?_ | refine bo ?_)
  have hll := hc.list
  have hvs := hc.vars
  refine W_forM 119 150 [14, 15, 16, 118] (fun m t o => ∃ (i : Nat) (ok : Bool), U3 K d c i ok o ∧ t 14 = .b ok ∧ t 118 = .i .i64 i ∧ m = c.list.length - i ∧ i ≤ c.list.length ∧ o0.length ≤ o.length) c.list.length ⟨0, true, w0, rfl, rfl, rfl, by omega, Nat.le_refl _⟩ ?_
  clear w0
  rintro m t o ⟨i, ok, hu, h14, h118, rfl, hi, hlo⟩
  repeat (first | refine nav ?_ | refine bo ?_)
  (refine wr fun K R hK hR => ?_; simp (maxSteps := 10000000) only [go_sem, h118, outE]; (try go_ints); (try simp only [go_sem, h118, outE]); (repeat refine And.intro side ?_); (first | refine hK _ ?_ | refine hR _ _ ?_); clear hK hR K R)
  repeat (first | refine nav ?_ | refine bo ?_)
  refine W_cond (by simp only [go_sem] <;> exact rfl) (fun hb => ?_) (fun hb => ?_)
  · have hb : i < c.list.length := by simpa using hb
    obtain ⟨l, hl⟩ : ∃ l, c.list[i]? = some l := ⟨_, List.getElem?_eq_getElem hb⟩
    have hlm := hc.len l (List.mem_of_getElem? hl)
    have hgl : c.list.getD i [] = l := getD_of2 hl
    obtain ⟨tr, ta, hr, htr, hok⟩ := hu.run
    have htk : c.list.take (i + 1) = c.list.take i ++ [l] := by rw [List.take_add_one, hl]; rfl
    have lK := (List.getElem?_eq_some_iff.1 hr.k).1
    have lG := (List.getElem?_eq_some_iff.1 hr.g).1
    repeat (first | refine nav ?_ | refine bo ?_)
    (refine wr fun K R hK hR => ?_; simp (maxSteps := 10000000) only [go_sem, h118, tups_get hl]; (try go_ints); (try simp only [go_sem, h118, tups_get hl]); (repeat refine And.intro side ?_); (first | refine hK _ ?_ | refine hR _ _ ?_); clear hK hR K R)
    refine seqQ_normal ?_
    refine W_joinN 123 149 [14] (fun t o' => ∃ ok', U3 K d c (i + 1) ok' o' ∧ t 14 = .b ok' ∧ o0.length ≤ o'.length) ?_ ?_
    · repeat (first | refine nav ?_ | refine bo ?_)
      (refine wr fun K R hK hR => ?_; simp (maxSteps := 10000000) only [go_sem]; (try go_ints); (repeat refine And.intro side ?_); (first | refine hK _ ?_ | refine hR _ _ ?_); clear hK hR K R)
      repeat (first | refine nav ?_ | refine bo ?_)
      refine W_cond (by simp only [go_sem] <;> exact rfl) (fun hb => ?_) (fun hb => ?_)
      · have hb : l = [] := by simpa using hb
        subst hb
        repeat (first | refine nav ?_ | refine bo ?_)
        (refine wr fun K R hK hR => ?_; simp (maxSteps := 10000000) only [go_sem]; (try go_ints); (repeat refine And.intro side ?_); (first | refine hK _ ?_ | refine hR _ _ ?_); clear hK hR K R)
        refine ⟨_, rfl, false, ⟨⟨tr, ta, hr, htr, fun h => (by cases h)⟩, fun h => (by cases h), fun _ a => satC_nil (List.mem_of_getElem? hl) a⟩, rfl, hlo⟩
      · have hb : l ≠ [] := by simpa using hb
        have hne : ok = true → ∀ l ∈ c.list.take (i + 1), l ≠ [] := by
          intro h l' hl'
          rw [htk] at hl'
          rcases List.mem_append.1 hl' with q | q
          · exact hu.yes h l' q
          · rw [List.mem_singleton.1 q]; exact hb
        repeat (first | refine nav ?_ | refine bo ?_)
        by_cases h1 : l.length = 1
        · obtain ⟨x, hx1⟩ := List.length_eq_one_iff.1 h1
          have hq1 : ((l.length : Int) == 1) = true := by simp; omega
          have hx := hc.lit l (List.mem_of_getElem? hl) x (by rw [hx1]; simp)
          have hx0 : l[0]? = some x := by rw [hx1]; rfl
          have hgg := goodL_get (list := c.list) (tr := tr) (by omega : i < c.list.length)
          have hgb := good_bd hc tr i
          have hgl2 := goodL_len c.list tr
          (refine wr fun K R hK hR => ?_; simp (maxSteps := 10000000) only [go_sem, h118, hr.k, hr.g, rowK, canon, ints_get hgg, hq1]; (try go_ints); (try simp only [go_sem, h118, hr.k, hr.g, rowK, canon, ints_get hgg, hq1]); (repeat refine And.intro side ?_); (first | refine hK _ ?_ | refine hR _ _ ?_); clear hK hR K R)
          repeat (first | refine nav ?_ | refine bo ?_)
          refine W_cond (b := ((goodOf c.list tr i : Int) == 0)) (by simp only [go_sem]) (fun hg => ?_) (fun hg => ?_)
          · have hg : goodOf c.list tr i = 0 := by simp at hg; omega
            repeat (first | refine nav ?_ | refine bo ?_)
            cases ok with
            | false =>
              (refine wr fun K R hK hR => ?_; simp (maxSteps := 10000000) only [go_sem, h14]; (try go_ints); (try simp only [go_sem, h14]); (repeat refine And.intro side ?_); (first | refine hK _ ?_ | refine hR _ _ ?_); clear hK hR K R)
              refine RL_skip rfl rfl (by simp only [go_sem] <;> exact rfl) rfl rfl ?_
              (refine rr fun K R hK hR => ?_; simp (maxSteps := 10000000) only [go_sem]; (try go_ints); (repeat refine And.intro side ?_); (first | refine hK _ ?_ | refine hR _ _ ?_); clear hK hR K R)
              repeat (first | refine nav ?_ | refine bo ?_)
              exact ⟨_, rfl, false, ⟨⟨tr, ta, hr, htr, fun h => (by cases h)⟩, fun h => (by cases h), hu.no⟩, rfl, hlo⟩
            | true =>
              obtain ⟨hqt, hag⟩ := hok rfl
              (refine wr fun K R hK hR => ?_; simp (maxSteps := 10000000) only [go_sem, h14, ints_get hx0]; (try go_ints); (try simp only [go_sem, h14, ints_get hx0]); (repeat refine And.intro side ?_); (first | refine hK _ ?_ | refine hR _ _ ?_); clear hK hR K R)
              refine RL_callEt (set_spec hr hc htr hqt hx) rfl (by simp only [go_sem] <;> exact rfl) rfl (fun r o' ⟨b, tr', ta', e1, _, e2, e3⟩ => ⟨e3, by rw [e1]; rfl, e2.ok⟩) (by simp only [go_sem] <;> exact rfl) rfl rfl (by simp) (by simp only [go_sem] <;> exact LeA.refl _) hr.ok (by simp [AV.ltk]; omega) ?_
              rintro r o4 ⟨b, tr', ta', rfl, hsp, hr4, hl4⟩
              have hl4 : o.length ≤ o4.length := hl4
              have hlo4 : o0.length ≤ o4.length := Nat.le_trans hlo hl4
              have hxa : ∀ a, satC c.list a = true → litB a x = true := fun a ha => sat_unit (by rw [← hx1]; exact List.mem_of_getElem? hl) ha
              (refine rr fun K R hK hR => ?_; simp (maxSteps := 10000000) only [go_sem]; (try go_ints); (repeat refine And.intro side ?_); (first | refine hK _ ?_ | refine hR _ _ ?_); clear hK hR K R)
              repeat (first | refine nav ?_ | refine bo ?_)
              cases b with
              | false =>
                refine ⟨_, rfl, false, ⟨⟨tr', ta', hr4, hsp.ok, fun h => (by cases h)⟩, fun h => (by cases h), fun _ a => ?_⟩, rfl, hlo4⟩
                cases hs : satC c.list a with
                | false => rfl
                | true => exact (hsp.no rfl a hs (hag a hs) (hxa a hs)).elim
              | true =>
                obtain ⟨_, h2, h3⟩ := hsp.yes rfl
                exact ⟨_, rfl, true, ⟨⟨tr', ta', hr4, hsp.ok, fun _ => ⟨h2, fun a hs => h3 a hs (hag a hs) (hxa a hs)⟩⟩, hne, fun h => (by cases h)⟩, rfl, hlo4⟩
          · repeat (first | refine nav ?_ | refine bo ?_)
            exact ⟨_, rfl, ok, ⟨⟨tr, ta, hr, htr, hok⟩, hne, hu.no⟩, by simp only [go_sem, h14], hlo⟩
        · have h1' : ((l.length : Int) == 1) = false := by simp; omega
          have hgg := goodL_get (list := c.list) (tr := tr) (by omega : i < c.list.length)
          have hgb := good_bd hc tr i
          have hgl2 := goodL_len c.list tr
          (refine wr fun K R hK hR => ?_; simp (maxSteps := 10000000) only [go_sem, h118, hr.k, hr.g, rowK, canon, ints_get hgg, h1']; (try go_ints); (try simp only [go_sem, h118, hr.k, hr.g, rowK, canon, ints_get hgg, h1']); (repeat refine And.intro side ?_); (first | refine hK _ ?_ | refine hR _ _ ?_); clear hK hR K R)
          repeat (first | refine nav ?_ | refine bo ?_)
          refine W_cond (b := false) (by simp only [go_sem]) (fun hg => by cases hg) (fun _ => ?_)
          repeat (first | refine nav ?_ | refine bo ?_)
          exact ⟨_, rfl, ok, ⟨⟨tr, ta, hr, htr, hok⟩, hne, hu.no⟩, by simp only [go_sem, h14], hlo⟩
    rintro t2 o2 ⟨ok', hu2, h14', hlo2⟩
    repeat (first | refine nav ?_ | refine bo ?_)
    refine W_weak (s' := ⟨mix 119 150 [14, 15, 16, 118] (tab [(14, .b ok'), (118, .i .i64 i)]) (tab (outE K c.list)), o2⟩) (tab_mix (fun y hy => ?_) (fun y hy => ?_)) rfl ?_
    · simp only [List.mem_cons, List.not_mem_nil, or_false] at hy
      rcases hy with rfl | rfl
      · simp only [go_sem, h14']
      · simp only [go_sem, h118]
    · simp only [outE, List.mem_cons, List.not_mem_nil, or_false] at hy
      rcases hy with rfl | rfl | rfl <;> rfl
    (refine wr fun K R hK hR => ?_; simp (maxSteps := 10000000) only [go_sem]; (try go_ints); (repeat refine And.intro side ?_); (first | refine hK _ ?_ | refine hR _ _ ?_); clear hK hR K R)
    repeat (first | refine nav ?_ | refine bo ?_)
    refine forQ_normal (c.list.length - (i + 1)) (by omega) ⟨i + 1, ok', hu2, ?_, ?_, rfl, by omega, hlo2⟩
    · simp only [go_sem] <;> simp
    · simp only [go_sem] <;> simp
  · have hb : ¬ i < c.list.length := by simpa using hb
    obtain rfl : i = c.list.length := by omega
    repeat (first | refine nav ?_ | refine bo ?_)
    exact hend _ _ _ hu h14 hlo
end Go.AW
/-
The search for models begins: the whole.
-/
namespace Go.AW
open Go Go.Proofs TyTry Go.IntWalk
set_option linter.unusedSimpArgs false
set_option linter.unusedVariables false
set_option maxRecDepth 10000
set_option maxHeartbeats 1000000

theorem leftL_nil (list : List (List Int)) : leftL list [] = lensL list := by
  apply List.ext_getElem?
  intro i
  by_cases h : i < list.length
  · rw [leftL_get h]
    have e : ∀ l : List Int, (l.filter fun y => !([].contains (-y))) = l := fun l => by simp
    simp only [leftOf, e]
    simp [lensL, h]
  · rw [List.getElem?_eq_none (by rw [leftL_len]; omega), List.getElem?_eq_none (by rw [lensL_len]; omega)]
theorem goodL_nil (list : List (List Int)) : goodL list [] = List.replicate list.length 0 := by
  apply List.ext_getElem?
  intro i
  by_cases h : i < list.length
  · rw [goodL_get h]
    simp [goodOf, h]
  · rw [List.getElem?_eq_none (by rw [goodL_len]; omega), List.getElem?_eq_none (by simp; omega)]
theorem valL_nil (n : Nat) : valL n [] = List.replicate n 0 := by
  apply List.ext_getElem?
  intro i
  by_cases h : i < n
  · rw [valL_get h]
    simp [valOf, h]
  · rw [List.getElem?_eq_none (by rw [valL_len]; omega), List.getElem?_eq_none (by simp; omega)]
theorem zeros_rep (n : Nat) : zeros (List.replicate n 0) = n := by simp [zeros]
theorem TrOk_nil (n : Nat) : TrOk n [] := ⟨by simp, by simp, by simp⟩
theorem Quiet_nil (list : List (List Int)) : Quiet list [] := by
  intro i hi hne _
  have e : ∀ l : List Int, (l.filter fun y => !([].contains (-y))) = l := fun l => by simp
  simp only [leftOf, e]
  exact fun h => hne (List.eq_nil_of_length_eq_zero h)
def envB (vars : Nat) (list : List (List Int)) (first : Bool) (es : List (AV × AV)) : Env := ⟨vars, list, first, es, lavL list⟩
theorem W2.rep {n0 vars : Nat} {first : Bool} {list : List (List Int)} {G L : Nat} {es : List (AV × AV)} {o : List Ob} (h : W2 n0 vars first list G (.ref L 0 list.length) (lensL list) (innOf list) es o) :
    RepG o (n0 + 3) ⟨n0 + 1, L, G, n0 + 2⟩ (envB vars list first es) .nsl (canon (envB vars list first es) [] 0 .nsl 0 false) := by
  rcases h.l with ⟨q, _⟩ | ⟨Lf, q, q2, q3, q4⟩
  · cases q
  simp only [AV.ref.injEq] at q
  obtain ⟨rfl, _, _⟩ := q
  refine ⟨h.ok, ?_, h.m, ?_, ?_, ?_, .inl q3, q4, h.gv, leftL_len _ _, goodL_len _ _, valL_len _ _, .inl ⟨rfl, rfl⟩, fun x => ?_, rfl, rfl, rfl⟩
  · rw [h.k]
    simp [row2, rowK, envB, canon, goodL_nil, zeros_rep]
  · simp only [canon, envB, leftL_nil]; exact q2
  · simp only [canon, envB, goodL_nil]; exact h.g
  · simp only [canon, envB, valL_nil]; exact h.v
  · refine (h.inn x).imp id fun ⟨I, r1, r2, r3, r4, r5⟩ => ⟨I, r1, r2, fun e => r5 list.length (by rw [e]), r3, r4, fun T l e => by cases e⟩
theorem tab_le2 {t : Nat → AV} {l : List (Nat × AV)} (h : ∀ x ∈ l, Le (t x.1) x.2) (k : Nat) : Le (t k) (tab l k) := by
  unfold tab
  cases hf : l.find? (fun x => x.1 == k) with
  | none => exact Le.any _
  | some x =>
    have h1 := List.find?_some hf
    have h2 := List.mem_of_find?_eq_some hf
    simp only [beq_iff_eq] at h1
    rw [← h1]
    exact h x h2
/-- What the loops have made is a search. -/
theorem W2.fin {P : Program} {n n0 vars : Nat} {first : Bool} {list : List (List Int)} {G : Nat} {lv : AV} {es : List (AV × AV)} {o : List Ob} (h : W2 n0 vars first list G lv (lensL list) (innOf list) es o) {code : Code} {Q : Exit → St → Prop} {t : Nat → AV}
    (hk : ∀ d o', RepG o' (n0 + 3) d (envB vars list first es) .nsl (canon (envB vars list first es) [] 0 .nsl 0 false) → o.length ≤ o'.length → W P n code Q ⟨t, o'⟩) : W P n code Q ⟨t, o⟩ := by
  have lG := (List.getElem?_eq_some_iff.1 h.g).1
  have lK := (List.getElem?_eq_some_iff.1 h.k).1
  rcases h.l with ⟨rfl, hl⟩ | ⟨Lf, rfl, _⟩
  · have hl0 : list = [] := by
      have := congrArg List.length hl
      rw [lensL_len] at this
      exact List.eq_nil_of_length_eq_zero this
    subst hl0
    refine W_nil0 (n0 + 3) G 3 h.k lG rfl (by simp [row2, lavL, AV.isOwn]) (hk ⟨n0 + 1, G, G, n0 + 2⟩ _ ?_ (by simp))
    have hs : ∀ (X : Ob) (j : Nat), (o.set (n0 + 3) X)[j]? = if j = n0 + 3 then some X else o[j]? := fun X j => set_get h.k
    have hGK : G ≠ n0 + 3 := by intro e; have := h.g; rw [e, h.k] at this; simp at this
    refine ⟨okO_set h.ok (row2_ltk (lv := .ref G 0 0) lK lG (by simp [AV.ltk, lG])), ?_, ?_, ?_, ?_, ?_, .inr rfl, h.gv, h.gv, leftL_len _ _, goodL_len _ _, valL_len _ _, .inl ⟨rfl, rfl⟩, fun x => ?_, rfl, rfl, rfl⟩
    · rw [hs, if_pos rfl]
      simp [row2, rowK, envB, canon, goodL, zeros, lavL]
    · rw [hs, if_neg (by simp)]; exact h.m
    · rw [hs, if_neg hGK]; exact h.g
    · rw [hs, if_neg hGK]; exact h.g
    · rw [hs, if_neg (by simp)]
      simp only [canon, envB, valL_nil]; exact h.v
    · refine (h.inn x).imp id fun ⟨I, r1, r2, r3, r4, r5⟩ => ⟨I, r1, ?_, r3, r3, r4, fun T l e => by cases e⟩
      have : I ≠ n0 + 3 := by intro e; rw [e, h.k] at r2; simp at r2
      rw [hs, if_neg this]; exact r2
  · rw [lensL_len] at h
    exact hk _ o h.rep (Nat.le_refl _)
theorem begin_spec {vars : Nat} {cls : List (List Int)} {first : Bool} (hv : vars ≤ 20000) (hcl : cls.length ≤ 20000) (hll : ∀ l ∈ cls, l.length ≤ 200000) (hlit : ∀ l ∈ cls, ∀ x ∈ l, LitOk vars x)
    (hsum : ∀ x, (innOf (cls.map cln) x).length ≤ 200000) (o : List Ob) (hok : okO o = true) :
    ACalls Try.prog 64 [.agg [.i .i64 vars, .sl 1 (tups cls)], .b first] o fun r o' => ∃ (d : IdS) (es : List (AV × AV)) (ok : Bool), r = .tup [.ptr (o.length + 3) 0 0, .b ok] ∧
      EnvOk (envB vars (cls.map cln) first es) ∧ U3 (o.length + 3) d (envB vars (cls.map cln) first es) cls.length ok o' ∧ o.length ≤ o'.length := by
  have hlen : (cls.map cln).length = cls.length := List.length_map ..
  have hll2 : ∀ l ∈ cls.map cln, l.length ≤ 200000 := by
    intro l hl
    obtain ⟨l', h1, rfl⟩ := List.mem_map.1 hl
    exact Nat.le_trans (cln_len l') (hll l' h1)
  have hlit2 : ∀ l ∈ cls.map cln, ∀ x ∈ l, LitOk vars x := by
    intro l hl x hx
    obtain ⟨l', h1, rfl⟩ := List.mem_map.1 hl
    exact hlit l' h1 x ((cln_mem l' x).1 hx)
  have henv : ∀ es, EnvOk (envB vars (cls.map cln) first es) := fun es => ⟨hv, by rw [← hlen] at hcl; exact hcl, hlit2, hsum, hll2, by
    simp only [envB, lavL]
    split
    · rename_i e; exact .inr ⟨rfl, e⟩
    · exact .inl rfl⟩
  refine ACalls_of' (n := 152) (rs := [.tmp 4, .tmp 5]) (show Try.prog.funcs[64]? = some Try.f64 by kernel_rfl) rfl rfl rfl (by simp) (by decide +kernel) ?_
  repeat (first | refine nav ?_ | refine bo ?_)
  (refine wr fun K R hK hR => ?_; simp (maxSteps := 10000000) only [go_sem]; (try go_ints); (repeat refine And.intro side ?_); (first | refine hK _ ?_ | refine hR _ _ ?_); clear hK hR K R)
  repeat (first | refine nav ?_ | refine bo ?_)
  (refine W_reg [1000000] fun K R hK hR => ?_; simp (maxSteps := 10000000) only [go_sem]; (try go_ints); (repeat refine And.intro side ?_); (first | refine hK _ ?_ | refine hR _ _ ?_); clear hK hR K R)
  repeat (first | refine nav ?_ | refine bo ?_)
  (refine wr fun K R hK hR => ?_; simp (maxSteps := 10000000) only [go_sem]; (try go_ints); (repeat refine And.intro side ?_); (first | refine hK _ ?_ | refine hR _ _ ?_); clear hK hR K R)
  repeat (first | refine nav ?_ | refine bo ?_)
  have hrep : ints (List.replicate vars 0) = List.replicate vars [AV.i .i64 0] := by simp [ints]
  refine loop1 (by rfl) (n0 := o.length) (vars := vars) (cls := cls) (first := first) hv hcl hll ⟨?_, ?_, ?_, ?_, ?_⟩ ?_ ?_ ?_
  · refine okO_app hok ?_
    simp [Ob.ltk, AV.ltk, AV.ltks]
  · simp
  · rw [List.getElem?_append_right (by omega)]; simp
  · rw [List.getElem?_append_right (by omega), hrep]; simp
  · rw [List.getElem?_append_right (by omega)]; simp [rowB, lavL]
  · rfl
  · intro y hy
    simp only [outB, List.mem_cons, List.not_mem_nil, or_false] at hy
    rcases hy with rfl | rfl | rfl | rfl <;> rfl
  intro t1 o1 w1
  repeat (first | refine nav ?_ | refine bo ?_)
  have lB := (List.getElem?_eq_some_iff.1 w1.b).1
  have lK := (List.getElem?_eq_some_iff.1 w1.k).1
  have hs : ∀ (X : Ob) (j : Nat), (o1.set (o.length + 3) X)[j]? = if j = o.length + 3 then some X else o1[j]? := fun X j => set_get w1.k
  have hsb : ∀ X : Ob, (o1.set (o.length + 3) X)[o.length]? = some (.cells 2 [[.i .i64 vars, .sl 1 (tups cls)]]) := fun X => by rw [hs, if_neg (by omega)]; exact w1.b
  have hsk : ∀ X : Ob, (o1.set (o.length + 3) X)[o.length + 3]? = some X := fun X => by rw [hs, if_pos rfl]
  refine W_joinS 49 55 [] (fun t o' => o' = o1.set (o.length + 3) (.cells 13 [[.i .i64 vars, lavL (cls.map cln), .mp (o.length + 1), .nsl, .nsl, .i .i64 0, .ref (o.length + 2) 0 vars, .nsl, .i .i64 0, .b first, .nsl, .i .i64 0, .b false]])) ?_ ?_
  · (refine wr fun K R hK hR => ?_; simp (maxSteps := 10000000) only [go_sem, outB, w1.b, w1.k, rowB]; (try go_ints); (try simp only [go_sem, outB, w1.b, w1.k, rowB]); (repeat refine And.intro side ?_); (first | refine hK _ ?_ | refine hR _ _ ?_); clear hK hR K R)
    exact ⟨_, rfl, rfl⟩
  rintro t2 o2 ho2
  rw [ho2]
  clear ho2 o2
  repeat (first | refine nav ?_ | refine bo ?_)
  refine W_joinS 55 61 [] (fun t o' => o' = o1.set (o.length + 3) (.cells 13 [[.i .i64 vars, lavL (cls.map cln), .mp (o.length + 1), .nsl, .nsl, .i .i64 cls.length, .ref (o.length + 2) 0 vars, .nsl, .i .i64 0, .b first, .nsl, .i .i64 0, .b false]])) ?_ ?_
  · (refine wr fun K R hK hR => ?_; simp (maxSteps := 10000000) only [go_sem, outB, hsb, hsk]; (try go_ints); (try simp only [go_sem, outB, hsb, hsk]); (repeat refine And.intro side ?_); (first | refine hK _ ?_ | refine hR _ _ ?_); clear hK hR K R)
    exact ⟨_, rfl, by rw [List.set_set]; rfl⟩
  rintro t3 o3 ho3
  rw [ho3]
  clear ho3 o3
  repeat (first | refine nav ?_ | refine bo ?_)
  have hcell : ∀ (X Y : Ob), ((o1.set (o.length + 3) X) ++ [Y])[o.length + 3]? = some X := fun X Y => app_get [Y] (hsk X)
  have hl1 : (o1.set (o.length + 3) (Ob.cells 13 [[.i .i64 vars, lavL (cls.map cln), .mp (o.length + 1), .nsl, .nsl, .i .i64 cls.length, .ref (o.length + 2) 0 vars, .nsl, .i .i64 0, .b first, .nsl, .i .i64 0, .b false]])).length = o1.length := List.length_set ..
  refine W_joinS 61 68 [] (fun t o' => o' = (o1 ++ [Ob.cells 1 (ints (List.replicate cls.length 0))]).set (o.length + 3) (.cells 13 [[.i .i64 vars, lavL (cls.map cln), .mp (o.length + 1), .nsl, .ref o1.length 0 cls.length, .i .i64 cls.length, .ref (o.length + 2) 0 vars, .nsl, .i .i64 0, .b first, .nsl, .i .i64 0, .b false]])) ?_ ?_
  · (refine wr fun K R hK hR => ?_; simp (maxSteps := 10000000) only [go_sem, outB, hsb, hcell, hl1]; (try go_ints); (try simp only [go_sem, outB, hsb, hcell, hl1]); (repeat refine And.intro side ?_); (first | refine hK _ ?_ | refine hR _ _ ?_); clear hK hR K R)
    refine ⟨_, rfl, ?_⟩
    have hrep2 : ints (List.replicate cls.length 0) = List.replicate cls.length [AV.i .i64 0] := by simp [ints]
    rw [hrep2, List.set_append_left _ _ lK, List.set_append_left _ _ (by rw [List.length_set]; exact lK), List.set_set]
    rfl
  rintro t4 o4 ho4
  repeat (first | refine nav ?_ | refine bo ?_)
  have w2 : W2 o.length vars first (cls.map cln) o1.length .nsl [] (fun _ => []) [] o4 := by
    have kk : (o1 ++ [Ob.cells 1 (ints (List.replicate cls.length 0))])[o.length + 3]? = _ := app_get _ w1.k
    have hs4 : ∀ (X : Ob) (j : Nat), ((o1 ++ [Ob.cells 1 (ints (List.replicate cls.length 0))]).set (o.length + 3) X)[j]? = if j = o.length + 3 then some X else (o1 ++ [Ob.cells 1 (ints (List.replicate cls.length 0))])[j]? := fun X j => set_get kk
    rw [ho4]
    refine ⟨okO_set (okO_app w1.ok (by rw [List.all_cons, List.all_nil, Bool.and_true]; exact ints_ltk _ _)) ?_, ?_, ?_, ?_, .inl ⟨rfl, rfl⟩, ?_, ?_, by omega, fun x => .inl ⟨rfl, rfl⟩, fun x y I a b h => by cases h⟩
    · have := row2_ltk (n := o1.length + 1) (n0 := o.length) (vars := vars) (G := o1.length) (list := cls.map cln) (first := first) (lv := .nsl) (by omega) (by omega) rfl
      rw [row2, hlen] at this
      simpa using this
    · rw [hs4, if_pos rfl, row2, hlen]
    · rw [hs4, if_neg (by omega)]; exact app_get _ w1.m
    · simp [AllI]
    · rw [hs4, if_neg (by omega), hlen]; simp
    · rw [hs4, if_neg (by omega)]; exact app_get _ w1.v
  have hlo4 : o.length ≤ o4.length := by rw [ho4]; simp; omega
  clear ho4 w1 hs hsb hsk hcell hl1 lB lK
  have hk4 := w2.k
  refine W_joinS 68 75 [] (fun t o' => o' = o4 ∧ Le (t 72) (.sl 1 (tups (cls.map cln))) ∧ t 73 = .i .i64 cls.length ∧ t 74 = .i .i64 0) ?_ ?_
  · rcases lavL_or (cls.map cln) with ⟨e, e2⟩ | e
    · have hn : cls = [] := by
        have := congrArg List.length e2
        rw [tups_len, hlen] at this
        exact List.eq_nil_of_length_eq_zero this
      subst hn
      have e : lavL [] = .nsl := e
      (refine wr fun K R hK hR => ?_; simp (maxSteps := 10000000) only [go_sem, outB, hk4, row2, e, List.map_nil]; (try go_ints); (try simp only [go_sem, outB, hk4, row2, e, List.map_nil]); (repeat refine And.intro side ?_); (first | refine hK _ ?_ | refine hR _ _ ?_); clear hK hR K R)
      exact ⟨_, rfl, rfl, Le.nsl 1, rfl, rfl⟩
    · (refine wr fun K R hK hR => ?_; simp (maxSteps := 10000000) only [go_sem, outB, hk4, row2, e]; (try go_ints); (try simp only [go_sem, outB, hk4, row2, e]); (repeat refine And.intro side ?_); (first | refine hK _ ?_ | refine hR _ _ ?_); clear hK hR K R)
      exact ⟨_, rfl, rfl, Le.refl _, by simp only [go_sem, hlen], rfl⟩
  rintro t5 o5 ⟨rfl, h72, h73, h74⟩
  repeat (first | refine nav ?_ | refine bo ?_)
  refine W_weak (s' := ⟨tab ((74, .i .i64 0) :: outC o.length (cls.map cln)), o5⟩) (tab_le2 fun y hy => ?_) rfl ?_
  · simp only [outC, List.mem_cons, List.not_mem_nil, or_false] at hy
    rcases hy with rfl | rfl | rfl | rfl
    · exact Le.of_eq (by simp only [go_sem, h74])
    · exact Le.of_eq (by simp only [go_sem, outB])
    · have : mix 68 75 [] t5 (mix 61 68 [] t4 (mix 55 61 [] t3 (mix 49 55 [] t2 (mix 28 49 [8, 9, 27] t1 (tab (outB o.length cls)))))) 72 = t5 72 := by simp only [go_sem]
      simp only [this]
      exact h72
    · exact Le.of_eq (by simp only [go_sem, h73, hlen])
  refine loop2 (by rfl) hll2 (by rw [hlen]; exact hcl) hsum hlit2 hv w2 rfl ?_ ?_
  · intro y hy
    simp only [outC, List.mem_cons, List.not_mem_nil, or_false] at hy
    rcases hy with rfl | rfl | rfl <;> rfl
  intro t6 o6 es lv w6 
  repeat (first | refine nav ?_ | refine bo ?_)
  have l6 := (List.getElem?_eq_some_iff.1 w6.k).1
  refine w6.fin fun d o7 hr hl7 => ?_
  clear w6 w2 hk4
  (refine wr fun K R hK hR => ?_; simp (maxSteps := 10000000) only [go_sem, outC]; (try go_ints); (try simp only [go_sem, outC]); (repeat refine And.intro side ?_); (first | refine hK _ ?_ | refine hR _ _ ?_); clear hK hR K R)
  repeat (first | refine nav ?_ | refine bo ?_)
  have hk7 := hr.k
  refine W_joinS 112 119 [] (fun t o' => o' = o7 ∧ Le (t 116) (.sl 1 (tups (cls.map cln))) ∧ t 117 = .i .i64 cls.length ∧ t 118 = .i .i64 0) ?_ ?_
  · rcases lavL_or (cls.map cln) with ⟨e, e2⟩ | e
    · have hn : cls = [] := by
        have := congrArg List.length e2
        rw [tups_len, hlen] at this
        exact List.eq_nil_of_length_eq_zero this
      subst hn
      have e : lavL [] = .nsl := e
      (refine wr fun K R hK hR => ?_; simp (maxSteps := 10000000) only [go_sem, outC, hk7, rowK, envB, e, List.map_nil]; (try go_ints); (try simp only [go_sem, outC, hk7, rowK, envB, e, List.map_nil]); (repeat refine And.intro side ?_); (first | refine hK _ ?_ | refine hR _ _ ?_); clear hK hR K R)
      exact ⟨_, rfl, rfl, Le.nsl 1, rfl, rfl⟩
    · (refine wr fun K R hK hR => ?_; simp (maxSteps := 10000000) only [go_sem, outC, hk7, rowK, envB, e]; (try go_ints); (try simp only [go_sem, outC, hk7, rowK, envB, e]); (repeat refine And.intro side ?_); (first | refine hK _ ?_ | refine hR _ _ ?_); clear hK hR K R)
      exact ⟨_, rfl, rfl, Le.refl _, by simp only [go_sem, hlen], rfl⟩
  rintro t8 o8 ⟨e8, h116, h117, h118⟩
  rw [e8]
  clear e8 o8
  repeat (first | refine nav ?_ | refine bo ?_)
  refine W_weak (s' := ⟨tab ((14, .b true) :: (118, .i .i64 0) :: outE (o.length + 3) (cls.map cln)), o7⟩) (tab_le2 fun y hy => ?_) rfl ?_
  · simp only [outE, List.mem_cons, List.not_mem_nil, or_false] at hy
    rcases hy with rfl | rfl | rfl | rfl | rfl
    · exact Le.of_eq (by simp only [go_sem])
    · exact Le.of_eq (by simp only [go_sem, h118])
    · exact Le.of_eq (by simp only [go_sem, outC])
    · refine (Le.of_eq ?_).trans h116 rfl
      simp only [go_sem]
    · exact Le.of_eq (by simp only [go_sem, h117, hlen])
  refine loop3 (by rfl) (c := envB vars (cls.map cln) first es) (henv es) ⟨⟨[], .nsl, hr, TrOk_nil _, fun _ => ⟨Quiet_nil _, fun a _ => by simp [agr]⟩⟩, fun _ l hl => by simp at hl, fun h => by cases h⟩ rfl rfl ?_ ?_
  · intro y hy
    simp only [outE, List.mem_cons, List.not_mem_nil, or_false] at hy
    rcases hy with rfl | rfl | rfl <;> rfl
  intro t9 o9 ok hu h14 hl9
  repeat (first | refine nav ?_ | refine bo ?_)
  (refine wr fun K R hK hR => ?_; simp (maxSteps := 10000000) only [go_sem, outE, h14]; (try go_ints); (try simp only [go_sem, outE, h14]); (repeat refine And.intro side ?_); (first | refine hK _ ?_ | refine hR _ _ ?_); clear hK hR K R)
  repeat (first | refine nav ?_ | refine bo ?_)
  obtain ⟨tr, ta, hr9, _⟩ := hu.run
  have hc9 : (envB vars (cls.map cln) first es).list.length = cls.length := hlen
  have l9 := (List.getElem?_eq_some_iff.1 hr9.k).1
  have h09 : o.length ≤ o9.length := by omega
  refine endQ_all (by simp only [go_sem] <;> exact rfl) (Le.refl _) h09 hr9.ok (by simp only [AV.ltk, AV.ltks, Bool.and_true, decide_eq_true_eq]; exact l9) ⟨d, es, ok, rfl, henv es, by rw [hc9] at hu; exact hu, by omega⟩
end Go.AW
/-
Contracts: Valid and Holds of clauses.
-/
namespace Go.AW
open Go Go.Proofs TyTry Go.IntWalk
set_option linter.unusedSimpArgs false
set_option linter.unusedVariables false
set_option maxRecDepth 10000
set_option maxHeartbeats 1000000

def badL (vars : Int) (x : Int) : Bool := x == 0 || decide (x > vars) || decide (x < -vars)
def litsOk (vars : Int) (cls : List (List Int)) : Bool := cls.all fun l => !(l.any (badL vars))
def validC (vars : Int) (cls : List (List Int)) : Bool := decide (0 ≤ vars) && decide (vars ≤ 20000) && litsOk vars cls
def sumL (cls : List (List Int)) : Nat := (cls.map List.length).sum
theorem sumL_app (a b : List (List Int)) : sumL (a ++ b) = sumL a + sumL b := by simp [sumL]
theorem sumL_take (cls : List (List Int)) (i : Nat) : sumL (cls.take i) ≤ sumL cls := by
  conv => rhs; rw [← List.take_append_drop i cls, sumL_app]
  omega
theorem sumL_get {cls : List (List Int)} {i : Nat} {l : List Int} (h : cls[i]? = some l) : sumL (cls.take (i + 1)) = sumL (cls.take i) + l.length := by
  rw [List.take_add_one, h, sumL_app]
  simp [sumL]
theorem validC_lit {vars : Nat} {cls : List (List Int)} (h : validC vars cls = true) : vars ≤ 20000 ∧ ∀ l ∈ cls, ∀ x ∈ l, LitOk vars x := by
  simp only [validC, Bool.and_eq_true, decide_eq_true_eq, litsOk, List.all_eq_true, Bool.not_eq_true', List.any_eq_false, badL, Bool.or_eq_true, beq_iff_eq, not_or] at h
  refine ⟨by omega, fun l hl x hx => ?_⟩
  obtain ⟨⟨a, b⟩, c⟩ := h.2 l hl x hx
  exact ⟨a, by omega, by omega⟩
theorem valid1_ {oc : List Ob} (ho : okO oc = true) {i : Nat} {vars x : Int} {a : AV} (hi : oc[i]? = some (.cells 2 [[.i .i64 vars, a]])) (h0 : 0 ≤ vars) (h1 : vars ≤ 20000) :
    ACallsQ Try.prog 48 [.i .i64 x, .ptr i 0 0] oc (.b (badL vars x)) := by
  refine ACalls_of' (n := 19) (rs := [.tmp 3]) (show Try.prog.funcs[48]? = some Try.f48 by kernel_rfl) rfl rfl rfl (by simp) (by decide +kernel) ?_
  repeat (first | refine nav ?_ | refine bo ?_)
  (refine wr fun K R hK hR => ?_; simp (maxSteps := 10000000) only [go_sem]; (try go_ints); (repeat refine And.intro side ?_); (first | refine hK _ ?_ | refine hR _ _ ?_); clear hK hR K R)
  repeat (first | refine nav ?_ | refine bo ?_)
  (refine wr fun K R hK hR => ?_; simp (maxSteps := 10000000) only [go_sem, hi]; (try go_ints); (try simp only [go_sem, hi]); (repeat refine And.intro side ?_); (first | refine hK _ ?_ | refine hR _ _ ?_); clear hK hR K R)
  repeat (first | refine nav ?_ | refine bo ?_)
  refine endQ_quiet0 (by simp only [go_sem] <;> exact rfl) (Le.of_eq ?_) (by assumption) rfl
  simp only [badL]
  by_cases h : x = 0
  · simp [h]
  · by_cases h2 : x > vars
    · simp [h, h2]
    · simp [h, h2]
theorem validC_spec {vars : Int} {cls : List (List Int)} (hn : cls.length ≤ 10000) (hs : sumL cls ≤ 10000) : ACallsD Try.prog 23 [.agg [.i .i64 vars, .sl 1 (tups cls)]] (.b (validC vars cls)) := by
  have hlk := sumL_take cls
  refine ACalls_of' (n := 37) (rs := [.tmp 2]) (show Try.prog.funcs[23]? = some Try.f23 by kernel_rfl) rfl rfl rfl (by simp) (by decide +kernel) ?_
  repeat (first | refine nav ?_ | refine bo ?_)
  (refine wr fun K R hK hR => ?_; simp (maxSteps := 10000000) only [go_sem]; (try go_ints); (repeat refine And.intro side ?_); (first | refine hK _ ?_ | refine hR _ _ ?_); clear hK hR K R)
  repeat (first | refine nav ?_ | refine bo ?_)
  (refine wr fun K R hK hR => ?_; simp (maxSteps := 10000000) only [go_sem]; (try go_ints); (repeat refine And.intro side ?_); (first | refine hK _ ?_ | refine hR _ _ ?_); clear hK hR K R)
  repeat (first | refine nav ?_ | refine bo ?_)
  refine W_cond (by simp only [go_sem] <;> exact rfl) (fun hb => ?_) (fun hb => ?_)
  · repeat (first | refine nav ?_ | refine bo ?_)
    (refine wr fun K R hK hR => ?_; simp (maxSteps := 10000000) only [go_sem]; (try go_ints); (repeat refine And.intro side ?_); (first | refine hK _ ?_ | refine hR _ _ ?_); clear hK hR K R)
    repeat (first | refine nav ?_ | refine bo ?_)
    refine endQ_data (by simp only [go_sem] <;> exact rfl) (Le.of_eq ?_) rfl
    simp only [Bool.or_eq_true, decide_eq_true_eq] at hb
    have : ¬ (0 ≤ vars ∧ vars ≤ 20000) := by omega
    simp only [validC]
    congr 1
    symm
    rw [Bool.and_eq_false_iff]
    left
    simp only [Bool.and_eq_false_iff, decide_eq_false_iff_not]
    omega
  · simp only [Bool.or_eq_false_iff, decide_eq_false_iff_not] at hb
    have hv0 : 0 ≤ vars := by omega
    have hv1 : vars ≤ 20000 := by omega
    have hval : validC vars cls = litsOk vars cls := by simp [validC, hv0, hv1]
    rw [hval]
    repeat (first | refine nav ?_ | refine bo ?_)
    (refine wr fun K R hK hR => ?_; simp (maxSteps := 10000000) only [go_sem]; (try go_ints); (repeat refine And.intro side ?_); (first | refine hK _ ?_ | refine hR _ _ ?_); clear hK hR K R)
    repeat (first | refine nav ?_ | refine bo ?_)
    (refine wr fun K R hK hR => ?_; simp (maxSteps := 10000000) only [go_sem]; (try go_ints); (repeat refine And.intro side ?_); (first | refine hK _ ?_ | refine hR _ _ ?_); clear hK hR K R)
    repeat (first | refine nav ?_ | refine bo ?_)
    refine W_for 24 37 [3, 5, 23] (fun m t o => ∃ i : Nat, o = [Ob.cells 2 [[.i .i64 vars, .sl 1 (tups cls)]]] ∧ t 3 = .i .i64 (sumL (cls.take i)) ∧ t 23 = .i .i64 i ∧ m = cls.length - i ∧ i ≤ cls.length ∧ litsOk vars (cls.take i) = true) cls.length ⟨0, rfl, by simp only [go_sem] <;> simp [sumL], by simp only [go_sem] <;> rfl, rfl, by omega, by simp [litsOk]⟩ ?_
    rintro m t o ⟨i, rfl, h3, h23, rfl, hi, hok⟩
    repeat (first | refine nav ?_ | refine bo ?_)
    (refine wr fun K R hK hR => ?_; simp (maxSteps := 10000000) only [go_sem, h23]; (try go_ints); (try simp only [go_sem, h23]); (repeat refine And.intro side ?_); (first | refine hK _ ?_ | refine hR _ _ ?_); clear hK hR K R)
    repeat (first | refine nav ?_ | refine bo ?_)
    refine W_cond (by simp only [go_sem] <;> exact rfl) (fun hb => ?_) (fun hb => ?_)
    · have hb : i < cls.length := by simpa using hb
      obtain ⟨l, hl⟩ : ∃ l, cls[i]? = some l := ⟨_, List.getElem?_eq_getElem hb⟩
      have hsl := sumL_get hl
      have hs1 := hlk (i + 1)
      repeat (first | refine nav ?_ | refine bo ?_)
      (refine wr fun K R hK hR => ?_; simp (maxSteps := 10000000) only [go_sem, h23, tups_get hl]; (try go_ints); (try simp only [go_sem, h23, tups_get hl]); (repeat refine And.intro side ?_); (first | refine hK _ ?_ | refine hR _ _ ?_); clear hK hR K R)
      repeat (first | refine nav ?_ | refine bo ?_)
      (refine wr fun K R hK hR => ?_; simp (maxSteps := 10000000) only [go_sem, h3]; (try go_ints); (try simp only [go_sem, h3]); (repeat refine And.intro side ?_); (first | refine hK _ ?_ | refine hR _ _ ?_); clear hK hR K R)
      repeat (first | refine nav ?_ | refine bo ?_)
      (refine wr fun K R hK hR => ?_; simp (maxSteps := 10000000) only [go_sem]; (try go_ints); (repeat refine And.intro side ?_); (first | refine hK _ ?_ | refine hR _ _ ?_); clear hK hR K R)
      repeat (first | refine nav ?_ | refine bo ?_)
      refine W_cond (b := false) (by simp only [go_sem]; congr 1; simp; omega) (fun hb => by cases hb) (fun _ => ?_)
      repeat (first | refine nav ?_ | refine bo ?_)
      have hall : okO [Ob.cells 2 [[.i .i64 vars, .sl 1 (tups cls)]]] = true := rfl
      (refine wr fun K R hK hR => ?_; simp (maxSteps := 10000000) only [go_sem]; (try go_ints); (repeat refine And.intro side ?_); (first | refine hK _ ?_ | refine hR _ _ ?_); clear hK hR K R)
      refine RL_callQ (containsInt_spec (f := 48) (caps := [.ptr 0 0 0]) hall (by simp [AV.ltk]) rfl (badL vars) l (by omega) (fun x hx => valid1_ hall (i := 0) rfl hv0 hv1)) (by simp only [go_sem] <;> exact rfl) rfl rfl (by simp) (by simp only [go_sem] <;> exact LeA.refl _) rfl ?_ rfl ?_
      · simp [AV.ltk, AV.ltks]
      (refine rr fun K R hK hR => ?_; simp (maxSteps := 10000000) only [go_sem]; (try go_ints); (repeat refine And.intro side ?_); (first | refine hK _ ?_ | refine hR _ _ ?_); clear hK hR K R)
      repeat (first | refine nav ?_ | refine bo ?_)
      have htk : litsOk vars (cls.take (i + 1)) = !(l.any (badL vars)) := by
        rw [List.take_add_one, hl]
        simp only [litsOk, List.all_append, Option.toList_some, List.all_cons, List.all_nil, Bool.and_true]
        rw [show (cls.take i).all (fun l => !(l.any (badL vars))) = true from hok, Bool.true_and]
      refine W_cond (b := l.any (badL vars)) (by simp only [go_sem]) (fun hb2 => ?_) (fun hb2 => ?_)
      · repeat (first | refine nav ?_ | refine bo ?_)
        (refine wr fun K R hK hR => ?_; simp (maxSteps := 10000000) only [go_sem]; (try go_ints); (repeat refine And.intro side ?_); (first | refine hK _ ?_ | refine hR _ _ ?_); clear hK hR K R)
        repeat (first | refine nav ?_ | refine bo ?_)
        refine endQ_data (by simp only [go_sem] <;> exact rfl) (Le.of_eq ?_) rfl
        congr 1
        symm
        rw [litsOk, List.all_eq_false]
        exact ⟨l, List.mem_of_getElem? hl, by rw [hb2]; simp⟩
      · repeat (first | refine nav ?_ | refine bo ?_)
        (refine wr fun K R hK hR => ?_; simp (maxSteps := 10000000) only [go_sem, h23]; (try go_ints); (try simp only [go_sem, h23]); (repeat refine And.intro side ?_); (first | refine hK _ ?_ | refine hR _ _ ?_); clear hK hR K R)
        repeat (first | refine nav ?_ | refine bo ?_)
        refine forQ_normal (cls.length - (i + 1)) (by omega) ⟨i + 1, rfl, ?_, ?_, rfl, by omega, by rw [htk, hb2]; rfl⟩
        · simp only [go_sem]
          congr 1
          omega
        · simp only [go_sem] <;> simp
    · have hb : ¬ i < cls.length := by simpa using hb
      obtain rfl : i = cls.length := by omega
      rw [List.take_length] at hok
      repeat (first | refine nav ?_ | refine bo ?_)
      (refine wr fun K R hK hR => ?_; simp (maxSteps := 10000000) only [go_sem]; (try go_ints); (repeat refine And.intro side ?_); (first | refine hK _ ?_ | refine hR _ _ ?_); clear hK hR K R)
      repeat (first | refine nav ?_ | refine bo ?_)
      refine endQ_data (by simp only [go_sem] <;> exact rfl) (Le.of_eq ?_) rfl
      rw [hok]
theorem holds1_ {oc : List Ob} (ho : okO oc = true) {i : Nat} {x : Int} {a : List Bool} (hi : oc[i]? = some (.cells 1 [[.sl 1 (bools a)]])) (hx : LitOk a.length x) (ha : a.length ≤ 20000) :
    ACallsQ Try.prog 47 [.i .i64 x, .ptr i 0 0] oc (.b (litB a x)) := by
  obtain ⟨x0, x1, x2⟩ := hx
  refine ACalls_of' (n := 26) (rs := [.tmp 3]) (show Try.prog.funcs[47]? = some Try.f47 by kernel_rfl) rfl rfl rfl (by simp) (by decide +kernel) ?_
  repeat (first | refine nav ?_ | refine bo ?_)
  (refine wr fun K R hK hR => ?_; simp (maxSteps := 10000000) only [go_sem]; (try go_ints); (repeat refine And.intro side ?_); (first | refine hK _ ?_ | refine hR _ _ ?_); clear hK hR K R)
  repeat (first | refine nav ?_ | refine bo ?_)
  have hw1 : IntKind.i64.wrap (0 - x) = 0 - x := by go_ints; trivial
  have hw2 : IntKind.i64.wrap (0 - x - 1) = 0 - x - 1 := by go_ints; trivial
  have hw3 : IntKind.i64.wrap (x - 1) = x - 1 := by go_ints; trivial
  by_cases hp : x > 0
  · have hp2 : decide (x > 0) = true := by simpa using hp
    have hp3 : decide (x < 0) = false := by simp; omega
    obtain ⟨b, hb⟩ : ∃ b, a[(x - 1).toNat]? = some b := ⟨_, List.getElem?_eq_getElem (by omega)⟩
    obtain ⟨b0, hb0⟩ : ∃ b, a[0]? = some b := ⟨_, List.getElem?_eq_getElem (by omega)⟩
    have hz : (0 - x - 1).toNat = 0 := by omega
    cases b
    all_goals
      (refine wr fun K R hK hR => ?_; simp (maxSteps := 10000000) only [go_sem, hi, hp2, hp3, hw1, hw2, hw3, hz, bools_get hb, bools_get hb0]; (try go_ints); (try simp only [go_sem, hi, hp2, hp3, hw1, hw2, hw3, hz, bools_get hb, bools_get hb0]); (repeat refine And.intro side ?_); (first | refine hK _ ?_ | refine hR _ _ ?_); clear hK hR K R)
      repeat (first | refine nav ?_ | refine bo ?_)
      refine endQ_quiet0 (by simp only [go_sem] <;> exact rfl) (Le.of_eq ?_) (by assumption) rfl
      simp only [litB, if_pos hp, getD_of2 hb]
  · have hp2 : decide (x > 0) = false := by simpa using hp
    have hp3 : decide (x < 0) = true := by simp; omega
    obtain ⟨b, hb⟩ : ∃ b, a[(0 - x - 1).toNat]? = some b := ⟨_, List.getElem?_eq_getElem (by omega)⟩
    obtain ⟨b0, hb0⟩ : ∃ b, a[0]? = some b := ⟨_, List.getElem?_eq_getElem (by omega)⟩
    have hz : (x - 1).toNat = 0 := by omega
    have hn : (-x - 1).toNat = (0 - x - 1).toNat := by omega
    (refine wr fun K R hK hR => ?_; simp (maxSteps := 10000000) only [go_sem, hi, hp2, hp3, hw1, hw2, hw3, hz, bools_get hb, bools_get hb0]; (try go_ints); (try simp only [go_sem, hi, hp2, hp3, hw1, hw2, hw3, hz, bools_get hb, bools_get hb0]); (repeat refine And.intro side ?_); (first | refine hK _ ?_ | refine hR _ _ ?_); clear hK hR K R)
    repeat (first | refine nav ?_ | refine bo ?_)
    refine endQ_quiet0 (by simp only [go_sem] <;> exact rfl) (Le.of_eq ?_) (by assumption) rfl
    simp only [litB, if_neg hp, hn, getD_of2 hb]
end Go.AW
/-
Contracts: Holds of clauses; a search that has ended.
-/
namespace Go.AW
open Go Go.Proofs TyTry Go.IntWalk
set_option linter.unusedSimpArgs false
set_option linter.unusedVariables false
set_option maxRecDepth 10000
set_option maxHeartbeats 1000000

/-- Plain data in, plain data out, of which something is known; other objects stay. -/
theorem ACalls.frameR {P : Program} {f : FuncId} {ac : List AV} {R : AV → Prop} (h : ACalls P f ac [] fun r o' => R r ∧ o' = []) (hac : ac.all (AV.ltk 0) = true) (hr : ∀ r, R r → r.ltk 0 = true) (oc : List Ob) : ACalls P f ac oc fun r o' => R r ∧ o' = oc := by
  refine ⟨h.1, fun w Z m reg vs hlen hrel => ?_⟩
  have H := Hand.none oc
  have hd := hrel.down H (S := 0) (n := ac.length) (ac := fun k => ac.getD k .any) (fun k hk => by
    simp only [Nat.zero_add]
    have hl : (ac.getD k .any).ltk 0 = true := by
      rw [List.getD_eq_getElem?_getD, List.getElem?_eq_getElem hk]
      exact List.all_eq_true.1 hac _ (List.getElem_mem hk)
    refine ⟨?_, hl⟩
    conv => lhs; rw [← ren_self (ac.getD k .any)]
    exact ren_congr (n := 0) (fun j hj => by omega) _ hl)
  have e1 : (fun k => if k < ac.length then ac.getD k .any else AV.any) = fun k => ac.getD k .any := by
    funext k
    by_cases hk : k < ac.length
    · rw [if_pos hk]
    · rw [if_neg hk, List.getD_eq_getElem?_getD, List.getElem?_eq_none (by omega)]; rfl
  have e2 : (fun k => if k < ac.length then vs.getD (0 + k) undef else undef) = fun k => vs.getD k undef := by
    funext k
    by_cases hk : k < ac.length
    · rw [if_pos hk, Nat.zero_add]
    · rw [if_neg hk, List.getD_eq_getElem?_getD, List.getElem?_eq_none (by omega)]; rfl
  rw [e1, e2] at hd
  refine Calls.mono (h.2 w _ _ _ vs hlen hd) ?_
  rintro e w' ⟨v, r', o', m', reg', he, ⟨hR, rfl⟩, k1, k2, k3, k4⟩
  obtain ⟨g1, g2, g3⟩ := Rel.up (t1 := fun _ => .any) (u1 := fun _ => undef) (d := 0) hrel H k1 k2 k3 k4 (fun k => by simp only [V]) (fun k sz rows h => by cases h) (fun k sz rows h => by cases h)
  have ea : after oc [] [] = oc := by simp [after, back]
  have er : r'.ren (phi [] oc.length) = r' := by
    conv => rhs; rw [← ren_self r']
    exact ren_congr (n := 0) (fun j hj => by omega) _ (hr _ hR)
  rw [ea, er] at g1
  rw [ea] at g3
  refine ⟨v, r', oc, _, _, he, ⟨hR, rfl⟩, ?_, g2, g3, fun id mb hm => ?_⟩
  · exact g1
  · rw [List.getElem?_append_left (List.getElem?_eq_some_iff.1 hm).1]; exact hm
theorem endQ_rel {P : Program} {rs : List ResultVar} {R : AV → Prop} {s : St} {r r' : AV} (h1 : resAV P rs s = some r) (h2 : Le r r') (h6 : r'.ltk 0 = true) (hR : R r') : endQ P rs ([] : List Ob).length (fun x o' => R x ∧ o' = []) .ret s :=
  ⟨r, r', 0, h1, h2, Nat.le_refl _, Nat.zero_le _, rfl, h6, hR, rfl⟩
def holdsA (vars : Int) (cls : List (List Int)) (a : List Bool) : AV := if validC vars cls = false then .tup [.b false, .i .i64 1] else if (a.length : Int) ≠ vars then .tup [.b false, .i .i64 2] else .tup [.b (satC cls a), .i .i64 0]
theorem holdsC_spec {vars : Int} {cls : List (List Int)} {a : List Bool} (hn : cls.length ≤ 10000) (hs : sumL cls ≤ 10000) (ha : a.length ≤ 30000) :
    ACallsD Try.prog 21 [.agg [.i .i64 vars, .sl 1 (tups cls)], .sl 1 (bools a)] (holdsA vars cls a) := by
  have hlk := sumL_take cls
  refine ACalls_of' (n := 28) (rs := [.tmp 4, .tmp 5]) (show Try.prog.funcs[21]? = some Try.f21 by kernel_rfl) rfl rfl rfl (by simp) (by decide +kernel) ?_
  repeat (first | refine nav ?_ | refine bo ?_)
  (refine wr fun K R hK hR => ?_; simp (maxSteps := 10000000) only [go_sem]; (try go_ints); (repeat refine And.intro side ?_); (first | refine hK _ ?_ | refine hR _ _ ?_); clear hK hR K R)
  repeat (first | refine nav ?_ | refine bo ?_)
  (refine wr fun K R hK hR => ?_; simp (maxSteps := 10000000) only [go_sem]; (try go_ints); (repeat refine And.intro side ?_); (first | refine hK _ ?_ | refine hR _ _ ?_); clear hK hR K R)
  refine RL_callF (validC_spec hn hs) rfl rfl rfl (by first | (simp only [go_sem] <;> first | exact LeA.refl _ | exact Le.refl _) | exact LeA.refl _) rfl rfl ?_
  (refine rr fun K R hK hR => ?_; simp (maxSteps := 10000000) only [go_sem]; (try go_ints); (repeat refine And.intro side ?_); (first | refine hK _ ?_ | refine hR _ _ ?_); clear hK hR K R)
  repeat (first | refine nav ?_ | refine bo ?_)
  refine W_cond (b := !(validC vars cls)) (by simp only [go_sem]) (fun hb => ?_) (fun hb => ?_)
  · have hb : validC vars cls = false := by simpa using hb
    have hres : holdsA vars cls a = .tup [.b false, .i .i64 1] := by rw [holdsA, if_pos hb]
    rw [hres]
    repeat (first | refine nav ?_ | refine bo ?_)
    (refine wr fun K R hK hR => ?_; simp (maxSteps := 10000000) only [go_sem]; (try go_ints); (repeat refine And.intro side ?_); (first | refine hK _ ?_ | refine hR _ _ ?_); clear hK hR K R)
    repeat (first | refine nav ?_ | refine bo ?_)
    refine endQ_data (by simp only [go_sem] <;> exact rfl) (Le.of_eq ?_) rfl
    rfl
  · have hb : validC vars cls = true := by simpa using hb
    repeat (first | refine nav ?_ | refine bo ?_)
    (refine wr fun K R hK hR => ?_; simp (maxSteps := 10000000) only [go_sem]; (try go_ints); (repeat refine And.intro side ?_); (first | refine hK _ ?_ | refine hR _ _ ?_); clear hK hR K R)
    repeat (first | refine nav ?_ | refine bo ?_)
    refine W_cond (b := !((a.length : Int) == vars)) (by simp only [go_sem, bools_len] <;> rfl) (fun hb2 => ?_) (fun hb2 => ?_)
    · have hb2 : ¬ ((a.length : Int) = vars) := by simpa using hb2
      have hres : holdsA vars cls a = .tup [.b false, .i .i64 2] := by rw [holdsA, if_neg (by rw [hb]; simp), if_pos hb2]
      rw [hres]
      repeat (first | refine nav ?_ | refine bo ?_)
      (refine wr fun K R hK hR => ?_; simp (maxSteps := 10000000) only [go_sem]; (try go_ints); (repeat refine And.intro side ?_); (first | refine hK _ ?_ | refine hR _ _ ?_); clear hK hR K R)
      repeat (first | refine nav ?_ | refine bo ?_)
      refine endQ_data (by simp only [go_sem] <;> exact rfl) (Le.of_eq ?_) rfl
      rfl
    · have hb2 : (a.length : Int) = vars := by simpa using hb2
      subst hb2
      obtain ⟨hv, hlit⟩ := validC_lit hb
      have hres : holdsA a.length cls a = .tup [.b (satC cls a), .i .i64 0] := by rw [holdsA, if_neg (by rw [hb]; simp), if_neg (by simp)]
      rw [hres]
      repeat (first | refine nav ?_ | refine bo ?_)
      (refine wr fun K R hK hR => ?_; simp (maxSteps := 10000000) only [go_sem]; (try go_ints); (repeat refine And.intro side ?_); (first | refine hK _ ?_ | refine hR _ _ ?_); clear hK hR K R)
      repeat (first | refine nav ?_ | refine bo ?_)
      refine W_for 20 28 [7, 19] (fun m t o => ∃ i : Nat, o = [Ob.cells 2 [[.i .i64 a.length, .sl 1 (tups cls)]], .cells 1 [[.sl 1 (bools a)]]] ∧ t 19 = .i .i64 i ∧ m = cls.length - i ∧ i ≤ cls.length ∧ satC (cls.take i) a = true) cls.length ⟨0, rfl, by simp only [go_sem] <;> rfl, rfl, by omega, by simp [satC]⟩ ?_
      rintro m t o ⟨i, rfl, h19, rfl, hi, hok⟩
      repeat (first | refine nav ?_ | refine bo ?_)
      (refine wr fun K R hK hR => ?_; simp (maxSteps := 10000000) only [go_sem, h19]; (try go_ints); (try simp only [go_sem, h19]); (repeat refine And.intro side ?_); (first | refine hK _ ?_ | refine hR _ _ ?_); clear hK hR K R)
      repeat (first | refine nav ?_ | refine bo ?_)
      refine W_cond (by simp only [go_sem] <;> exact rfl) (fun hb => ?_) (fun hb => ?_)
      · have hb : i < cls.length := by simpa using hb
        obtain ⟨l, hl⟩ : ∃ l, cls[i]? = some l := ⟨_, List.getElem?_eq_getElem hb⟩
        have hsl := sumL_get hl
        have hs1 := hlk (i + 1)
        have hlm := hlit l (List.mem_of_getElem? hl)
        repeat (first | refine nav ?_ | refine bo ?_)
        (refine wr fun K R hK hR => ?_; simp (maxSteps := 10000000) only [go_sem, h19, tups_get hl]; (try go_ints); (try simp only [go_sem, h19, tups_get hl]); (repeat refine And.intro side ?_); (first | refine hK _ ?_ | refine hR _ _ ?_); clear hK hR K R)
        repeat (first | refine nav ?_ | refine bo ?_)
        have hall : okO [Ob.cells 2 [[.i .i64 a.length, .sl 1 (tups cls)]], .cells 1 [[.sl 1 (bools a)]]] = true := rfl
        (refine wr fun K R hK hR => ?_; simp (maxSteps := 10000000) only [go_sem]; (try go_ints); (repeat refine And.intro side ?_); (first | refine hK _ ?_ | refine hR _ _ ?_); clear hK hR K R)
        refine RL_callQ (containsInt_spec (f := 47) (caps := [.ptr 1 0 0]) hall (by simp [AV.ltk]) rfl (litB a) l (by omega) (fun x hx => holds1_ hall (i := 1) rfl (hlm x hx) hv)) (by simp only [go_sem] <;> exact rfl) rfl rfl (by simp) (by simp only [go_sem] <;> exact LeA.refl _) rfl ?_ rfl ?_
        · simp [AV.ltk, AV.ltks]
        (refine rr fun K R hK hR => ?_; simp (maxSteps := 10000000) only [go_sem]; (try go_ints); (repeat refine And.intro side ?_); (first | refine hK _ ?_ | refine hR _ _ ?_); clear hK hR K R)
        repeat (first | refine nav ?_ | refine bo ?_)
        have htk : satC (cls.take (i + 1)) a = l.any (litB a) := by
          rw [List.take_add_one, hl]
          simp only [satC, List.all_append, Option.toList_some, List.all_cons, List.all_nil, Bool.and_true]
          rw [show (cls.take i).all (fun l => l.any (litB a)) = true from hok, Bool.true_and]
        refine W_cond (b := !(l.any (litB a))) (by simp only [go_sem]) (fun hb2 => ?_) (fun hb2 => ?_)
        · repeat (first | refine nav ?_ | refine bo ?_)
          (refine wr fun K R hK hR => ?_; simp (maxSteps := 10000000) only [go_sem]; (try go_ints); (repeat refine And.intro side ?_); (first | refine hK _ ?_ | refine hR _ _ ?_); clear hK hR K R)
          repeat (first | refine nav ?_ | refine bo ?_)
          refine endQ_data (by simp only [go_sem] <;> exact rfl) (Le.of_eq ?_) rfl
          congr 3
          symm
          rw [satC, List.all_eq_false]
          exact ⟨l, List.mem_of_getElem? hl, by simpa using hb2⟩
        · repeat (first | refine nav ?_ | refine bo ?_)
          (refine wr fun K R hK hR => ?_; simp (maxSteps := 10000000) only [go_sem, h19]; (try go_ints); (try simp only [go_sem, h19]); (repeat refine And.intro side ?_); (first | refine hK _ ?_ | refine hR _ _ ?_); clear hK hR K R)
          repeat (first | refine nav ?_ | refine bo ?_)
          refine forQ_normal (cls.length - (i + 1)) (by omega) ⟨i + 1, rfl, ?_, rfl, by omega, by rw [htk]; simpa using hb2⟩
          simp only [go_sem] <;> simp
      · have hb : ¬ i < cls.length := by simpa using hb
        obtain rfl : i = cls.length := by omega
        rw [List.take_length] at hok
        repeat (first | refine nav ?_ | refine bo ?_)
        (refine wr fun K R hK hR => ?_; simp (maxSteps := 10000000) only [go_sem]; (try go_ints); (repeat refine And.intro side ?_); (first | refine hK _ ?_ | refine hR _ _ ?_); clear hK hR K R)
        repeat (first | refine nav ?_ | refine bo ?_)
        refine endQ_data (by simp only [go_sem] <;> exact rfl) (Le.of_eq ?_) rfl
        rw [hok]
end Go.AW
