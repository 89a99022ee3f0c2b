/-
The document's structures: a list of tuples is sorted.
-/
import Derived.Test.YtilaieleaiadeaaKal
import Derived.Test.YtilaieleaiadeaaKan
import Derived.Test.YtilaieleaiadeaaKag
namespace Go.AW
open Go Go.Proofs TyTry Go.IntWalk
set_option linter.unusedSimpArgs false
set_option linter.unusedVariables false
set_option maxRecDepth 10000
set_option maxHeartbeats 1000000
structure I10 (J k m : Nat) (base : List (Nat × AV)) (o1 o2 : List Ob) (d : Nat → Bool) (s : St) : Prop where
 b : ∀ x ∈ base, s.t x.1 = x.2
 f3 : s.t 3 = .ref J 0 (m + 1)
 f5 : s.t 5 = .i .i64 k
 g0 : d 0 = true → s.t 47 = .ref J 0 (m + 1)
 g1 : d 1 = true → s.t 48 = .i .i64 k
 g2 : d 2 = true → s.t 49 = .i .i64 ((k : Int) + 1)
 g3 : d 3 = true → s.t 50 = .ref J (k + 1) (m - k)
 g4 : d 4 = true → s.t 51 = .ref J 0 (m + 1)
 g5 : d 5 = true → s.t 52 = .i .i64 k
 g6 : d 6 = true → s.t 53 = .ref J k (m + 1 - k)
 o : s.o = if d 7 = true then o2 else o1
theorem reg10 {c : Code} (hc : regAt 10 (Try.f45.body.getD .skip) = some c) {Q : Exit → St → Prop} {s : St} {J k m : Nat} {base : List (Nat × AV)} {o1 : List Ob} {rows : List (List AV)}
  (hb : ∀ x ∈ base, x.1 < 47 ∨ 55 ≤ x.1) (hk : k ≤ m) (hm : m ≤ 1000000) (hJ : o1[J]? = some (.cells 1 rows)) (hl : rows.length = m + 1) (hr1 : ∀ r ∈ rows, r.length = 1) (hpl : ∀ r ∈ rows, ∀ z ∈ r, z.isOwn = false ∧ z.plain = true)
  (h0 : I10 J k m base o1 (o1.set J (.cells 1 (putRows rows (k + 1) (((rows.drop k).take (min (m - k) (m + 1 - k))).map fun r => r.getD 0 .any)))) (fun _ => false) s)
  (hend : ∀ s', I10 J k m base o1 (o1.set J (.cells 1 (putRows rows (k + 1) (((rows.drop k).take (min (m - k) (m + 1 - k))).map fun r => r.getD 0 .any)))) (fun _ => true) s' → Q .normal s') : W Try.prog 65 c Q s := by
 simp only [Try.f45, Option.getD_some, regAt, Nat.reduceEqDiff, reduceIte, Option.some.injEq] at hc
 subst hc
 generalize ho2 : o1.set J (.cells 1 (putRows rows (k + 1) (((rows.drop k).take (min (m - k) (m + 1 - k))).map fun r => r.getD 0 .any))) = o2 at h0 hend
 refine W_drawInv (by decide +kernel) (fun d s => I10 J k m base o1 o2 d s) (by decide +kernel) ?_ ?_ ?_
 ·exact ⟨h0.b, h0.f3, h0.f5, fun h => by simp at h, fun h => by simp at h, fun h => by simp at h, fun h => by simp at h, fun h => by simp at h, fun h => by simp at h, fun h => by simp at h, by simpa using h0.o⟩
 ·intro d s i o ho hd hdep hI
  obtain ⟨t, ob⟩ := s
  obtain ⟨kb, k3, k5, q0, q1, q2, q3, q4, q5, q6, ko⟩ := hI
  simp only at kb k3 k5 q0 q1 q2 q3 q4 q5 q6 ko
  have hlt := (List.getElem?_eq_some_iff.1 hJ).1
  obtain ⟨rb, hob⟩ : ∃ rb, ob[J]? = some (.cells 1 rb) := by
   rw [ko]
   split
   ·rw [← ho2]; exact ⟨_, List.getElem?_set_self hlt⟩
   ·exact ⟨_, hJ⟩
  have hmk : m + 1 - (k + 1) = m - k := by omega
  match i, ho with
  | 0, ho =>
   obtain rfl := Option.some.inj ho
   refine ⟨rfl, OpW_run [] rfl rfl fun K' hK' => ?_⟩
   simp (maxSteps := 10000000) only [go_sem, k3]
   (try go_ints)
   (repeat refine And.intro side ?_)
   refine hK' _ ?_
   clear hK' K' ho hdep
   refine ⟨fun x hx => by have hq := hb x hx; have hq2 := kb x hx; simp only [upd]; (repeat rw [if_neg (by omega)]); exact hq2, ?_, ?_, ?_, ?_, ?_, ?_, ?_, ?_, ?_, ?_⟩ <;> first | (simp [upd]; done) | (simp [upd]; assumption) | (simp_all [upd]; done)
  | 1, ho =>
   obtain rfl := Option.some.inj ho
   refine ⟨rfl, OpW_run [] rfl rfl fun K' hK' => ?_⟩
   simp (maxSteps := 10000000) only [go_sem, k5]
   (try go_ints)
   (repeat refine And.intro side ?_)
   refine hK' _ ?_
   clear hK' K' ho hdep
   refine ⟨fun x hx => by have hq := hb x hx; have hq2 := kb x hx; simp only [upd]; (repeat rw [if_neg (by omega)]); exact hq2, ?_, ?_, ?_, ?_, ?_, ?_, ?_, ?_, ?_, ?_⟩ <;> first | (simp [upd]; done) | (simp [upd]; assumption) | (simp_all [upd]; done)
  | 2, ho =>
   obtain rfl := Option.some.inj ho
   refine ⟨rfl, OpW_run [] rfl rfl fun K' hK' => ?_⟩
   simp (maxSteps := 10000000) only [go_sem, q1 (hdep 1 (by decide +kernel))]
   (try go_ints)
   (repeat refine And.intro side ?_)
   refine hK' _ ?_
   clear hK' K' ho hdep
   refine ⟨fun x hx => by have hq := hb x hx; have hq2 := kb x hx; simp only [upd]; (repeat rw [if_neg (by omega)]); exact hq2, ?_, ?_, ?_, ?_, ?_, ?_, ?_, ?_, ?_, ?_⟩ <;> first | (simp [upd]; done) | (simp [upd]; assumption) | (simp_all [upd]; done)
  | 3, ho =>
   obtain rfl := Option.some.inj ho
   refine ⟨rfl, OpW_run [] rfl rfl fun K' hK' => ?_⟩
   simp (maxSteps := 10000000) only [go_sem, q0 (hdep 0 (by decide +kernel)), q2 (hdep 2 (by decide +kernel)), hob, hmk]
   (try go_ints)
   refine And.intro (by simp; omega) ?_
   refine hK' _ ?_
   clear hK' K' ho hdep
   refine ⟨fun x hx => by have hq := hb x hx; have hq2 := kb x hx; simp only [upd]; (repeat rw [if_neg (by omega)]); exact hq2, ?_, ?_, ?_, ?_, ?_, ?_, ?_, ?_, ?_, ?_⟩ <;> first | (simp [upd]; done) | (simp [upd]; assumption) | (simp_all [upd]; done)
  | 4, ho =>
   obtain rfl := Option.some.inj ho
   refine ⟨rfl, OpW_run [] rfl rfl fun K' hK' => ?_⟩
   simp (maxSteps := 10000000) only [go_sem, k3]
   (try go_ints)
   (repeat refine And.intro side ?_)
   refine hK' _ ?_
   clear hK' K' ho hdep
   refine ⟨fun x hx => by have hq := hb x hx; have hq2 := kb x hx; simp only [upd]; (repeat rw [if_neg (by omega)]); exact hq2, ?_, ?_, ?_, ?_, ?_, ?_, ?_, ?_, ?_, ?_⟩ <;> first | (simp [upd]; done) | (simp [upd]; assumption) | (simp_all [upd]; done)
  | 5, ho =>
   obtain rfl := Option.some.inj ho
   refine ⟨rfl, OpW_run [] rfl rfl fun K' hK' => ?_⟩
   simp (maxSteps := 10000000) only [go_sem, k5]
   (try go_ints)
   (repeat refine And.intro side ?_)
   refine hK' _ ?_
   clear hK' K' ho hdep
   refine ⟨fun x hx => by have hq := hb x hx; have hq2 := kb x hx; simp only [upd]; (repeat rw [if_neg (by omega)]); exact hq2, ?_, ?_, ?_, ?_, ?_, ?_, ?_, ?_, ?_, ?_⟩ <;> first | (simp [upd]; done) | (simp [upd]; assumption) | (simp_all [upd]; done)
  | 6, ho =>
   obtain rfl := Option.some.inj ho
   refine ⟨rfl, OpW_run [] rfl rfl fun K' hK' => ?_⟩
   simp (maxSteps := 10000000) only [go_sem, q4 (hdep 4 (by decide +kernel)), q5 (hdep 5 (by decide +kernel)), hob]
   (try go_ints)
   refine And.intro (by simp; omega) ?_
   refine hK' _ ?_
   clear hK' K' ho hdep
   refine ⟨fun x hx => by have hq := hb x hx; have hq2 := kb x hx; simp only [upd]; (repeat rw [if_neg (by omega)]); exact hq2, ?_, ?_, ?_, ?_, ?_, ?_, ?_, ?_, ?_, ?_⟩ <;> first | (simp [upd]; done) | (simp [upd]; assumption) | (simp_all [upd]; done)
  | 7, ho =>
   obtain rfl := Option.some.inj ho
   simp only [hd, Bool.false_eq_true, if_false] at ko
   subst ko
   have e3 := q3 (hdep 3 (by decide +kernel))
   have e6 := q6 (hdep 6 (by decide +kernel))
   refine ⟨rfl, OpW_copy (x := 50) (y := 53) (J := J) (a := k + 1) (b := k) (n1 := m - k) (n2 := m + 1 - k) (d := 54) (rows := rows) rfl rfl rfl rfl (e := 29) (by simp only [go_sem]) (by simp only [go_sem] <;> decide) (by simp only [go_sem]) rfl (by decide) e3 e6 hJ (by omega) (by omega) hr1 hpl ?_⟩
   rw [ho2]
   refine ⟨fun x hx => by have hq := hb x hx; have hq2 := kb x hx; simp only [upd]; (repeat rw [if_neg (by omega)]); exact hq2, ?_, ?_, ?_, ?_, ?_, ?_, ?_, ?_, ?_, ?_⟩ <;> first | (simp [upd]; done) | (simp [upd]; assumption) | (simp_all [upd]; done)
  | i + 8, ho => simp at ho
 ·intro d s hd hI
  have e : ∀ i < 8, d i = true := hd
  obtain ⟨kb, k3, k5, q0, q1, q2, q3, q4, q5, q6, ko⟩ := hI
  simp only [e 7 (by omega), if_true] at ko
  exact hend s ⟨kb, k3, k5, fun _ => q0 (e 0 (by omega)), fun _ => q1 (e 1 (by omega)), fun _ => q2 (e 2 (by omega)), fun _ => q3 (e 3 (by omega)), fun _ => q4 (e 4 (by omega)), fun _ => q5 (e 5 (by omega)), fun _ => q6 (e 6 (by omega)), by simpa using ko⟩
end Go.AW
namespace Go.AW
open Go Go.Proofs TyTry Go.IntWalk
set_option linter.unusedSimpArgs false
set_option linter.unusedVariables false
set_option maxRecDepth 10000
set_option maxHeartbeats 1000000
def SoI (o : List Ob) (v : AV) (out : List (List Int)) : Prop := okO o = true ∧ ((v = .nsl ∧ out = []) ∨ ∃ J, v = .ref J 0 out.length ∧ o[J]? = some (.cells 1 (tups out)))
theorem tups_ltk (l : List (List Int)) (k : Nat) : (Ob.cells 1 (tups l)).ltk k = true := by
 simp [Ob.ltk, tups, AV.ltk]
theorem sorted_spec (l : List (List Int)) (hl : l.length ≤ 100000) (q : Nat) (hq : q ≤ 1000000) (hll : ∀ x ∈ l, x.length = q) : ACallsD Try.prog 45 [.sl 1 (tups l)] (.sl 1 (tups (sortS l))) := by
 refine ACalls_of' (n := 65) (rs := [.tmp 2]) (show Try.prog.funcs[45]? = some Try.f45 by kernel_rfl) rfl rfl rfl (by simp) (by decide +kernel) ?_
 repeat (first | refine nav ?_ | refine bo ?_)
 (refine wr fun K R hK hR => ?_; simp (maxSteps := 10000000) only [go_sem]; (try go_ints); (repeat refine And.intro side ?_); (first | refine hK _ ?_ | refine hR _ _ ?_); clear hK hR K R)
 repeat (first | refine nav ?_ | refine bo ?_)
 (refine W_reg [1000000] fun K R hK hR => ?_; simp (maxSteps := 10000000) only [go_sem]; (try go_ints); (repeat refine And.intro side ?_); (first | refine hK _ ?_ | refine hR _ _ ?_); clear hK hR K R)
 repeat (first | refine nav ?_ | refine bo ?_)
 (refine wr fun K R hK hR => ?_; simp (maxSteps := 10000000) only [go_sem]; (try go_ints); (repeat refine And.intro side ?_); (first | refine hK _ ?_ | refine hR _ _ ?_); clear hK hR K R)
 repeat (first | refine nav ?_ | refine bo ?_)
 refine W_weak (s' := ⟨mix 6 64 [3, 4, 5] (tab [(3, .nsl), (4, .i .i64 0)]) (tab [(0, .sl 1 (tups l))]), []⟩) (tab_mix (fun y hy => ?_) (fun y hy => ?_)) rfl ?_
 ·simp only [List.mem_cons, List.not_mem_nil, or_false] at hy
  rcases hy with rfl | rfl <;> rfl
 ·simp only [List.mem_cons, List.not_mem_nil, or_false] at hy
  subst hy; rfl
 refine W_forM 6 64 [3, 4, 5] (fun m t o => ∃ i : Nat, SoI o (t 3) (sortS (l.take i)) ∧ t 4 = .i .i64 i ∧ m = l.length - i ∧ i ≤ l.length) l.length ⟨0, ⟨rfl, .inl ⟨rfl, by simp [sortS]⟩⟩, rfl, rfl, by omega⟩ ?_
 rintro m t o ⟨i, hI, h4, rfl, hi⟩
 repeat (first | refine nav ?_ | refine bo ?_)
 (refine wr fun K R hK hR => ?_; simp (maxSteps := 10000000) only [go_sem, h4]; (try go_ints); (try simp only [go_sem, h4]); (repeat refine And.intro side ?_); (first | refine hK _ ?_ | refine hR _ _ ?_); clear hK hR K R)
 repeat (first | refine nav ?_ | refine bo ?_)
 refine W_cond (by simp only [go_sem] <;> exact rfl) (fun hb => ?_) (fun hb => ?_)
 ·have hb : i < l.length := by simpa using hb
  obtain ⟨x, hx⟩ : ∃ x, l[i]? = some x := ⟨_, List.getElem?_eq_getElem hb⟩
  have hxl := hll x (List.mem_of_getElem? hx)
  have hol := sortS_len l i hi
  have hou : ∀ y ∈ sortS (l.take i), y.length = q := fun y hy => hll y (List.mem_of_mem_take ((sortS_mem l i hi y).1 hy))
  have hsu := sortS_succ hx
  generalize hso : sortS (l.take i) = out at *
  obtain ⟨hok, hI⟩ := hI
  repeat (first | refine nav ?_ | refine bo ?_)
  refine W_joinS 12 14 [5] (fun t o' => o' = o ∧ t 5 = .i .i64 out.length) ?_ ?_
  ·rcases hI with ⟨e3, e0⟩ | ⟨J, e3, eJ⟩
   ·subst e0
    (refine wr fun K R hK hR => ?_; simp (maxSteps := 10000000) only [go_sem, e3]; (try go_ints); (try simp only [go_sem, e3]); (repeat refine And.intro side ?_); (first | refine hK _ ?_ | refine hR _ _ ?_); clear hK hR K R)
    exact ⟨_, rfl, rfl, rfl⟩
   ·(refine wr fun K R hK hR => ?_; simp (maxSteps := 10000000) only [go_sem, e3, eJ]; (try go_ints); (try simp only [go_sem, e3, eJ]); (repeat refine And.intro side ?_); (first | refine hK _ ?_ | refine hR _ _ ?_); clear hK hR K R)
    exact ⟨_, rfl, rfl, rfl⟩
  rintro t1 o1 ⟨e1, h5⟩
  rw [e1, mix_mix (lo := 12) (lo' := 6) rfl]
  clear e1 o1
  have hpl := posS_le out x out.length
  refine nav ?_
  refine W_joinS 14 30 [5] (fun t o' => o' = o ∧ t 5 = .i .i64 (posS out x out.length)) ?_ ?_
  ·rw [mix_self]
   repeat (first | refine nav ?_ | refine bo ?_)
   refine W_for 14 30 [5] (fun m t o' => ∃ k : Nat, o' = o ∧ t 5 = .i .i64 k ∧ m = k ∧ k ≤ out.length ∧ posS out x k = posS out x out.length) out.length ⟨out.length, rfl, by simp only [go_sem, h5], rfl, Nat.le_refl _, rfl⟩ ?_
   rintro m t2 o1 ⟨k, e1, h5k, hmk, hk, hps⟩
   subst m
   rw [e1]
   clear e1 o1
   rcases hI with ⟨e3, e0⟩ | ⟨J, e3, eJ⟩
   ·subst e0
    have hk : k = 0 := by simpa using hk
    subst hk
    repeat (first | refine nav ?_ | refine bo ?_)
    (refine W_dreg (by decide +kernel) [] [0, 1, 2, 3, 4, 5, 6, 7, 8, 9, 10, 11, 12, 13] [[], [0], [0, 1], [1, 0, 2], [1, 0, 2], [4, 2, 0, 1, 3], [3, 1, 0, 2, 4, 5], [1, 0, 2], [1, 0, 2], [2, 0, 1, 8], [8, 9, 2, 0, 1, 7], [7, 1, 0, 2, 9, 8, 10], [10, 8, 9, 7, 11, 5, 4, 2, 0, 1, 3, 6], [6, 3, 4, 5, 11, 7, 9, 8, 10, 12, 1, 0, 2]] (by decide +kernel) rfl fun K R hK hR => ?_; simp only [List.filterMap_cons, List.filterMap_nil, List.getElem?_cons_zero, List.getElem?_cons_succ, List.cons_append, List.nil_append]; simp (maxSteps := 10000000) only [go_sem, h5k, h4, e3, tups_get hx]; (try go_ints); (try simp only [go_sem, h5k, h4, e3, tups_get hx]); (repeat refine And.intro side ?_); (first | refine hK _ ?_ | refine hR _ _ ?_); clear hK hR K R)
    refine D_callDg (ac := [.sl 1 (ints x), .sl 1 (ints x)]) (r := .b (lessL x x)) rfl (by simp only [go_sem] <;> exact rfl) (fun e => less_spec x x (by omega) rfl) rfl rfl rfl (fun e => by simp at e) rfl rfl rfl rfl ?_
    (refine D_reg fun K R hK hR => ?_; simp (maxSteps := 10000000) only [go_sem]; (try go_ints); (repeat refine And.intro side ?_); (first | refine hK _ ?_ | refine hR _ _ ?_); clear hK hR K R)
    repeat (first | refine nav ?_ | refine bo ?_)
    refine W_cond (b := false) (by simp only [go_sem] <;> rfl) (fun hb => by cases hb) (fun _ => ?_)
    repeat (first | refine nav ?_ | refine bo ?_)
    refine ⟨_, rfl, rfl, ?_⟩
    simp only [go_sem, h5k] <;> rfl
   ·by_cases hk0 : k = 0
    ·subst hk0
     repeat (first | refine nav ?_ | refine bo ?_)
     (refine W_dreg (by decide +kernel) [] [0, 1, 2, 3, 4, 5, 6, 7, 8, 9, 10, 11, 12, 13] [[], [0], [0, 1], [1, 0, 2], [1, 0, 2], [4, 2, 0, 1, 3], [3, 1, 0, 2, 4, 5], [1, 0, 2], [1, 0, 2], [2, 0, 1, 8], [8, 9, 2, 0, 1, 7], [7, 1, 0, 2, 9, 8, 10], [10, 8, 9, 7, 11, 5, 4, 2, 0, 1, 3, 6], [6, 3, 4, 5, 11, 7, 9, 8, 10, 12, 1, 0, 2]] (by decide +kernel) rfl fun K R hK hR => ?_; simp only [List.filterMap_cons, List.filterMap_nil, List.getElem?_cons_zero, List.getElem?_cons_succ, List.cons_append, List.nil_append]; simp (maxSteps := 10000000) only [go_sem, h5k, h4, e3, eJ, tups_get hx]; (try go_ints); (try simp only [go_sem, h5k, h4, e3, eJ, tups_get hx]); (repeat refine And.intro side ?_); (first | refine hK _ ?_ | refine hR _ _ ?_); clear hK hR K R)
     refine D_callDg (ac := [.sl 1 (ints x), .sl 1 (ints x)]) (r := .b (lessL x x)) rfl (by simp only [go_sem] <;> exact rfl) (fun e => less_spec x x (by omega) rfl) rfl rfl rfl (fun e => by simp at e) rfl rfl rfl rfl ?_
     (refine D_reg fun K R hK hR => ?_; simp (maxSteps := 10000000) only [go_sem]; (try go_ints); (repeat refine And.intro side ?_); (first | refine hK _ ?_ | refine hR _ _ ?_); clear hK hR K R)
     repeat (first | refine nav ?_ | refine bo ?_)
     refine W_cond (b := false) (by simp only [go_sem] <;> rfl) (fun hb => by cases hb) (fun _ => ?_)
     repeat (first | refine nav ?_ | refine bo ?_)
     refine ⟨_, rfl, rfl, ?_⟩
     rw [← hps]
     simp only [go_sem, h5k, posS]
    ·obtain ⟨k', rfl⟩ : ∃ k', k = k' + 1 := ⟨k - 1, by omega⟩
     obtain ⟨y, hy⟩ : ∃ y, out[k']? = some y := ⟨_, List.getElem?_eq_getElem (by omega)⟩
     have hyl := hou y (List.mem_of_getElem? hy)
     have hkt : (((k' + 1 : Nat) : Int) - 1).toNat = k' := by omega
     have hkp : decide (((k' + 1 : Nat) : Int) > 0) = true := decide_eq_true (by omega)
     have htl : (tups out).length = out.length := tups_len _
     have hps1 : posS out x (k' + 1) = if lessL x y then posS out x k' else k' + 1 := by rw [posS, getD_of2 hy]
     repeat (first | refine nav ?_ | refine bo ?_)
     (refine W_dreg (by decide +kernel) [] [0, 1, 2, 3, 4, 5, 6, 7, 8, 9, 10, 11, 12, 13] [[], [0], [0, 1], [1, 0, 2], [1, 0, 2], [4, 2, 0, 1, 3], [3, 1, 0, 2, 4, 5], [1, 0, 2], [1, 0, 2], [2, 0, 1, 8], [8, 9, 2, 0, 1, 7], [7, 1, 0, 2, 9, 8, 10], [10, 8, 9, 7, 11, 5, 4, 2, 0, 1, 3, 6], [6, 3, 4, 5, 11, 7, 9, 8, 10, 12, 1, 0, 2]] (by decide +kernel) rfl fun K R hK hR => ?_; simp only [List.filterMap_cons, List.filterMap_nil, List.getElem?_cons_zero, List.getElem?_cons_succ, List.cons_append, List.nil_append]; simp (maxSteps := 10000000) only [go_sem, h5k, h4, e3, eJ, tups_get hx, hkt, hkp, Nat.add_sub_cancel, tups_get hy, htl]; (try go_ints); (try simp only [go_sem, h5k, h4, e3, eJ, tups_get hx, hkt, hkp, Nat.add_sub_cancel, tups_get hy, htl]); (repeat refine And.intro side ?_); (first | refine hK _ ?_ | refine hR _ _ ?_); clear hK hR K R)
     refine D_callDg (ac := [.sl 1 (ints x), .sl 1 (ints y)]) (r := .b (lessL x y)) rfl (by simp only [go_sem] <;> exact rfl) (fun e => less_spec x y (by omega) (by omega)) rfl rfl rfl (fun e => by simp only [go_sem] <;> exact LeA.refl _) rfl rfl rfl rfl ?_
     (refine D_reg fun K R hK hR => ?_; simp (maxSteps := 10000000) only [go_sem]; (try go_ints); (repeat refine And.intro side ?_); (first | refine hK _ ?_ | refine hR _ _ ?_); clear hK hR K R)
     repeat (first | refine nav ?_ | refine bo ?_)
     refine W_cond (b := lessL x y) (by simp only [go_sem] <;> rfl) (fun hb => ?_) (fun hb => ?_)
     ·rw [hb, if_pos rfl] at hps1
      repeat (first | refine nav ?_ | refine bo ?_)
      (refine wr fun K R hK hR => ?_; simp (maxSteps := 10000000) only [go_sem, h5k]; (try go_ints); (try simp only [go_sem, h5k]); (repeat refine And.intro side ?_); (first | refine hK _ ?_ | refine hR _ _ ?_); clear hK hR K R)
      repeat (first | refine nav ?_ | refine bo ?_)
      refine forQ_normal k' (by omega) ⟨k', rfl, ?_, rfl, by omega, by rw [← hps, hps1]⟩
      simp only [go_sem]
      congr 1
      omega
     ·rw [hb] at hps1
      simp only [Bool.false_eq_true, if_false] at hps1
      repeat (first | refine nav ?_ | refine bo ?_)
      refine ⟨_, rfl, rfl, ?_⟩
      rw [← hps, hps1]
      simp only [go_sem, h5k]
  rintro t2 o1 ⟨e1, h5k⟩
  rw [e1, mix_mix (lo := 14) (lo' := 6) rfl]
  clear e1 o1
  repeat (first | refine nav ?_ | refine bo ?_)
  refine W_joinS 30 44 [] (fun t o' => o' = o ∧ t 43 = .b (decide (0 < posS out x out.length ∧ out.getD (posS out x out.length - 1) [] = x))) ?_ ?_
  ·rcases hI with ⟨e3, e0⟩ | ⟨J, e3, eJ⟩
   ·subst e0
    have hk0 : posS [] x ([] : List (List Int)).length = 0 := rfl
    rw [hk0] at h5k ⊢
    (refine W_dreg (by decide +kernel) [] [0, 1, 2, 3, 4, 5, 6, 7, 8, 9, 10, 11, 12, 13] [[], [0], [0, 1], [1, 0, 2], [1, 0, 2], [2, 0, 1, 4], [4, 5, 2, 0, 1, 3], [3, 1, 0, 2, 5, 4, 6], [1, 0, 2], [1, 0, 2], [9, 2, 0, 1, 8], [8, 1, 0, 2, 9, 10], [10, 9, 8, 11, 6, 4, 5, 2, 0, 1, 3, 7], [7, 3, 5, 4, 6, 11, 8, 9, 10, 12, 1, 0, 2]] (by decide +kernel) rfl fun K R hK hR => ?_; simp only [List.filterMap_cons, List.filterMap_nil, List.getElem?_cons_zero, List.getElem?_cons_succ, List.cons_append, List.nil_append]; simp (maxSteps := 10000000) only [go_sem, h5k, h4, e3, tups_get hx]; (try go_ints); (try simp only [go_sem, h5k, h4, e3, tups_get hx]); (repeat refine And.intro side ?_); (first | refine hK _ ?_ | refine hR _ _ ?_); clear hK hR K R)
    refine D_callDg (ac := [.sl 1 (ints x), .sl 1 (ints x)]) (r := .b (decide (x = x))) rfl (by simp only [go_sem] <;> exact rfl) (fun e => equal_spec x x (by omega)) rfl rfl rfl (fun e => by simp at e) rfl rfl rfl rfl ?_
    (refine D_reg fun K R hK hR => ?_; simp (maxSteps := 10000000) only [go_sem]; (try go_ints); (repeat refine And.intro side ?_); (first | refine hK _ ?_ | refine hR _ _ ?_); clear hK hR K R)
    exact ⟨_, rfl, rfl, by simp only [go_sem] <;> rfl⟩
   ·generalize posS out x out.length = k at *
    by_cases hk0 : k = 0
    ·subst hk0
     (refine W_dreg (by decide +kernel) [] [0, 1, 2, 3, 4, 5, 6, 7, 8, 9, 10, 11, 12, 13] [[], [0], [0, 1], [1, 0, 2], [1, 0, 2], [2, 0, 1, 4], [4, 5, 2, 0, 1, 3], [3, 1, 0, 2, 5, 4, 6], [1, 0, 2], [1, 0, 2], [9, 2, 0, 1, 8], [8, 1, 0, 2, 9, 10], [10, 9, 8, 11, 6, 4, 5, 2, 0, 1, 3, 7], [7, 3, 5, 4, 6, 11, 8, 9, 10, 12, 1, 0, 2]] (by decide +kernel) rfl fun K R hK hR => ?_; simp only [List.filterMap_cons, List.filterMap_nil, List.getElem?_cons_zero, List.getElem?_cons_succ, List.cons_append, List.nil_append]; simp (maxSteps := 10000000) only [go_sem, h5k, h4, e3, eJ, tups_get hx]; (try go_ints); (try simp only [go_sem, h5k, h4, e3, eJ, tups_get hx]); (repeat refine And.intro side ?_); (first | refine hK _ ?_ | refine hR _ _ ?_); clear hK hR K R)
     refine D_callDg (ac := [.sl 1 (ints x), .sl 1 (ints x)]) (r := .b (decide (x = x))) rfl (by simp only [go_sem] <;> exact rfl) (fun e => equal_spec x x (by omega)) rfl rfl rfl (fun e => by simp at e) rfl rfl rfl rfl ?_
     (refine D_reg fun K R hK hR => ?_; simp (maxSteps := 10000000) only [go_sem]; (try go_ints); (repeat refine And.intro side ?_); (first | refine hK _ ?_ | refine hR _ _ ?_); clear hK hR K R)
     exact ⟨_, rfl, rfl, by simp only [go_sem] <;> rfl⟩
    ·obtain ⟨k', rfl⟩ : ∃ k', k = k' + 1 := ⟨k - 1, by omega⟩
     obtain ⟨y, hy⟩ : ∃ y, out[k']? = some y := ⟨_, List.getElem?_eq_getElem (by omega)⟩
     have hyl := hou y (List.mem_of_getElem? hy)
     have hkt : (((k' + 1 : Nat) : Int) - 1).toNat = k' := by omega
     have hkp : decide (((k' + 1 : Nat) : Int) > 0) = true := decide_eq_true (by omega)
     have htl : (tups out).length = out.length := tups_len _
     (refine W_dreg (by decide +kernel) [] [0, 1, 2, 3, 4, 5, 6, 7, 8, 9, 10, 11, 12, 13] [[], [0], [0, 1], [1, 0, 2], [1, 0, 2], [2, 0, 1, 4], [4, 5, 2, 0, 1, 3], [3, 1, 0, 2, 5, 4, 6], [1, 0, 2], [1, 0, 2], [9, 2, 0, 1, 8], [8, 1, 0, 2, 9, 10], [10, 9, 8, 11, 6, 4, 5, 2, 0, 1, 3, 7], [7, 3, 5, 4, 6, 11, 8, 9, 10, 12, 1, 0, 2]] (by decide +kernel) rfl fun K R hK hR => ?_; simp only [List.filterMap_cons, List.filterMap_nil, List.getElem?_cons_zero, List.getElem?_cons_succ, List.cons_append, List.nil_append]; simp (maxSteps := 10000000) only [go_sem, h5k, h4, e3, eJ, tups_get hx, hkt, hkp, Nat.add_sub_cancel, tups_get hy, htl]; (try go_ints); (try simp only [go_sem, h5k, h4, e3, eJ, tups_get hx, hkt, hkp, Nat.add_sub_cancel, tups_get hy, htl]); (repeat refine And.intro side ?_); (first | refine hK _ ?_ | refine hR _ _ ?_); clear hK hR K R)
     refine D_callDg (ac := [.sl 1 (ints y), .sl 1 (ints x)]) (r := .b (decide (y = x))) rfl (by simp only [go_sem] <;> exact rfl) (fun e => equal_spec y x (by omega)) rfl rfl rfl (fun e => by simp only [go_sem] <;> exact LeA.refl _) rfl rfl rfl rfl ?_
     (refine D_reg fun K R hK hR => ?_; simp (maxSteps := 10000000) only [go_sem]; (try go_ints); (repeat refine And.intro side ?_); (first | refine hK _ ?_ | refine hR _ _ ?_); clear hK hR K R)
     refine ⟨_, rfl, rfl, ?_⟩
     simp only [go_sem, Nat.add_sub_cancel, getD_of2 hy]
     simp
  rintro t3 o1 ⟨e1, h43⟩
  rw [e1, mix_mix (lo := 30) (lo' := 6) rfl]
  clear e1 o1
  repeat (first | refine nav ?_ | refine bo ?_)
  refine W_cond (b := decide (0 < posS out x out.length ∧ out.getD (posS out x out.length - 1) [] = x)) (by simp only [go_sem, h43]) (fun hd => ?_) (fun hd => ?_)
  ·have hd : 0 < posS out x out.length ∧ out.getD (posS out x out.length - 1) [] = x := by simpa using hd
   have hse : insS out x = out := by
    unfold insS
    simp only
    rw [if_pos hd]
   repeat (first | refine nav ?_ | refine bo ?_)
   (refine wr fun K R hK hR => ?_; simp (maxSteps := 10000000) only [go_sem, h4]; (try go_ints); (try simp only [go_sem, h4]); (repeat refine And.intro side ?_); (first | refine hK _ ?_ | refine hR _ _ ?_); clear hK hR K R)
   repeat (first | refine nav ?_ | refine bo ?_)
   refine forQ_normal (l.length - (i + 1)) (by omega) ⟨i + 1, ?_, ?_, rfl, by omega⟩
   ·rw [hsu, hse]
    refine ⟨hok, ?_⟩
    simp only [go_sem]
    exact hI
   ·simp only [go_sem] <;> simp
  ·have hd : ¬ (0 < posS out x out.length ∧ out.getD (posS out x out.length - 1) [] = x) := by simpa using hd
   have hse : insS out x = out.take (posS out x out.length) ++ x :: out.drop (posS out x out.length) := by
    unfold insS
    simp only
    rw [if_neg hd]
   repeat (first | refine nav ?_ | refine bo ?_)
   refine W_joinS 44 47 [3] (fun t o' => ∃ J, t 3 = .ref J 0 (out.length + 1) ∧ o'[J]? = some (.cells 1 (tups out ++ [[AV.nsl]])) ∧ okO o' = true) ?_ ?_
   ·have hro : rowsOk false [[AV.nsl]] = true := rfl
    rcases hI with ⟨e3, e0⟩ | ⟨J, e3, eJ⟩
    ·subst e0
     (refine W_reg [1000000] fun K R hK hR => ?_; simp (maxSteps := 10000000) only [go_sem, e3, hro]; (try go_ints); (try simp only [go_sem, e3, hro]); (repeat refine And.intro side ?_); (first | refine hK _ ?_ | refine hR _ _ ?_); clear hK hR K R)
     exact ⟨_, rfl, o.length + 1, by simp only [go_sem] <;> rfl, by simp [tups], okO_app hok rfl⟩
    ·have hJl := (List.getElem?_eq_some_iff.1 eJ).1
     have htl : (tups out).length = out.length := tups_len _
     have hJ1 := fun l => app_get l eJ
     refine W_reg [1000000] fun K R hK hR => ?_
     simp (maxSteps := 10000000) only [go_sem, e3, eJ, hJ1, hro, htl]
     refine ⟨by simp [tups]; omega, hK _ ?_⟩
     clear hK hR K R
     have htk2 : List.take out.length (tups out) = tups out := List.take_of_length_le (by omega)
     rw [htk2]
     refine ⟨_, rfl, o.length + 1, by simp only [go_sem] <;> simp, ?_, ?_⟩
     ·simp
     ·exact okO_app (okO_set (okO_app hok rfl) rfl) (by simp [Ob.ltk, AV.ltk, tups])
   rintro t4 o4 ⟨J, h3, hJ, hok4⟩
   rw [mix_mix (lo := 44) (lo' := 6) rfl]
   generalize hk : posS out x out.length = k at *
   have hJl := (List.getElem?_eq_some_iff.1 hJ).1
   have htl : (tups out ++ [[AV.nsl]]).length = out.length + 1 := by rw [List.length_append, tups_len]; rfl
   repeat (first | refine nav ?_ | refine bo ?_)
   refine reg10 (by rfl) (J := J) (k := k) (m := out.length) (base := [(0, .sl 1 (tups l)), (4, .i .i64 i)]) (o1 := o4) (rows := tups out ++ [[AV.nsl]]) ?_ hpl (by omega) hJ htl ?_ ?_ ?_ ?_
   ·intro y hy
    simp only [List.mem_cons, List.not_mem_nil, or_false] at hy
    rcases hy with rfl | rfl <;> simp
   ·intro r hr
    rcases List.mem_append.1 hr with hr | hr
    ·obtain ⟨z, _, rfl⟩ := List.mem_map.1 hr
     rfl
    ·rw [List.mem_singleton.1 hr]; rfl
   ·intro r hr z hz
    rcases List.mem_append.1 hr with hr | hr
    ·obtain ⟨z', _, rfl⟩ := List.mem_map.1 hr
     rw [List.mem_singleton.1 hz]; exact ⟨rfl, rfl⟩
    ·rw [List.mem_singleton.1 hr] at hz
     rw [List.mem_singleton.1 hz]; exact ⟨rfl, rfl⟩
   ·refine ⟨fun y hy => ?_, by simp only [go_sem, h3], by simp only [go_sem, h5k], fun h => by simp at h, fun h => by simp at h, fun h => by simp at h, fun h => by simp at h, fun h => by simp at h, fun h => by simp at h, fun h => by simp at h, rfl⟩
    simp only [List.mem_cons, List.not_mem_nil, or_false] at hy
    rcases hy with rfl | rfl
    ·simp only [go_sem]
    ·simp only [go_sem, h4]
   intro s5 hI5
   have hb2 := hI5.b
   have hs5 : s5 = ⟨s5.t, s5.o⟩ := rfl
   have hI3 := hI5.f3
   have hI5k := hI5.f5
   have hIo := hI5.o
   simp only [if_true] at hIo
   repeat (first | refine nav ?_ | refine bo ?_)
   rw [hs5, hIo]
   refine W_weak (s' := ⟨mix 6 64 [3, 4, 5] (tab [(3, .ref J 0 (out.length + 1)), (4, .i .i64 i), (5, .i .i64 k)]) (tab [(0, .sl 1 (tups l))]), _⟩) (tab_mix (fun y hy => ?_) (fun y hy => ?_)) rfl ?_
   ·simp only [List.mem_cons, List.not_mem_nil, or_false] at hy
    rcases hy with rfl | rfl | rfl
    ·exact hI3
    ·exact hb2 (4, _) (by simp)
    ·exact hI5k
   ·simp only [List.mem_cons, List.not_mem_nil, or_false] at hy
    subst hy
    exact hb2 (0, _) (by simp)
   have hrin := rows_ins (out := out) (x := x) hpl (v := .own 1 (ints x)) rfl
   rw [← hse, ← hsu] at hrin
   have hrl := putRows_len ((((tups out ++ [[AV.nsl]]).drop k).take (min (out.length - k) (out.length + 1 - k))).map fun r : List AV => r.getD 0 .any) (tups out ++ [[AV.nsl]]) (k + 1)
   have hr1 : ((putRows (tups out ++ [[AV.nsl]]) (k + 1) ((((tups out ++ [[AV.nsl]]).drop k).take (min (out.length - k) (out.length + 1 - k))).map fun r : List AV => r.getD 0 .any)).getD k []).length = 1 := by
    rw [List.getD_eq_getElem?_getD, putRows_get, if_neg (by omega)]
    by_cases h : k < out.length
    ·rw [List.getElem?_append_left (by rw [tups_len]; exact h)]
     simp [tups, h]
    ·have : k = out.length := by omega
     rw [List.getElem?_append_right (by rw [tups_len]; omega), tups_len, this]
     simp
   rw [htl] at hrl
   generalize putRows (tups out ++ [[AV.nsl]]) (k + 1) ((((tups out ++ [[AV.nsl]]).drop k).take (min (out.length - k) (out.length + 1 - k))).map fun r : List AV => r.getD 0 .any) = R at hrin hrl hr1
   have hg : (o4.set J (.cells 1 R))[J]? = some (.cells 1 R) := List.getElem?_set_self hJl
   refine W_joinN 55 64 [] (fun t o' => o' = o4.set J (.cells 1 (R.modify k fun row => row.set 0 (.own 1 (ints x))))) ?_ ?_
   ·(refine W_reg [57] fun K R hK hR => ?_; simp (maxSteps := 10000000) only [go_sem, tups_get hx, hg, hrl, hr1, and_self, if_false]; (try go_ints); (try simp only [go_sem, tups_get hx, hg, hrl, hr1, and_self, if_false]); (repeat refine And.intro side ?_); (first | refine hK _ ?_ | refine hR _ _ ?_); clear hK hR K R)
    exact ⟨_, rfl, List.set_set ..⟩
   rintro t6 o6 ho6
   rw [ho6, mix_mix (lo := 55) (lo' := 6) rfl]
   clear ho6 o6
   repeat (first | refine nav ?_ | refine bo ?_)
   refine W_unown J (sz := 1) (by exact List.getElem?_set_self hJl) ?_
   rw [hrin, List.set_set]
   (refine wr fun K R hK hR => ?_; simp (maxSteps := 10000000) only [go_sem]; (try go_ints); (repeat refine And.intro side ?_); (first | refine hK _ ?_ | refine hR _ _ ?_); clear hK hR K R)
   repeat (first | refine nav ?_ | refine bo ?_)
   have hnl : (sortS (l.take (i + 1))).length = out.length + 1 := by
    rw [hsu, hse, List.length_append, List.length_take, List.length_cons, List.length_drop]; omega
   refine forQ_normal (l.length - (i + 1)) (by omega) ⟨i + 1, ⟨okO_set hok4 (tups_ltk _ _), .inr ⟨J, ?_, List.getElem?_set_self hJl⟩⟩, ?_, rfl, by omega⟩
   ·rw [hnl]
    simp only [go_sem]
   ·simp only [go_sem] <;> simp
 ·have hb : ¬ i < l.length := by simpa using hb
  obtain rfl : i = l.length := by omega
  rw [List.take_length] at hI
  obtain ⟨hok, hI⟩ := hI
  rcases hI with ⟨e3, e0⟩ | ⟨J, e3, eJ⟩
  ·rw [e0]
   repeat (first | refine nav ?_ | refine bo ?_)
   (refine W_reg [1000000] fun K R hK hR => ?_; simp (maxSteps := 10000000) only [go_sem, e3]; (try go_ints); (try simp only [go_sem, e3]); (repeat refine And.intro side ?_); (first | refine hK _ ?_ | refine hR _ _ ?_); clear hK hR K R)
   repeat (first | refine nav ?_ | refine bo ?_)
   exact endQ_data (by simp only [go_sem] <;> exact rfl) (Le.nsl 1) rfl
  ·repeat (first | refine nav ?_ | refine bo ?_)
   (refine wr fun K R hK hR => ?_; simp (maxSteps := 10000000) only [go_sem, e3]; (try go_ints); (try simp only [go_sem, e3]); (repeat refine And.intro side ?_); (first | refine hK _ ?_ | refine hR _ _ ?_); clear hK hR K R)
   refine seqQ_normal ?_
   refine W_freeze J (sz := 1) (rows := tups (sortS l)) (by exact eJ) (by simp [tups, AV.dat, AV.ltk, AV.plain]) ?_
   have hlen : (tups (sortS l)).length = (sortS l).length := tups_len _
   have htk : List.take (sortS l).length (tups (sortS l)) = tups (sortS l) := List.take_of_length_le (by omega)
   have hd0 : (tups (sortS l)).map (fun r => r.map AV.dat) = tups (sortS l) := by simp [tups, Function.comp_def, AV.dat]
   repeat (first | refine nav ?_ | refine bo ?_)
   refine endQ_data (by simp [resAV, resL, res1, frS, AV.unref, upd, mix_at, inL, hlen, htk, hd0, ung, AV.dat] <;> exact rfl) (Le.refl _) rfl
end Go.AW
namespace Go.AW
open Go Go.Proofs TyTry Go.IntWalk
set_option linter.unusedSimpArgs false
set_option linter.unusedVariables false
set_option maxRecDepth 10000
set_option maxHeartbeats 1000000
structure CpI (oc : List Ob) (size : Int) (rs : List RelD) (i : Nat) (v : AV) (o : List Ob) : Prop where
 ok : okO o = true
 b : o[oc.length]? = some (.cells 2 [[.i .i64 size, .sl 3 (rels rs)]])
 r : o[oc.length + 1]? = some (.cells 2 [[.i .i64 0, .nsl]])
 k : o[oc.length + 2]? = some (.cells 2 [[.i .i64 size, v]])
 v : (v = .nsl ∧ i = 0) ∨ ∃ J, v = .ref J 0 i ∧ o[J]? = some (.cells 3 (rels (rs.take i))) ∧ oc.length ≤ J
 pre : ∀ (j : Nat) X, oc[j]? = some X → o[j]? = some X
theorem CpI.next {oc : List Ob} {size : Int} {rs : List RelD} {i : Nat} {v : AV} {o o1 : List Ob} (h : CpI oc size rs i v o) {T : Nat} (hok : okO o1 = true) (hp : ∀ (j : Nat) X, o[j]? = some X → (∀ l, v ≠ .ref j 0 l) → o1[j]? = some X) (hT : o1[T]? = some (.cells 3 (rels (rs.take (i + 1))))) (hTl : o.length ≤ T) :
  CpI oc size rs (i + 1) (.ref T 0 (i + 1)) (o1.set (oc.length + 2) (.cells 2 [[.i .i64 size, .ref T 0 (i + 1)]])) := by
 have lk := (List.getElem?_eq_some_iff.1 h.k).1
 have lT := (List.getElem?_eq_some_iff.1 hT).1
 have hv : ∀ (j : Nat) X, o[j]? = some X → (oc.length ≤ j → ∀ l, X ≠ .cells 3 l) → ∀ l, v ≠ .ref j 0 l := by
  intro j X hj hX l e
  rcases h.v with ⟨q, _⟩ | ⟨J, q, q2, q3⟩
  ·rw [q] at e; cases e
  ·rw [q] at e
   simp only [AV.ref.injEq] at e
   rw [e.1] at q2 q3
   rw [hj] at q2
   exact hX q3 _ (Option.some.inj q2)
 have kk := hp _ _ h.k (hv _ _ h.k fun _ l => by simp)
 have hs : ∀ (X : Ob) (j : Nat), (o1.set (oc.length + 2) X)[j]? = if j = oc.length + 2 then some X else o1[j]? := fun X j => set_get kk
 refine ⟨okO_set hok (by simp [Ob.ltk, AV.ltk, lT]), ?_, ?_, by rw [hs, if_pos rfl], .inr ⟨T, rfl, ?_, by omega⟩, fun j X hj => ?_⟩
 ·rw [hs, if_neg (by omega)]; exact hp _ _ h.b (hv _ _ h.b fun _ l => by simp)
 ·rw [hs, if_neg (by omega)]; exact hp _ _ h.r (hv _ _ h.r fun _ l => by simp)
 ·rw [hs, if_neg (by omega)]; exact hT
 ·have hjl := (List.getElem?_eq_some_iff.1 hj).1
  rw [hs, if_neg (by omega)]
  exact hp _ _ (h.pre j X hj) (hv _ _ (h.pre j X hj) fun hh => by omega)
theorem rels_ltk (l : List RelD) (k : Nat) : (Ob.cells 3 (rels l)).ltk k = true := by
 simp [Ob.ltk, rels, RelD.cells, AV.ltk]
theorem copy_spec (s : StrD) (hs : s.Ok) (h8 : s.rels.length ≤ 1000) (hne : s.rels ≠ []) (hb : ∀ r ∈ s.rels, r.tuples.length ≤ 1000000 ∧ ∀ x ∈ r.tuples, x.length ≤ 1000000) (oc : List Ob) (hoc : okO oc = true) :
  ACalls Try.prog 43 [.agg [.i .i64 s.size, .sl 3 (rels s.rels)]] oc fun r o' => ∃ J, r = .agg [.i .i64 s.size, .ref J 0 s.rels.length] ∧ o'[J]? = some (.cells 3 (rels s.rels)) ∧ okO o' = true ∧ oc.length ≤ o'.length ∧ ∀ (j : Nat) X, oc[j]? = some X → o'[j]? = some X := by
 refine ACalls_of' (n := 41) (rs := [.cell 2 24]) (show Try.prog.funcs[43]? = some Try.f43 by kernel_rfl) rfl rfl rfl (by simp) (by decide +kernel) ?_
 repeat (first | refine nav ?_ | refine bo ?_)
 (refine W_reg [1000000] fun K R hK hR => ?_; simp (maxSteps := 10000000) only [go_sem]; (try go_ints); (repeat refine And.intro side ?_); (first | refine hK _ ?_ | refine hR _ _ ?_); clear hK hR K R)
 repeat (first | refine nav ?_ | refine bo ?_)
 (refine W_reg [1000000] fun K R hK hR => ?_; simp (maxSteps := 10000000) only [go_sem]; (try go_ints); (repeat refine And.intro side ?_); (first | refine hK _ ?_ | refine hR _ _ ?_); clear hK hR K R)
 repeat (first | refine nav ?_ | refine bo ?_)
 (refine wr fun K R hK hR => ?_; simp (maxSteps := 10000000) only [go_sem]; (try go_ints); (repeat refine And.intro side ?_); (first | refine hK _ ?_ | refine hR _ _ ?_); clear hK hR K R)
 repeat (first | refine nav ?_ | refine bo ?_)
 have hokB : okO (oc ++ [Ob.cells 2 [[.i .i64 s.size, .sl 3 (rels s.rels)]], .cells 2 [[.i .i64 0, .nsl]], .cells 2 [[.i .i64 s.size, .nsl]]]) = true := okO_app hoc (by simp [Ob.ltk, AV.ltk])
 refine W_for 8 40 [4] (fun m t o => ∃ (i : Nat) (v : AV), CpI oc s.size s.rels i v o ∧ t 4 = .i .i64 i ∧ m = s.rels.length - i ∧ i ≤ s.rels.length) s.rels.length
  ⟨0, .nsl, ⟨hokB, by simp, by rw [List.getElem?_append_right (by omega)]; simp, by rw [List.getElem?_append_right (by omega)]; simp, .inl ⟨rfl, rfl⟩, fun j X h => app_get _ h⟩, by simp only [go_sem] <;> rfl, rfl, by omega⟩ ?_
 rintro m t o ⟨i, v, hI, h4, rfl, hi⟩
 have lk := (List.getElem?_eq_some_iff.1 hI.k).1
 have hrl : (rels s.rels).length = s.rels.length := by simp [rels]
 repeat (first | refine nav ?_ | refine bo ?_)
 (refine wr fun K R hK hR => ?_; simp (maxSteps := 10000000) only [go_sem, h4, hI.b, hrl]; (try go_ints); (try simp only [go_sem, h4, hI.b, hrl]); (repeat refine And.intro side ?_); (first | refine hK _ ?_ | refine hR _ _ ?_); clear hK hR K R)
 repeat (first | refine nav ?_ | refine bo ?_)
 refine W_cond (by simp only [go_sem] <;> exact rfl) (fun hb => ?_) (fun hb => ?_)
 ·have hlt : i < s.rels.length := by simpa using hb
  obtain ⟨r, hr⟩ : ∃ r, s.rels[i]? = some r := ⟨_, List.getElem?_eq_getElem hlt⟩
  obtain ⟨hbl, hbt⟩ := ‹∀ r ∈ s.rels, r.tuples.length ≤ 1000000 ∧ ∀ x ∈ r.tuples, x.length ≤ 1000000› r (List.mem_of_getElem? hr)
  have htk : rels (s.rels.take i) ++ [[.s r.name, .i .i64 r.arity, .sl 1 (tups r.tuples)]] = rels (s.rels.take (i + 1)) := by
   rw [List.take_add_one, hr]
   simp [rels, RelD.cells]
  have hkk : ∀ l, (o ++ l)[oc.length + 2]? = _ := fun l => app_get l hI.k
  have hro : rowsOk false [[AV.s r.name, AV.i .i64 r.arity, AV.sl 1 (tups r.tuples)]] = true := rfl
  repeat (first | refine nav ?_ | refine bo ?_)
  refine W_joinN 15 40 [] (fun t o' => ∃ v', CpI oc s.size s.rels (i + 1) v' o') ?_ ?_
  ·rcases hI.v with ⟨rfl, rfl⟩ | ⟨J, rfl, hJ, hJl⟩
   ·(refine W_dreg (by decide +kernel) [1000000] [0, 1, 2, 3, 4, 5, 6, 7, 8, 9, 10, 11, 12, 13, 14, 15, 16, 17, 18, 19, 20, 21, 22, 23, 24, 25] [[], [0], [], [2], [], [4, 2, 3], [3, 2, 4, 5], [5, 4, 2, 3, 6], [], [8], [], [10, 8, 9], [9, 8, 10, 11], [11, 10, 8, 9, 12], [], [14], [], [16, 14, 15], [15, 14, 16, 17], [17, 16, 14, 15, 18], [18, 15, 14, 16, 17, 19], [19, 17, 16, 14, 15, 18, 20, 12, 9, 8, 10, 11, 13, 6, 3, 2, 4, 5, 7], [7, 5, 4, 2, 3, 6, 13, 11, 10, 8, 9, 12, 20, 18, 15, 14, 16, 17, 19, 21], [21, 19, 17, 16, 14, 15, 18, 20, 12, 9, 8, 10, 11, 13, 6, 3, 2, 4, 5, 7, 22, 0, 1], [23, 22, 21, 20, 19, 18, 17, 16, 15, 14, 13, 12, 11, 10, 9, 8, 7, 6, 5, 4, 3, 2, 1, 0], [0, 1, 2, 3, 4, 5, 6, 7, 8, 9, 10, 11, 12, 13, 14, 15, 16, 17, 18, 19, 20, 21, 22, 23, 24]] (by decide +kernel) rfl fun K R hK hR => ?_; simp only [List.filterMap_cons, List.filterMap_nil, List.getElem?_cons_zero, List.getElem?_cons_succ, List.cons_append, List.nil_append]; simp (maxSteps := 10000000) only [go_sem, h4, hI.b, hI.k, rels_get hr, hrl, hro, hkk]; (try go_ints); (try simp only [go_sem, h4, hI.b, hI.k, rels_get hr, hrl, hro, hkk]); (repeat refine And.intro side ?_); (first | refine hK _ ?_ | refine hR _ _ ?_); clear hK hR K R)
    refine D_callD (copied_spec r.tuples hbl hbt) rfl rfl rfl (by first | (simp only [go_sem] <;> first | exact LeA.refl _ | exact Le.refl _) | exact LeA.refl _) rfl rfl rfl rfl ?_
    (refine D_reg fun K R hK hR => ?_; simp (maxSteps := 10000000) only [go_sem, hI.k, hro, hkk]; (try go_ints); (try simp only [go_sem, hI.k, hro, hkk]); (repeat refine And.intro side ?_); (first | refine hK _ ?_ | refine hR _ _ ?_); clear hK hR K R)
    refine ⟨_, rfl, .ref (o.length + 1) 0 1, ?_⟩
    have htk0 : [[AV.s r.name, AV.i .i64 r.arity, .sl 1 (tups r.tuples)]] = rels (s.rels.take (0 + 1)) := by rw [← htk]; rfl
    refine hI.next (o1 := o ++ [Ob.cells 3 [[.s r.name, .i .i64 r.arity, .sl 1 (tups r.tuples)]], .cells 3 [[.s r.name, .i .i64 r.arity, .sl 1 (tups r.tuples)]]]) (T := o.length + 1) (okO_app hI.ok (by simp [Ob.ltk, AV.ltk])) (fun j X hj _ => app_get _ hj) ?_ (by omega)
    rw [List.getElem?_append_right (by omega), ← htk0]
    simp
   ·have hJ1 := fun l => app_get l hJ
    have hJk : J ≠ oc.length + 2 := by intro e; rw [e, hI.k] at hJ; simp at hJ
    have hk2 : ∀ X Y : List Ob, ((o ++ X).set J .dead ++ Y)[oc.length + 2]? = _ := fun X Y => app_get Y (by rw [List.getElem?_set_ne hJk]; exact hkk X)
    have htl : (rels (s.rels.take i)).length = i := by rw [rels, List.length_map, List.length_take]; omega
    (refine W_dreg (by decide +kernel) [1000000] [0, 1, 2, 3, 4, 5, 6, 7, 8, 9, 10, 11, 12, 13, 14, 15, 16, 17, 18, 19, 20, 21, 22, 23, 24, 25] [[], [0], [], [2], [], [4, 2, 3], [3, 2, 4, 5], [5, 4, 2, 3, 6], [], [8], [], [10, 8, 9], [9, 8, 10, 11], [11, 10, 8, 9, 12], [], [14], [], [16, 14, 15], [15, 14, 16, 17], [17, 16, 14, 15, 18], [18, 15, 14, 16, 17, 19], [19, 17, 16, 14, 15, 18, 20, 12, 9, 8, 10, 11, 13, 6, 3, 2, 4, 5, 7], [7, 5, 4, 2, 3, 6, 13, 11, 10, 8, 9, 12, 20, 18, 15, 14, 16, 17, 19, 21], [21, 19, 17, 16, 14, 15, 18, 20, 12, 9, 8, 10, 11, 13, 6, 3, 2, 4, 5, 7, 22, 0, 1], [23, 22, 21, 20, 19, 18, 17, 16, 15, 14, 13, 12, 11, 10, 9, 8, 7, 6, 5, 4, 3, 2, 1, 0], [0, 1, 2, 3, 4, 5, 6, 7, 8, 9, 10, 11, 12, 13, 14, 15, 16, 17, 18, 19, 20, 21, 22, 23, 24]] (by decide +kernel) rfl fun K R hK hR => ?_; simp only [List.filterMap_cons, List.filterMap_nil, List.getElem?_cons_zero, List.getElem?_cons_succ, List.cons_append, List.nil_append]; simp (maxSteps := 10000000) only [go_sem, h4, hI.b, hI.k, rels_get hr, hrl]; (try go_ints); (try simp only [go_sem, h4, hI.b, hI.k, rels_get hr, hrl]); (repeat refine And.intro side ?_); (first | refine hK _ ?_ | refine hR _ _ ?_); clear hK hR K R)
    refine D_callD (copied_spec r.tuples hbl hbt) rfl rfl rfl (by first | (simp only [go_sem] <;> first | exact LeA.refl _ | exact Le.refl _) | exact LeA.refl _) rfl rfl rfl rfl ?_
    refine D_reg fun K R hK hR => ?_
    simp (maxSteps := 10000000) only [go_sem, hI.k, hro, hkk, hJ1, hk2, htl]
    refine ⟨?_, hK _ ?_⟩
    ·have hi2 : i ≤ 1000 := by omega
     clear hK hR K R
     simp only [Bool.and_eq_true, decide_eq_true_eq]
     refine ⟨⟨⟨by omega, by omega⟩, Nat.le_refl _⟩, ?_⟩
     rw [List.all_eq_true]
     intro z hz
     obtain ⟨z', _, rfl⟩ := List.mem_map.1 hz
     rfl
    clear hK hR K R
    have htk2 : List.take i (rels (s.rels.take i)) = rels (s.rels.take i) := List.take_of_length_le (by omega)
    rw [htk2, htk]
    refine ⟨_, rfl, .ref (o.length + 1) 0 (i + 1), ?_⟩
    have hlen : ((o ++ [Ob.cells 3 [[AV.s r.name, AV.i .i64 r.arity, .sl 1 (tups r.tuples)]]]).set J .dead).length = o.length + 1 := by simp
    refine hI.next (o1 := (o ++ [Ob.cells 3 [[.s r.name, .i .i64 r.arity, .sl 1 (tups r.tuples)]]]).set J .dead ++ [Ob.cells 3 (rels (s.rels.take (i + 1)))]) (T := o.length + 1) (okO_app (okO_set (okO_app hI.ok rfl) rfl) ?_) (fun j X hj hn => app_get _ (by rw [List.getElem?_set_ne (fun e => hn i (by rw [e]))]; exact app_get _ hj)) ?_ (by omega)
    ·rw [List.all_cons, List.all_nil, Bool.and_true]
     exact rels_ltk _ _
    ·rw [List.getElem?_append_right (by omega), hlen]
     simp
  rintro t1 o1 ⟨v1, hI1⟩
  rw [mix_mix (lo := 15) (lo' := 8) rfl]
  repeat (first | refine nav ?_ | refine bo ?_)
  (refine wr fun K R hK hR => ?_; simp (maxSteps := 10000000) only [go_sem, h4]; (try go_ints); (try simp only [go_sem, h4]); (repeat refine And.intro side ?_); (first | refine hK _ ?_ | refine hR _ _ ?_); clear hK hR K R)
  repeat (first | refine nav ?_ | refine bo ?_)
  refine forQ_normal (s.rels.length - (i + 1)) (by omega) ⟨i + 1, v1, hI1, ?_, rfl, by omega⟩
  simp only [go_sem] <;> simp
 ·have hlt : ¬ i < s.rels.length := by simpa using hb
  obtain rfl : i = s.rels.length := by omega
  rcases hI.v with ⟨_, e0⟩ | ⟨J, rfl, hJ, hJl⟩
  ·exact absurd (List.eq_nil_of_length_eq_zero e0) hne
  rw [List.take_length] at hJ
  have hne2 : J ≠ oc.length + 1 := by intro e; rw [e, hI.r] at hJ; simp at hJ
  repeat (first | refine nav ?_ | refine bo ?_)
  (refine wr fun K R hK hR => ?_; simp (maxSteps := 10000000) only [go_sem, hI.k, hI.r]; (try go_ints); (try simp only [go_sem, hI.k, hI.r]); (repeat refine And.intro side ?_); (first | refine hK _ ?_ | refine hR _ _ ?_); clear hK hR K R)
  repeat (first | refine nav ?_ | refine bo ?_)
  have hs1 : ∀ X : Ob, (o.set (oc.length + 1) X)[oc.length + 1]? = some X := fun X => List.getElem?_set_self (List.getElem?_eq_some_iff.1 hI.r).1
  have lJ := (List.getElem?_eq_some_iff.1 hJ).1
  refine endQ_all (by simp only [go_sem, hs1] <;> exact rfl) (Le.refl _) (by simp; omega) (okO_set hI.ok (by simp [Ob.ltk, AV.ltk, lJ])) (by simp [AV.ltk, AV.ltks, lJ]) ⟨J, rfl, ?_, okO_set hI.ok (by simp [Ob.ltk, AV.ltk, lJ]), by simp; omega, fun j X hj => ?_⟩
  ·rw [List.getElem?_set_ne (Ne.symm hne2)]; exact hJ
  ·have := (List.getElem?_eq_some_iff.1 hj).1
   rw [List.getElem?_set_ne (by omega)]
   exact hI.pre j X hj
end Go.AW
namespace Go.AW
open Go Go.Proofs TyTry Go.IntWalk
set_option linter.unusedSimpArgs false
set_option linter.unusedVariables false
set_option maxRecDepth 10000
set_option maxHeartbeats 1000000
def putT (l : List (List Int)) (u : List Int) : List (List Int) := sortS ((l.filter fun x => !(decide (x = u))) ++ [u])
def putE (s : StrD) (i : Nat) (u : List Int) : StrD := ⟨s.size, s.rels.modify i fun r => ⟨r.name, r.arity, putT r.tuples u⟩⟩
theorem rels_put {s : StrD} {i : Nat} {u : List Int} {r : RelD} (hr : s.rels[i]? = some r) : (rels s.rels).modify i (fun row => row.set 2 (.sl 1 (tups (putT r.tuples u)))) = rels (putE s i u).rels := by
 apply List.ext_getElem?
 intro j
 simp only [rels, putE, List.getElem?_modify, List.getElem?_map]
 by_cases e : i = j
 ·subst e
  simp [hr, RelD.cells]
 ·simp [e]
theorem rput_spec (s : StrD) (hs : s.Ok) (h8 : s.rels.length ≤ 1000) (hb : ∀ r ∈ s.rels, r.tuples.length ≤ 50000 ∧ ∀ x ∈ r.tuples, x.length ≤ 1000000) (name : ByteArray) {i : Nat} (hi : findF s name = i) {r : RelD} (hr : s.rels[i]? = some r)
  (u : List Int) (q : Nat) (hq : q ≤ 1000000) (hu : u.length = q) (hrq : ∀ x ∈ r.tuples, x.length = q) :
  ACallsD Try.prog 18 [.agg [.i .i64 s.size, .sl 3 (rels s.rels)], .s name, .sl 1 (ints u), .b true] (.agg [.i .i64 (putE s i u).size, .sl 3 (rels (putE s i u).rels)]) := by
 have hne : s.rels ≠ [] := by intro e; rw [e] at hr; cases hr
 have hil := (List.getElem?_eq_some_iff.1 hr).1
 obtain ⟨hbl, hbt⟩ := hb r (List.mem_of_getElem? hr)
 have hrl : (rels s.rels).length = s.rels.length := by simp [rels]
 refine ACalls_of' (n := 66) (rs := [.cell 8 24]) (show Try.prog.funcs[18]? = some Try.f18 by kernel_rfl) rfl rfl rfl (by simp) (by decide +kernel) ?_
 repeat (first | refine nav ?_ | refine bo ?_)
 (refine W_reg [1000000] fun K R hK hR => ?_; simp (maxSteps := 10000000) only [go_sem]; (try go_ints); (repeat refine And.intro side ?_); (first | refine hK _ ?_ | refine hR _ _ ?_); clear hK hR K R)
 repeat (first | refine nav ?_ | refine bo ?_)
 (refine wr fun K R hK hR => ?_; simp (maxSteps := 10000000) only [go_sem]; (try go_ints); (repeat refine And.intro side ?_); (first | refine hK _ ?_ | refine hR _ _ ?_); clear hK hR K R)
 refine RL_callE (copy_spec s hs h8 hne (fun r hr => ⟨by have := (hb r hr).1; omega, (hb r hr).2⟩) _ (by rfl)) (fun r' o' ⟨J, e1, e2, e3, e4, e5⟩ => ⟨e4, by rw [e1]; simp [AV.ltk, AV.ltks, (List.getElem?_eq_some_iff.1 e2).1], e3⟩) (by simp only [go_sem] <;> exact rfl) rfl rfl (by simp) (by simp only [go_sem] <;> exact LeA.refl _) (by rfl) (by simp [AV.ltk, AV.ltks]) ?_
 rintro r' o1 ⟨J, rfl, hJ, hok1, hl1, hpre⟩
 have h0 : o1[0]? = some (.cells 2 [[.i .i64 s.size, .sl 3 (rels s.rels)]]) := hpre 0 _ rfl
 have h1 : o1[1]? = some (.cells 2 [[.i .i64 0, .nsl]]) := hpre 1 _ rfl
 (refine rr fun K R hK hR => ?_; simp (maxSteps := 10000000) only [go_sem]; (try go_ints); (repeat refine And.intro side ?_); (first | refine hK _ ?_ | refine hR _ _ ?_); clear hK hR K R)
 have l1 := (List.getElem?_eq_some_iff.1 hJ).1
 have hok2 : okO (o1 ++ [Ob.cells 2 [[.i .i64 s.size, .ref J 0 s.rels.length]]]) = true := okO_app hok1 (by simp [Ob.ltk, AV.ltk]; omega)
 have g0 := app_get [Ob.cells 2 [[AV.i .i64 s.size, .ref J 0 s.rels.length]]] h0
 have g1 := app_get [Ob.cells 2 [[AV.i .i64 s.size, .ref J 0 s.rels.length]]] h1
 have gJ := app_get [Ob.cells 2 [[AV.i .i64 s.size, .ref J 0 s.rels.length]]] hJ
 have gN : (o1 ++ [Ob.cells 2 [[AV.i .i64 s.size, .ref J 0 s.rels.length]]])[o1.length]? = some (.cells 2 [[.i .i64 s.size, .ref J 0 s.rels.length]]) := by simp
 have hN1 : o1.length ≠ J := by omega
 have hN0 : o1.length ≠ 1 ∧ J ≠ 1 := by
  refine ⟨?_, ?_⟩
  ·have := (List.getElem?_eq_some_iff.1 h1).1; omega
  ·intro e; rw [e, h1] at hJ; simp at hJ
 generalize ho2 : o1 ++ [Ob.cells 2 [[AV.i .i64 s.size, .ref J 0 s.rels.length]]] = o2 at *
 generalize o1.length = N at *
 clear h0 h1 hJ hok1 hpre ho2 l1 hl1 o1
 repeat (first | refine nav ?_ | refine bo ?_)
 (refine wr fun K R hK hR => ?_; simp (maxSteps := 10000000) only [go_sem, g0]; (try go_ints); (try simp only [go_sem, g0]); (repeat refine And.intro side ?_); (first | refine hK _ ?_ | refine hR _ _ ?_); clear hK hR K R)
 refine RL_callF (find_spec s hs name) rfl rfl rfl (by first | (simp only [go_sem] <;> first | exact LeA.refl _ | exact Le.refl _) | exact LeA.refl _) rfl rfl ?_
 (refine rr fun K R hK hR => ?_; simp (maxSteps := 10000000) only [go_sem, hi]; (try go_ints); (try simp only [go_sem, hi]); (repeat refine And.intro side ?_); (first | refine hK _ ?_ | refine hR _ _ ?_); clear hK hR K R)
 repeat (first | refine nav ?_ | refine bo ?_)
 (refine wr fun K R hK hR => ?_; simp (maxSteps := 10000000) only [go_sem]; (try go_ints); (repeat refine And.intro side ?_); (first | refine hK _ ?_ | refine hR _ _ ?_); clear hK hR K R)
 repeat (first | refine nav ?_ | refine bo ?_)
 (refine wr fun K R hK hR => ?_; simp (maxSteps := 10000000) only [go_sem]; (try go_ints); (repeat refine And.intro side ?_); (first | refine hK _ ?_ | refine hR _ _ ?_); clear hK hR K R)
 repeat (first | refine nav ?_ | refine bo ?_)
 have hrr : (rels s.rels).getD i [] = [.s r.name, .i .i64 r.arity, .sl 1 (tups r.tuples)] := rels_get hr
 have hlf : ∀ k, ((r.tuples.take k).filter fun x => !(decide (x = u))).length ≤ r.tuples.length := fun k => Nat.le_trans (List.length_filter_le _ _) (by rw [List.length_take]; omega)
 refine W_for 18 53 [11, 12] (fun m t o => ∃ k : Nat, o = o2 ∧ t 11 = .own 1 (tups ((r.tuples.take k).filter fun x => !(decide (x = u)))) ∧ t 12 = .i .i64 k ∧ m = r.tuples.length - k ∧ k ≤ r.tuples.length) r.tuples.length ⟨0, rfl, by simp only [go_sem] <;> rfl, by simp only [go_sem] <;> rfl, rfl, by omega⟩ ?_
 rintro m t o ⟨k, e1, h11, h12, rfl, hk⟩
 rw [e1]
 clear e1 o
 have hlfk := hlf k
 repeat (first | refine nav ?_ | refine bo ?_)
 (refine wr fun K R hK hR => ?_; simp (maxSteps := 10000000) only [go_sem, h12, g0, hrr, hrl]; (try go_ints); (try simp only [go_sem, h12, g0, hrr, hrl]); (repeat refine And.intro side ?_); (first | refine hK _ ?_ | refine hR _ _ ?_); clear hK hR K R)
 repeat (first | refine nav ?_ | refine bo ?_)
 refine W_cond (by simp only [go_sem] <;> exact rfl) (fun hb => ?_) (fun hb => ?_)
 ·have hb2 : k < r.tuples.length := by simpa using hb
  obtain ⟨x, hx⟩ : ∃ x, r.tuples[k]? = some x := ⟨_, List.getElem?_eq_getElem hb2⟩
  have hxl := hbt x (List.mem_of_getElem? hx)
  have htl : (tups ((r.tuples.take k).filter fun x => !(decide (x = u)))).length = ((r.tuples.take k).filter fun x => !(decide (x = u))).length := tups_len _
  have htk : r.tuples.take (k + 1) = r.tuples.take k ++ [x] := by rw [List.take_add_one, hx]; rfl
  repeat (first | refine nav ?_ | refine bo ?_)
  (refine wr fun K R hK hR => ?_; simp (maxSteps := 10000000) only [go_sem, h12, g0, hrr, hrl, tups_get hx]; (try go_ints); (try simp only [go_sem, h12, g0, hrr, hrl, tups_get hx]); (repeat refine And.intro side ?_); (first | refine hK _ ?_ | refine hR _ _ ?_); clear hK hR K R)
  refine RL_callF (equal_spec x u (by omega)) rfl rfl rfl (by first | (simp only [go_sem] <;> first | exact LeA.refl _ | exact Le.refl _) | exact LeA.refl _) rfl rfl ?_
  (refine rr fun K R hK hR => ?_; simp (maxSteps := 10000000) only [go_sem]; (try go_ints); (repeat refine And.intro side ?_); (first | refine hK _ ?_ | refine hR _ _ ?_); clear hK hR K R)
  repeat (first | refine nav ?_ | refine bo ?_)
  refine W_cond (b := !(decide (x = u))) (by simp only [go_sem]) (fun hc => ?_) (fun hc => ?_)
  ·have hf : (r.tuples.take (k + 1)).filter (fun x => !(decide (x = u))) = (r.tuples.take k).filter (fun x => !(decide (x = u))) ++ [x] := by
    rw [htk, List.filter_append]
    congr 1
    simp only [List.filter_cons, hc, if_true, List.filter_nil]
   repeat (first | refine nav ?_ | refine bo ?_)
   (refine W_reg [41] fun K R hK hR => ?_; simp (maxSteps := 10000000) only [go_sem, h11, h12, g0, hrr, hrl, tups_get hx, htl]; (try go_ints); (try simp only [go_sem, h11, h12, g0, hrr, hrl, tups_get hx, htl]); (repeat refine And.intro side ?_); (first | refine hK _ ?_ | refine hR _ _ ?_); clear hK hR K R)
   repeat (first | refine nav ?_ | refine bo ?_)
   (refine wr fun K R hK hR => ?_; simp (maxSteps := 10000000) only [go_sem, h12]; (try go_ints); (try simp only [go_sem, h12]); (repeat refine And.intro side ?_); (first | refine hK _ ?_ | refine hR _ _ ?_); clear hK hR K R)
   repeat (first | refine nav ?_ | refine bo ?_)
   refine forQ_normal (r.tuples.length - (k + 1)) (by omega) ⟨k + 1, rfl, ?_, ?_, rfl, by omega⟩
   ·rw [hf, tups_snoc]
    simp only [go_sem]
   ·simp only [go_sem] <;> simp
  ·have hf : (r.tuples.take (k + 1)).filter (fun x => !(decide (x = u))) = (r.tuples.take k).filter (fun x => !(decide (x = u))) := by
    rw [htk, List.filter_append]
    simp only [List.filter_cons, hc, Bool.false_eq_true, if_false, List.filter_nil, List.append_nil]
   repeat (first | refine nav ?_ | refine bo ?_)
   (refine wr fun K R hK hR => ?_; simp (maxSteps := 10000000) only [go_sem, h12]; (try go_ints); (try simp only [go_sem, h12]); (repeat refine And.intro side ?_); (first | refine hK _ ?_ | refine hR _ _ ?_); clear hK hR K R)
   repeat (first | refine nav ?_ | refine bo ?_)
   refine forQ_normal (r.tuples.length - (k + 1)) (by omega) ⟨k + 1, rfl, ?_, ?_, rfl, by omega⟩
   ·rw [hf]
    simp only [go_sem, h11]
   ·simp only [go_sem] <;> simp
 ·have hb2 : ¬ k < r.tuples.length := by simpa using hb
  obtain rfl : k = r.tuples.length := by omega
  rw [List.take_length] at h11 hlfk
  have htl : (tups (r.tuples.filter fun x => !(decide (x = u)))).length = (r.tuples.filter fun x => !(decide (x = u))).length := tups_len _
  repeat (first | refine nav ?_ | refine bo ?_)
  (refine wr fun K R hK hR => ?_; simp (maxSteps := 10000000) only [go_sem]; (try go_ints); (repeat refine And.intro side ?_); (first | refine hK _ ?_ | refine hR _ _ ?_); clear hK hR K R)
  repeat (first | refine nav ?_ | refine bo ?_)
  refine W_cond (b := true) (by simp only [go_sem] <;> rfl) (fun _ => ?_) (fun hb => by cases hb)
  repeat (first | refine nav ?_ | refine bo ?_)
  (refine W_reg [54] fun K R hK hR => ?_; simp (maxSteps := 10000000) only [go_sem, h11, htl]; (try go_ints); (try simp only [go_sem, h11, htl]); (repeat refine And.intro side ?_); (first | refine hK _ ?_ | refine hR _ _ ?_); clear hK hR K R)
  repeat (first | refine nav ?_ | refine bo ?_)
  have hsp := sorted_spec ((r.tuples.filter fun x => !(decide (x = u))) ++ [u]) (by rw [List.length_append, List.length_singleton]; omega) q hq (fun x hx => by
   rcases List.mem_append.1 hx with hx | hx
   ·exact hrq x (List.mem_filter.1 hx).1
   ·rw [List.mem_singleton.1 hx]; exact hu)
  rw [tups_snoc] at hsp
  (refine W_dreg (by decide +kernel) [] [0, 1, 2, 3, 4, 5, 6, 7] [[], [0], [], [], [3], [4, 3, 2, 0, 1], [1, 0, 2, 3, 4, 5], [5, 4, 3, 2, 0, 1, 6]] (by decide +kernel) rfl fun K R hK hR => ?_; simp only [List.filterMap_cons, List.filterMap_nil, List.getElem?_cons_zero, List.getElem?_cons_succ, List.cons_append, List.nil_append]; simp (maxSteps := 10000000) only [go_sem, gN]; (try go_ints); (try simp only [go_sem, gN]); (repeat refine And.intro side ?_); (first | refine hK _ ?_ | refine hR _ _ ?_); clear hK hR K R)
  refine D_callD (hsp) rfl rfl rfl (by first | (simp only [go_sem] <;> first | exact LeA.refl _ | exact Le.refl _) | exact LeA.refl _) rfl rfl rfl rfl ?_
  have hrc : ((rels s.rels).getD i []).length = 3 := by rw [hrr]; rfl
  (refine D_reg fun K R hK hR => ?_; simp (maxSteps := 10000000) only [go_sem, gJ, hrl, hrc]; (try go_ints); (try simp only [go_sem, gJ, hrl, hrc]); (repeat refine And.intro side ?_); (first | refine hK _ ?_ | refine hR _ _ ?_); clear hK hR K R)
  have hjs : ∀ (X : Ob) (j : Nat), (o2.set J X)[j]? = if j = J then some X else o2[j]? := fun X j => set_get gJ
  have hput := rels_put (u := u) hr
  have hputT : sortS ((r.tuples.filter fun x => !(decide (x = u))) ++ [u]) = putT r.tuples u := rfl
  rw [hputT, hput]
  have kN : (o2.set J (.cells 3 (rels (putE s i u).rels)))[N]? = some (.cells 2 [[.i .i64 s.size, .ref J 0 s.rels.length]]) := by rw [hjs, if_neg hN1]; exact gN
  have k1 : (o2.set J (.cells 3 (rels (putE s i u).rels)))[1]? = some (.cells 2 [[.i .i64 0, .nsl]]) := by rw [hjs, if_neg (Ne.symm hN0.2)]; exact g1
  have kJ : (o2.set J (.cells 3 (rels (putE s i u).rels)))[J]? = some (.cells 3 (rels (putE s i u).rels)) := by rw [hjs, if_pos rfl]
  generalize o2.set J (.cells 3 (rels (putE s i u).rels)) = o3 at kN k1 kJ
  repeat (first | refine nav ?_ | refine bo ?_)
  (refine wr fun K R hK hR => ?_; simp (maxSteps := 10000000) only [go_sem, kN, k1]; (try go_ints); (try simp only [go_sem, kN, k1]); (repeat refine And.intro side ?_); (first | refine hK _ ?_ | refine hR _ _ ?_); clear hK hR K R)
  refine seqQ_normal ?_
  have hs3 : ∀ (X : Ob) (j : Nat), (o3.set 1 X)[j]? = if j = 1 then some X else o3[j]? := fun X j => set_get k1
  have hpd : ((rels (putE s i u).rels).map fun r => r.map AV.dat) = rels (putE s i u).rels := by
   simp [rels, Function.comp_def, RelD.cells, AV.dat]
  refine W_freeze J (sz := 3) (rows := rels (putE s i u).rels) (by simp only; rw [hs3, if_neg hN0.2]; exact kJ) (by simp [rels, RelD.cells, AV.dat, AV.ltk, AV.plain]) ?_
  repeat (first | refine nav ?_ | refine bo ?_)
  have hlr : (rels (putE s i u).rels).length = s.rels.length := by simp [rels, putE]
  have hfin : ∀ T : Nat → AV, (frS J 3 (rels (putE s i u).rels) ⟨T, o3.set 1 (.cells 2 [[.i .i64 s.size, .ref J 0 s.rels.length]])⟩).o[1]? = some (.cells 2 [[.i .i64 s.size, .sl 3 (rels (putE s i u).rels)]]) := by
   intro T
   simp only [frS, hpd]
   rw [List.getElem?_map, List.getElem?_set_ne hN0.2, hs3, if_pos rfl]
   simp only [Option.map_some, Ob.unref]
   congr 3
   simp only [List.map_cons, List.map_nil, AV.unref, hlr, Nat.zero_add, Nat.le_refl, and_self, if_true, List.drop_zero, List.take_of_length_le (Nat.le_of_eq hlr)]
  have ht : ∀ S : St, S.t 8 = .ptr 1 0 0 → S.o[1]? = some (.cells 2 [[.i .i64 s.size, .sl 3 (rels (putE s i u).rels)]]) → resAV Try.prog [.cell 8 24] S = some (.agg [.i .i64 s.size, .sl 3 (rels (putE s i u).rels)]) := by
   intro S a b
   simp only [resAV, res1, a, go_sem, b]
  refine endQ_data (ht _ ?_ (hfin _)) (Le.refl _) rfl
  simp only [frS, go_sem, AV.unref]
end Go.AW
namespace Go.AW
open Go Go.Proofs TyTry Go.IntWalk
set_option linter.unusedSimpArgs false
set_option linter.unusedVariables false
set_option maxRecDepth 10000
theorem edges_spec : ACallsD Try.prog 35 [] (.agg [.s ⟨#[69]⟩, .i .i64 2]) := by
 refine ACalls_of' (n := 2) (rs := [.cell 0 68]) (show Try.prog.funcs[35]? = some Try.f35 by kernel_rfl) rfl rfl rfl (by simp) (by decide +kernel) ?_
 repeat (first | refine nav ?_ | refine bo ?_)
 (refine wr fun K R hK hR => ?_; simp (maxSteps := 10000000) only [go_sem]; (try go_ints); (repeat refine And.intro side ?_); (first | refine hK _ ?_ | refine hR _ _ ?_); clear hK hR K R)
 repeat (first | refine nav ?_ | refine bo ?_)
 (refine wr fun K R hK hR => ?_; simp (maxSteps := 10000000) only [go_sem]; (try go_ints); (repeat refine And.intro side ?_); (first | refine hK _ ?_ | refine hR _ _ ?_); clear hK hR K R)
 repeat (first | refine nav ?_ | refine bo ?_)
 refine endQ_data (by simp only [go_sem] <;> exact rfl) (Le.of_eq ?_) rfl
 rfl
end Go.AW
namespace Go.AW
open Go Go.Proofs TyTry Go.IntWalk
set_option linter.unusedSimpArgs false
set_option linter.unusedVariables false
set_option maxRecDepth 10000
section
variable {may : Nat → Nat → Bool} {next : List (List Int)} {all was : List Bool} {d : Int} {r : List Int} {k : Nat}
end
end Go.AW
namespace Go.AW
open Go Go.Proofs TyTry Go.IntWalk
set_option linter.unusedSimpArgs false
set_option linter.unusedVariables false
set_option maxRecDepth 10000
def mat (l : List (List Bool)) : List (List AV) := l.map fun r => [.sl 1 (bools r)]
theorem mat_len (l : List (List Bool)) : (mat l).length = l.length := by simp [mat]
attribute [go_sem] mat_len
def eB (s : StrD) (x y : Nat) : Bool := decide ([(x : Int), (y : Int)] ∈ tupsOf s ⟨#[69]⟩)
end Go.AW
namespace Go.AW
open Go Go.Proofs TyTry Go.IntWalk
set_option linter.unusedSimpArgs false
set_option linter.unusedVariables false
set_option maxRecDepth 10000
structure GOk (n c : Nat) (g : GD) : Prop where
 l1 : g.1.length = n
 l2 : g.2.length = n
 el : ∀ l ∈ g.1, l.length ≤ c ∧ ∀ x ∈ l, 0 ≤ x ∧ x < n
theorem gT_ok {n c : Nat} {r : RelD} {g : GD} {t : List Int} (h : GOk n c g) (h1 : (t.length : Int) = r.arity) (h2 : ∀ x ∈ t, 0 ≤ x ∧ x < (n : Int)) : GOk n (c + 1) (gT r g t) := by
 refine ⟨(gT_len r g t).1.trans h.l1, (gT_len r g t).2.trans h.l2, ?_⟩
 unfold gT
 split
 ·rename_i hE
  intro l hl
  rcases mem_modify hl with hq | ⟨r0, hq, rfl⟩
  ·exact ⟨by have := (h.el l hq).1; omega, (h.el l hq).2⟩
  ·refine ⟨by have := (h.el r0 hq).1; simp only [List.length_append, List.length_cons, List.length_nil]; omega, fun x hx => ?_⟩
   rcases List.mem_append.1 hx with hx | hx
   ·exact (h.el r0 hq).2 x hx
   ·simp only [List.mem_singleton] at hx
    subst hx
    simp only [isE, Bool.and_eq_true, beq_iff_eq] at hE
    rw [hE.2] at h1
    match t, h1 with
    | [x0, x1], _ => exact h2 x1 (by simp)
    | [], h => simp at h
    | [_], h => simp at h
    | _ :: _ :: _ :: _, h => simp at h; omega
 ·split
  ·exact fun l hl => ⟨by have := (h.el l hl).1; omega, (h.el l hl).2⟩
  ·exact fun l hl => ⟨by have := (h.el l hl).1; omega, (h.el l hl).2⟩
theorem gTs_ok {n : Nat} {r : RelD} : ∀ (ts : List (List Int)) {c : Nat} {g : GD}, GOk n c g → (∀ t ∈ ts, (t.length : Int) = r.arity ∧ ∀ x ∈ t, 0 ≤ x ∧ x < (n : Int)) → GOk n (c + ts.length) (ts.foldl (gT r) g)
 | [], c, g, h, _ => h
 | t :: ts, c, g, h, h1 => by
  have := gTs_ok ts (gT_ok h (h1 t (by simp)).1 (h1 t (by simp)).2) (fun x hx => h1 x (by simp [hx]))
  rw [List.length_cons, show c + (ts.length + 1) = c + 1 + ts.length by omega]
  exact this
def tupN (l : List RelD) : Nat := (l.map fun r => r.tuples.length).sum
theorem gRs_ok {n : Nat} : ∀ (rs : List RelD) {c : Nat} {g : GD}, GOk n c g → (∀ r ∈ rs, ∀ t ∈ r.tuples, (t.length : Int) = r.arity ∧ ∀ x ∈ t, 0 ≤ x ∧ x < (n : Int)) → GOk n (c + tupN rs) (rs.foldl gR g)
 | [], c, g, h, _ => h
 | r :: rs, c, g, h, h1 => by
  have := gRs_ok rs (gTs_ok r.tuples h (h1 r (by simp))) (fun x hx => h1 x (by simp [hx]))
  rw [tupN, List.map_cons, List.sum_cons, ← Nat.add_assoc]
  exact this
theorem graphD_ok {s : StrD} (hv : validF s = true) : GOk s.size.toNat (tupN s.rels) (graphD s) := by
 obtain ⟨z1, z2, z3⟩ := valid_size hv
 have := gRs_ok (n := s.size.toNat) s.rels (c := 0) (g := (List.replicate s.size.toNat [], List.replicate s.size.toNat false))
  ⟨by simp, by simp, fun l hl => by simp only [List.mem_replicate] at hl; simp [hl.2]⟩
  (fun r hr t ht => by
   obtain ⟨a, b⟩ := valid_tuple hv hr ht
   exact ⟨a, fun x hx => by have := b x hx; omega⟩)
 simpa [graphD] using this
end Go.AW
namespace Go.AW
open Go Go.Proofs TyTry Go.IntWalk
set_option linter.unusedSimpArgs false
set_option linter.unusedVariables false
theorem gT_E {r : RelD} (hE : isE r = true) (g : GD) (t : List Int) : gT r g t = (g.1.modify (t.getD 0 0).toNat (· ++ [t.getD 1 0]), g.2) := by
 simp [gT, hE]
theorem gT_noE {r : RelD} (hE : isE r = false) (g : GD) (t : List Int) : (gT r g t).1 = g.1 := by
 unfold gT
 rw [if_neg (by simp [hE])]
 split <;> rfl
theorem gTs_noE {r : RelD} (hE : isE r = false) : ∀ (ts : List (List Int)) (g : GD), (ts.foldl (gT r) g).1 = g.1
 | [], _ => rfl
 | t :: ts, g => by rw [List.foldl_cons, gTs_noE hE ts, gT_noE hE]
theorem gTs_E {r : RelD} (hE : isE r = true) : ∀ (ts : List (List Int)) (g : GD) (x : Nat), x < g.1.length →
  (ts.foldl (gT r) g).1.getD x [] = g.1.getD x [] ++ (ts.filter fun t => (t.getD 0 0).toNat == x).map fun t => t.getD 1 0
 | [], g, x, hx => by simp
 | t :: ts, g, x, hx => by
  have hl : x < (gT r g t).1.length := by rw [(gT_len r g t).1]; exact hx
  rw [List.foldl_cons, gTs_E hE ts (gT r g t) x hl, gT_E hE]
  simp only [List.filter_cons]
  by_cases h : (t.getD 0 0).toNat = x
  ·rw [if_pos (by simpa using h), List.map_cons]
   have : (g.1.modify (t.getD 0 0).toNat (· ++ [t.getD 1 0])).getD x [] = g.1.getD x [] ++ [t.getD 1 0] := by
    rw [List.getD_eq_getElem?_getD, List.getElem?_modify, List.getD_eq_getElem?_getD, List.getElem?_eq_getElem hx]
    rw [List.getD_eq_getElem?_getD] at h
    simp [h, List.getElem?_eq_getElem hx]
   rw [this, List.append_assoc]; rfl
  ·rw [if_neg (by simpa using h)]
   have : (g.1.modify (t.getD 0 0).toNat (· ++ [t.getD 1 0])).getD x [] = g.1.getD x [] := by
    rw [List.getD_eq_getElem?_getD, List.getElem?_modify, List.getD_eq_getElem?_getD, List.getElem?_eq_getElem hx]
    rw [List.getD_eq_getElem?_getD] at h
    simp [h, List.getElem?_eq_getElem hx]
   rw [this]
theorem gRs_noE : ∀ (rs : List RelD) (g : GD), (∀ r ∈ rs, isE r = false) → (rs.foldl gR g).1 = g.1
 | [], _, _ => rfl
 | r :: rs, g, h => by
  rw [List.foldl_cons, gRs_noE rs (gR g r) fun q hq => h q (by simp [hq])]
  exact gTs_noE (h r (by simp)) r.tuples g
theorem gR_len (g : GD) (r : RelD) : (gR g r).1.length = g.1.length := by
 have : ∀ (ts : List (List Int)) (g : GD), (ts.foldl (gT r) g).1.length = g.1.length := by
  intro ts
  induction ts with
  | nil => intro g; rfl
  | cons t ts ih => intro g; rw [List.foldl_cons, ih, (gT_len r g t).1]
 exact this r.tuples g
theorem gRs_E : ∀ (rs : List RelD) (g : GD) (j : Nat) (q : RelD), rs[j]? = some q → isE q = true → (∀ (i : Nat) r, rs[i]? = some r → i ≠ j → isE r = false) → ∀ x : Nat, x < g.1.length →
  (rs.foldl gR g).1.getD x [] = g.1.getD x [] ++ (q.tuples.filter fun t => (t.getD 0 0).toNat == x).map fun t => t.getD 1 0
 | [], _, j, q, h, _, _, _, _ => by simp at h
 | r :: rs, g, 0, q, h, hE, hno, x, hx => by
  simp only [List.getElem?_cons_zero, Option.some.injEq] at h
  subst h
  rw [List.foldl_cons, gRs_noE rs (gR g r) fun p hp => by
   obtain ⟨i, hi⟩ := List.getElem?_of_mem hp
   exact hno (i + 1) p (by simpa using hi) (by omega)]
  exact gTs_E hE r.tuples g x hx
 | r :: rs, g, j + 1, q, h, hE, hno, x, hx => by
  have hr : isE r = false := hno 0 r rfl (by omega)
  rw [List.foldl_cons, gRs_E rs (gR g r) j q (by simpa using h) hE (fun i p hi hne => hno (i + 1) p (by simpa using hi) (by omega)) x (by rw [gR_len]; exact hx)]
  rw [show (gR g r).1 = g.1 from gTs_noE hr r.tuples g]
theorem names_uniq {s : StrD} (hv : validF s = true) : ∀ (i j : Nat) (p q : RelD), i < j → s.rels[i]? = some p → s.rels[j]? = some q → (p.name.toList == q.name.toList) = false := by
 intro i j p q hij hp hq
 simp only [validF, Bool.and_eq_true, List.all_eq_true, List.mem_range] at hv
 have h1 := hv.2 j (List.getElem?_eq_some_iff.1 hq).1
 rw [hq] at h1
 simp only [Bool.and_eq_true, Bool.not_eq_true', List.any_eq_false] at h1
 have := h1.2 p (List.mem_of_getElem? (i := i) (by rw [List.getElem?_take, if_pos hij]; exact hp))
 simpa using this
theorem nextE {s : StrD} (hv : validF s = true) (hf : fitsR symsE s = true) (x : Nat) (hx : x < s.size.toNat) :
  (graphD s).1.getD x [] = ((tupsOf s ⟨#[69]⟩).filter fun t => (t.getD 0 0).toNat == x).map fun t => t.getD 1 0 := by
 obtain ⟨j, q, e1, e2, e3, e4, e5⟩ := fitsR_one hf
 simp only at e1 e3 e4 e5
 have hE : isE q = true := by
  rw [isE, e3, e4]; rfl
 rw [e5, graphD, gRs_E s.rels _ j q e2 hE (fun i r hi hne => ?_) x (by simpa using hx)]
 ·have : (List.replicate s.size.toNat ([] : List Int)).getD x [] = [] := by
   rw [List.getD_eq_getElem?_getD, List.getElem?_replicate]
   split <;> rfl
  rw [this, List.nil_append]
 ·cases hr : isE r with
  | false => rfl
  | true =>
   exfalso
   rw [isE, Bool.and_eq_true] at hr
   have hn1 : r.name.toList = (⟨#[69]⟩ : ByteArray).toList := by simpa using hr.1
   have hn2 : q.name.toList = (⟨#[69]⟩ : ByteArray).toList := by simpa using e3
   rcases Nat.lt_or_gt_of_ne hne with h | h
   ·have := names_uniq hv i j r q h hi e2
    rw [hn1, hn2] at this
    simp at this
   ·have := names_uniq hv j i q r h e2 hi
    rw [hn1, hn2] at this
    simp at this
theorem tupsE {s : StrD} (hv : validF s = true) (hf : fitsR symsE s = true) : ∀ t ∈ tupsOf s ⟨#[69]⟩, ∃ x y : Nat, t = [(x : Int), (y : Int)] ∧ x < s.size.toNat ∧ y < s.size.toNat := by
 obtain ⟨j, q, e1, e2, e3, e4, e5⟩ := fitsR_one hf
 simp only at e4 e5
 rw [e5]
 intro t ht
 obtain ⟨h1, h2⟩ := valid_tuple hv (List.mem_of_getElem? e2) ht
 rw [e4] at h1
 match t, h1 with
 | [a, b], _ =>
  obtain ⟨a0, a1⟩ := h2 a (by simp)
  obtain ⟨b0, b1⟩ := h2 b (by simp)
  obtain ⟨a, rfl⟩ := Int.eq_ofNat_of_zero_le a0
  obtain ⟨b, rfl⟩ := Int.eq_ofNat_of_zero_le b0
  exact ⟨a, b, rfl, by omega, by omega⟩
 | [], h => simp at h
 | [_], h => simp at h
 | _ :: _ :: _ :: _, h => simp at h; omega
theorem row_mem {s : StrD} (hv : validF s = true) (hf : fitsR symsE s = true) (x : Nat) (hx : x < s.size.toNat) (y : Int) :
  y ∈ (graphD s).1.getD x [] ↔ [(x : Int), y] ∈ tupsOf s ⟨#[69]⟩ := by
 rw [nextE hv hf x hx, List.mem_map]
 constructor
 ·rintro ⟨t, ht, rfl⟩
  rw [List.mem_filter] at ht
  obtain ⟨a, b, rfl, _, _⟩ := tupsE hv hf t ht.1
  have : a = x := by simpa using ht.2
  subst this
  exact ht.1
 ·intro h
  exact ⟨_, List.mem_filter.2 ⟨h, by simp⟩, rfl⟩
theorem row_eB {s : StrD} (hv : validF s = true) (hf : fitsR symsE s = true) (x y : Nat) (hx : x < s.size.toNat) : ((y : Int) ∈ (graphD s).1.getD x []) ↔ eB s x y = true := by
 rw [row_mem hv hf x hx, eB, decide_eq_true_eq]
def lexR (t u : List Int) : Prop := t.getD 0 0 < u.getD 0 0 ∨ (t.getD 0 0 = u.getD 0 0 ∧ t.getD 1 0 < u.getD 1 0)
theorem lexR_trans {a b c : List Int} (h : lexR a b) (k : lexR b c) : lexR a c := by
 unfold lexR at *
 omega
theorem cmp_lex {a b c d : Int} (h : cmpL [a, b] [c, d] < 0) : lexR [a, b] [c, d] := by
 simp only [cmpL, cmpF] at h
 simp only [lexR, List.getD_cons_zero, List.getD_cons_succ]
 by_cases h1 : a < c
 ·exact .inl h1
 ·by_cases h2 : a = c
  ·subst h2
   simp at h
   right
   refine ⟨rfl, ?_⟩
   by_cases h3 : b < d
   ·exact h3
   ·exfalso
    by_cases h4 : b = d
    ·simp [h4] at h
    ·simp [h3, h4] at h; omega
  ·exfalso
   simp [h1, h2] at h
   omega
theorem tups_sorted {s : StrD} (hv : validF s = true) (hf : fitsR symsE s = true) : (tupsOf s ⟨#[69]⟩).Pairwise lexR := by
 have hpair := tupsE hv hf
 obtain ⟨j, q, e1, e2, e3, e4, e5⟩ := fitsR_one hf
 simp only at e5
 rw [e5] at hpair ⊢
 have hadj : ∀ (i : Nat) (t u : List Int), q.tuples[i]? = some t → q.tuples[i + 1]? = some u → lexR t u := by
  intro i t u ht hu
  have hv' := hv
  simp only [validF, Bool.and_eq_true, List.all_eq_true, List.mem_range] at hv'
  have h1 := hv'.2 j (List.getElem?_eq_some_iff.1 e2).1
  rw [e2] at h1
  simp only [Bool.and_eq_true, relOk, tuplesF, List.all_eq_true, List.mem_range] at h1
  have h2 := h1.1.2 (i + 1) (List.getElem?_eq_some_iff.1 hu).1
  simp only [tupOk, List.getD_eq_getElem?_getD, Nat.add_sub_cancel, ht, hu, Option.getD_some, Bool.and_eq_true, Bool.or_eq_true, decide_eq_true_eq] at h2
  obtain ⟨a, b, rfl, _, _⟩ := hpair t (List.mem_of_getElem? ht)
  obtain ⟨c, d, rfl, _, _⟩ := hpair u (List.mem_of_getElem? hu)
  rcases h2.2 with h | h
  ·omega
  ·exact cmp_lex h
 rw [List.pairwise_iff_getElem]
 have key : ∀ (k i : Nat) (t u : List Int), q.tuples[i]? = some t → q.tuples[i + k + 1]? = some u → lexR t u := by
  intro k
  induction k with
  | zero => intro i t u ht hu; exact hadj i t u ht hu
  | succ k ih =>
   intro i t u ht hu
   have hlt := (List.getElem?_eq_some_iff.1 hu).1
   obtain ⟨w, hw⟩ : ∃ w, q.tuples[i + k + 1]? = some w := ⟨_, List.getElem?_eq_getElem (by omega)⟩
   exact lexR_trans (ih i t w ht hw) (hadj (i + k + 1) w u hw hu)
 intro i j hi hj hij
 exact key (j - i - 1) i _ _ (List.getElem?_eq_getElem hi) (by rw [show i + (j - i - 1) + 1 = j by omega]; exact List.getElem?_eq_getElem hj)
theorem row_sorted {s : StrD} (hv : validF s = true) (hf : fitsR symsE s = true) (x : Nat) (hx : x < s.size.toNat) : ((graphD s).1.getD x []).Pairwise (· < ·) := by
 rw [nextE hv hf x hx, List.pairwise_map]
 refine List.Pairwise.imp_of_mem ?_ ((tups_sorted hv hf).filter _)
 intro t u ht hu h
 rw [List.mem_filter] at ht hu
 obtain ⟨a, b, rfl, _, _⟩ := tupsE hv hf t ht.1
 obtain ⟨c, d, rfl, _, _⟩ := tupsE hv hf u hu.1
 have h1 : a = x := by simpa using ht.2
 have h2 : c = x := by simpa using hu.2
 subst h1 h2
 simp only [lexR, List.getD_cons_zero, List.getD_cons_succ] at h ⊢
 omega
theorem sorted_ext : ∀ {a b : List Int}, a.Pairwise (· < ·) → b.Pairwise (· < ·) → (∀ y, y ∈ a ↔ y ∈ b) → a = b
 | [], [], _, _, _ => rfl
 | [], y :: b, _, _, h => by have := (h y).2 (by simp); simp at this
 | x :: a, [], _, _, h => by have := (h x).1 (by simp); simp at this
 | x :: a, y :: b, ha, hb, h => by
  rw [List.pairwise_cons] at ha hb
  have hxy : x = y := by
   have h1 := (h x).1 (by simp)
   have h2 := (h y).2 (by simp)
   rcases List.mem_cons.1 h1 with e | e
   ·exact e
   ·rcases List.mem_cons.1 h2 with e' | e'
    ·exact e'.symm
    ·have := ha.1 y e'
     have := hb.1 x e
     omega
  subst hxy
  congr 1
  refine sorted_ext ha.2 hb.2 fun z => ?_
  have := h z
  simp only [List.mem_cons] at this
  constructor
  ·intro hz
   rcases this.1 (.inr hz) with e | e
   ·subst e; exact absurd (ha.1 z hz) (by omega)
   ·exact e
  ·intro hz
   rcases this.2 (.inr hz) with e | e
   ·subst e; exact absurd (hb.1 z hz) (by omega)
   ·exact e
theorem row_eq {s : StrD} (hv : validF s = true) (hf : fitsR symsE s = true) (x : Nat) (hx : x < s.size.toNat) :
  (graphD s).1.getD x [] = ((List.range s.size.toNat).filter fun y => eB s x y).map fun y : Nat => (y : Int) := by
 refine sorted_ext (row_sorted hv hf x hx) ?_ fun y => ?_
 ·rw [List.pairwise_map]
  refine List.Pairwise.imp ?_ ((List.pairwise_lt_range).filter _)
  intro a b h
  exact_mod_cast h
 ·rw [List.mem_map]
  constructor
  ·intro h
   rw [row_mem hv hf x hx] at h
   obtain ⟨a, b, e, ha, hb⟩ := tupsE hv hf _ h
   simp only [List.cons.injEq, and_true] at e
   obtain ⟨_, rfl⟩ := e
   exact ⟨b, List.mem_filter.2 ⟨List.mem_range.2 hb, decide_eq_true h⟩, rfl⟩
  ·rintro ⟨b, hb, rfl⟩
   rw [List.mem_filter] at hb
   exact (row_eB hv hf x b hx).2 hb.2
end Go.AW
namespace Go.AW
open Go Go.Proofs TyTry Go.IntWalk
set_option linter.unusedSimpArgs false
set_option linter.unusedVariables false
set_option maxRecDepth 10000
def inF : List (List Int) → Int → Int
 | [], c => c
 | t :: ts, c => if c ≤ 20000 then inF ts (c + 1 + t.length) else c
def outF : Nat → List RelD → Int → Int
 | 0, _, c => c
 | _, [], c => c
 | f + 1, r :: rs, c => outF f rs (inF r.tuples (c + r.name.size))
def broadF (s : StrD) : Bool := decide ((s.rels.length : Int) > 50) || decide (outF 100 s.rels 0 > 20000)
theorem inF_ge : ∀ (ts : List (List Int)) (c : Int), c ≤ inF ts c
 | [], c => Int.le_refl _
 | t :: ts, c => by
  rw [inF]
  split
  ·have := inF_ge ts (c + 1 + t.length); omega
  ·exact Int.le_refl _
theorem inF_sum : ∀ (ts : List (List Int)) (c : Int), inF ts c ≤ 20000 → c + ts.length ≤ inF ts c ∧ ∀ t ∈ ts, 0 ≤ c → (t.length : Int) ≤ 20000
 | [], c, h => by simp [inF]
 | t :: ts, c, h => by
  rw [inF] at h ⊢
  split at h
  ·rename_i hc
   rw [if_pos hc]
   obtain ⟨a, b⟩ := inF_sum ts _ h
   refine ⟨by simp only [List.length_cons]; omega, fun x hx h0 => ?_⟩
   rcases List.mem_cons.1 hx with rfl | hx
   ·omega
   ·exact b x hx (by omega)
  ·omega
theorem outF_ge : ∀ (f : Nat) (rs : List RelD) (c : Int), c ≤ outF f rs c
 | 0, _, c => Int.le_refl _
 | _ + 1, [], c => Int.le_refl _
 | f + 1, r :: rs, c => by
  rw [outF]
  have := outF_ge f rs (inF r.tuples (c + r.name.size))
  have := inF_ge r.tuples (c + r.name.size)
  omega
theorem outF_sum : ∀ (f : Nat) (rs : List RelD) (c : Int), rs.length ≤ f → outF f rs c ≤ 20000 → 0 ≤ c → c + tupN rs ≤ 20000 ∧ ∀ r ∈ rs, (r.name.size : Int) ≤ 20000 ∧ (r.tuples.length : Int) ≤ 20000 ∧ ∀ t ∈ r.tuples, (t.length : Int) ≤ 20000
 | _, [], c, _, h, h0 => by
  have := outF_ge ‹_› [] c
  exact ⟨by simp [tupN]; omega, fun r hr => by simp at hr⟩
 | 0, _ :: _, _, hl, _, _ => by simp at hl
 | f + 1, r :: rs, c, hl, h, h0 => by
  rw [outF] at h
  have h1 := outF_ge f rs (inF r.tuples (c + r.name.size))
  have h2 := inF_ge r.tuples (c + r.name.size)
  obtain ⟨a, b⟩ := inF_sum r.tuples (c + r.name.size) (by omega)
  obtain ⟨a', b'⟩ := outF_sum f rs _ (by simpa using hl) h (by omega)
  refine ⟨?_, fun x hx => ?_⟩
  ·simp only [tupN, List.map_cons, List.sum_cons] at a' ⊢
   omega
  ·rcases List.mem_cons.1 hx with rfl | hx
   ·exact ⟨by omega, by omega, fun t ht => b t ht (by omega)⟩
   ·exact b' x hx
theorem broad_ok {s : StrD} (h : broadF s = false) : s.Ok ∧ tupN s.rels ≤ 20000 := by
 simp only [broadF, Bool.or_eq_false_iff, decide_eq_false_iff_not] at h
 obtain ⟨a, b⟩ := outF_sum 100 s.rels 0 (by omega) (by omega) (Int.le_refl _)
 refine ⟨⟨by omega, fun r hr => ?_⟩, by omega⟩
 obtain ⟨b1, b2, b3⟩ := b r hr
 exact ⟨by omega, by omega, fun t ht => by have := b3 t ht; omega⟩
theorem broad_spec (s : StrD) (hs : s.Wide) : ACallsD Try.prog 8 [.agg [.i .i64 s.size, .sl 3 (rels s.rels)]] (.b (broadF s)) := by
 refine ACalls_of' (n := 62) (rs := [.tmp 2]) (show Try.prog.funcs[8]? = some Try.f8 by kernel_rfl) rfl rfl rfl (by simp) (by decide +kernel) ?_
 repeat (first | refine nav ?_ | refine bo ?_)
 (refine wr fun K R hK hR => ?_; simp (maxSteps := 10000000) only [go_sem]; (try go_ints); (repeat refine And.intro side ?_); (first | refine hK _ ?_ | refine hR _ _ ?_); clear hK hR K R)
 repeat (first | refine nav ?_ | refine bo ?_)
 (refine wr fun K R hK hR => ?_; simp (maxSteps := 10000000) only [go_sem]; (try go_ints); (repeat refine And.intro side ?_); (first | refine hK _ ?_ | refine hR _ _ ?_); clear hK hR K R)
 repeat (first | refine nav ?_ | refine bo ?_)
 (refine wr fun K R hK hR => ?_; simp (maxSteps := 10000000) only [go_sem]; (try go_ints); (repeat refine And.intro side ?_); (first | refine hK _ ?_ | refine hR _ _ ?_); clear hK hR K R)
 repeat (first | refine nav ?_ | refine bo ?_)
 have hsl := hs.len
 refine W_for 6 54 [3, 4, 5] (fun m t o => ∃ (k : Nat) (c : Int), [Ob.cells 2 [[.i .i64 s.size, .sl 3 (rels s.rels)]]] = o ∧ t 3 = .i .i64 c ∧ t 4 = .i .i64 k ∧ m = 100 - k ∧ k ≤ 100 ∧ k ≤ s.rels.length ∧ 0 ≤ c ∧ c ≤ (k + 1) * 4503599627370496 ∧
  outF (100 - k) (s.rels.drop k) c = outF 100 s.rels 0) 100 ⟨0, 0, rfl, by simp only [go_sem] <;> rfl, by simp only [go_sem] <;> rfl, rfl, by omega, by omega, by omega, by omega, rfl⟩ ?_
 rintro m t o ⟨k, c, rfl, h3, h4, rfl, hk1, hk2, hc0, hc1, hfin⟩
 repeat (first | refine nav ?_ | refine bo ?_)
 (refine wr fun K R hK hR => ?_; simp (maxSteps := 10000000) only [go_sem, h3, h4]; (try go_ints); (try simp only [go_sem, h3, h4]); (repeat refine And.intro side ?_); (first | refine hK _ ?_ | refine hR _ _ ?_); clear hK hR K R)
 repeat (first | refine nav ?_ | refine bo ?_)
 refine W_cond (by simp only [go_sem] <;> exact rfl) (fun hb => ?_) (fun hb => ?_)
 ·simp only [Bool.or_eq_true, Bool.and_eq_true, Bool.not_eq_true', Bool.not_eq_false', Bool.and_eq_false_iff, Bool.or_eq_false_iff, decide_eq_true_eq, decide_eq_false_iff_not, Bool.not_eq_eq_eq_not, Bool.not_true, Bool.not_false] at hb
  obtain ⟨r, hr⟩ : ∃ r, s.rels[k]? = some r := ⟨_, List.getElem?_eq_getElem (by omega)⟩
  obtain ⟨r1, r2, r3⟩ := hs.rel r (List.mem_of_getElem? hr)
  obtain ⟨f, hf⟩ : ∃ f, 100 - k = f + 1 := ⟨99 - k, by omega⟩
  rw [hf, drop_cons hr, outF] at hfin
  repeat (first | refine nav ?_ | refine bo ?_)
  (refine wr fun K R hK hR => ?_; simp (maxSteps := 10000000) only [go_sem, h3, h4, rels_get hr]; (try go_ints); (try simp only [go_sem, h3, h4, rels_get hr]); (repeat refine And.intro side ?_); (first | refine hK _ ?_ | refine hR _ _ ?_); clear hK hR K R)
  repeat (first | refine nav ?_ | refine bo ?_)
  (refine wr fun K R hK hR => ?_; simp (maxSteps := 10000000) only [go_sem]; (try go_ints); (repeat refine And.intro side ?_); (first | refine hK _ ?_ | refine hR _ _ ?_); clear hK hR K R)
  repeat (first | refine nav ?_ | refine bo ?_)
  refine W_for 26 54 [3, 5] (fun m t o => ∃ (j : Nat) (c' : Int), [Ob.cells 2 [[.i .i64 s.size, .sl 3 (rels s.rels)]]] = o ∧ t 3 = .i .i64 c' ∧ t 5 = .i .i64 j ∧ m = r.tuples.length - j ∧ j ≤ r.tuples.length ∧ 0 ≤ c' ∧ c' ≤ (k + 1) * 4503599627370496 + 2251799813685248 ∧
   inF (r.tuples.drop j) c' = inF r.tuples (c + r.name.size)) r.tuples.length ⟨0, c + r.name.size, rfl, by simp only [go_sem, h3] <;> rfl, by simp only [go_sem] <;> rfl, rfl, by omega, by omega, by omega, rfl⟩ ?_
  rintro m t2 o ⟨j, c', rfl, h3', h5', rfl, hj, hc0', hc1', hfin'⟩
  repeat (first | refine nav ?_ | refine bo ?_)
  (refine wr fun K R hK hR => ?_; simp (maxSteps := 10000000) only [go_sem, h3', h4, h5', rels_get hr]; (try go_ints); (try simp only [go_sem, h3', h4, h5', rels_get hr]); (repeat refine And.intro side ?_); (first | refine hK _ ?_ | refine hR _ _ ?_); clear hK hR K R)
  repeat (first | refine nav ?_ | refine bo ?_)
  refine W_cond (by simp only [go_sem] <;> exact rfl) (fun hb => ?_) (fun hb => ?_)
  ·simp only [Bool.or_eq_true, Bool.and_eq_true, Bool.not_eq_true', Bool.not_eq_false', Bool.and_eq_false_iff, Bool.or_eq_false_iff, decide_eq_true_eq, decide_eq_false_iff_not, Bool.not_eq_eq_eq_not, Bool.not_true, Bool.not_false] at hb
   obtain ⟨tt, htt⟩ : ∃ x, r.tuples[j]? = some x := ⟨_, List.getElem?_eq_getElem (by omega)⟩
   have htl := r3 tt (List.mem_of_getElem? htt)
   rw [drop_cons htt, inF, if_pos (by omega)] at hfin'
   repeat (first | refine nav ?_ | refine bo ?_)
   (refine wr fun K R hK hR => ?_; simp (maxSteps := 10000000) only [go_sem, h3', h4, h5', rels_get hr, tups_get htt]; (try go_ints); (try simp only [go_sem, h3', h4, h5', rels_get hr, tups_get htt]); (repeat refine And.intro side ?_); (first | refine hK _ ?_ | refine hR _ _ ?_); clear hK hR K R)
   repeat (first | refine nav ?_ | refine bo ?_)
   (refine wr fun K R hK hR => ?_; simp (maxSteps := 10000000) only [go_sem, h5']; (try go_ints); (try simp only [go_sem, h5']); (repeat refine And.intro side ?_); (first | refine hK _ ?_ | refine hR _ _ ?_); clear hK hR K R)
   refine forQ_normal (r.tuples.length - (j + 1)) (by omega) ⟨j + 1, c' + 1 + tt.length, rfl, ?_, ?_, rfl, by omega, by omega, by omega, hfin'⟩
   ·simp only [go_sem]
   ·simp only [go_sem]; simp
  ·have hex : inF (r.tuples.drop j) c' = c' := by
    by_cases hjl : j < r.tuples.length
    ·obtain ⟨tt, htt⟩ : ∃ x, r.tuples[j]? = some x := ⟨_, List.getElem?_eq_getElem hjl⟩
     rw [drop_cons htt, inF, if_neg]
     simp only [Bool.or_eq_true, Bool.and_eq_true, Bool.not_eq_true', Bool.not_eq_false', Bool.and_eq_false_iff, Bool.or_eq_false_iff, decide_eq_true_eq, decide_eq_false_iff_not, Bool.not_eq_eq_eq_not, Bool.not_true, Bool.not_false] at hb
     omega
    ·rw [List.drop_eq_nil_of_le (by omega)]; rfl
   rw [hex] at hfin'
   rw [mix_mix rfl]
   repeat (first | refine nav ?_ | refine bo ?_)
   (refine wr fun K R hK hR => ?_; simp (maxSteps := 10000000) only [go_sem, h4]; (try go_ints); (try simp only [go_sem, h4]); (repeat refine And.intro side ?_); (first | refine hK _ ?_ | refine hR _ _ ?_); clear hK hR K R)
   refine forQ_normal (100 - (k + 1)) (by omega) ⟨k + 1, c', rfl, ?_, ?_, rfl, by omega, by omega, by omega, by omega, ?_⟩
   ·simp only [go_sem, h3']
   ·simp only [go_sem]; simp
   ·rw [show 100 - (k + 1) = f by omega, hfin']; exact hfin
 ·have hex : outF (100 - k) (s.rels.drop k) c = c := by
   by_cases hkl : k < s.rels.length
   ·have : 100 - k = 0 := by
     simp only [Bool.or_eq_true, Bool.and_eq_true, Bool.not_eq_true', Bool.not_eq_false', Bool.and_eq_false_iff, Bool.or_eq_false_iff, decide_eq_true_eq, decide_eq_false_iff_not, Bool.not_eq_eq_eq_not, Bool.not_true, Bool.not_false] at hb
     omega
    rw [this]; rfl
   ·rw [List.drop_eq_nil_of_le (by omega)]
    cases 100 - k <;> rfl
  rw [hex] at hfin
  repeat (first | refine nav ?_ | refine bo ?_)
  (refine wr fun K R hK hR => ?_; simp (maxSteps := 10000000) only [go_sem, h3]; (try go_ints); (try simp only [go_sem, h3]); (repeat refine And.intro side ?_); (first | refine hK _ ?_ | refine hR _ _ ?_); clear hK hR K R)
  repeat (first | refine nav ?_ | refine bo ?_)
  refine endQ_data (by simp only [go_sem] <;> exact rfl) (Le.of_eq ?_) rfl
  rw [broadF, ← hfin]
end Go.AW
namespace Go.AW
open Go Go.Proofs TyTry Go.IntWalk
set_option linter.unusedSimpArgs false
set_option linter.unusedVariables false
set_option maxRecDepth 10000
end Go.AW
namespace Go.AW
open Go Go.Proofs TyTry Go.IntWalk
set_option linter.unusedSimpArgs false
set_option linter.unusedVariables false
set_option maxRecDepth 10000
end Go.AW
namespace Go.AW
open Go Go.Proofs TyTry Go.IntWalk
set_option linter.unusedSimpArgs false
set_option linter.unusedVariables false
set_option maxRecDepth 10000
def maxI (l : List Int) : Int := (l.drop 1).foldl max (l.getD 0 0)
theorem max_spec (l : List Int) (h1 : 1 ≤ l.length) (h2 : l.length ≤ 1099511627776) : ACallsD Try.prog 40 [.sl 1 (ints l)] (.i .i64 (maxI l)) := by
 obtain ⟨a, ha⟩ : ∃ a, l[0]? = some a := ⟨_, List.getElem?_eq_getElem (by omega)⟩
 have ha0 : l.getD 0 0 = a := by simp [ha]
 refine ACalls_of' (n := 25) (rs := [.tmp 2]) (show Try.prog.funcs[40]? = some Try.f40 by kernel_rfl) rfl rfl rfl (by simp) (by decide +kernel) ?_
 repeat (first | refine nav ?_ | refine bo ?_)
 (refine wr fun K R hK hR => ?_; simp (maxSteps := 10000000) only [go_sem]; (try go_ints); (repeat refine And.intro side ?_); (first | refine hK _ ?_ | refine hR _ _ ?_); clear hK hR K R)
 repeat (first | refine nav ?_ | refine bo ?_)
 (refine wr fun K R hK hR => ?_; simp (maxSteps := 10000000) only [go_sem]; (try go_ints); (repeat refine And.intro side ?_); (first | refine hK _ ?_ | refine hR _ _ ?_); clear hK hR K R)
 repeat (first | refine nav ?_ | refine bo ?_)
 refine W_cond (b := false) (by simp only [go_sem]; simp; omega) (fun hb => by cases hb) (fun _ => ?_)
 repeat (first | refine nav ?_ | refine bo ?_)
 (refine wr fun K R hK hR => ?_; simp (maxSteps := 10000000) only [go_sem, ints_get ha]; (try go_ints); (try simp only [go_sem, ints_get ha]); (repeat refine And.intro side ?_); (first | refine hK _ ?_ | refine hR _ _ ?_); clear hK hR K R)
 repeat (first | refine nav ?_ | refine bo ?_)
 (refine wr fun K R hK hR => ?_; simp (maxSteps := 10000000) only [go_sem]; (try go_ints); (repeat refine And.intro side ?_); (first | refine hK _ ?_ | refine hR _ _ ?_); clear hK hR K R)
 repeat (first | refine nav ?_ | refine bo ?_)
 refine W_for 12 24 [3, 4] (fun m t o => ∃ (k : Nat) (v : Int), [] = o ∧ t 3 = .i .i64 v ∧ t 4 = .i .i64 k ∧ m = l.length - k ∧ 1 ≤ k ∧ k ≤ l.length ∧ (l.drop k).foldl max v = maxI l) (l.length - 1) ⟨1, a, rfl, by simp only [go_sem] <;> rfl, by simp only [go_sem] <;> rfl, by omega, by omega, by omega, by rw [maxI, ha0]⟩ ?_
 rintro m t o ⟨k, v, rfl, h3, h4, rfl, hk1, hk, hi⟩
 repeat (first | refine nav ?_ | refine bo ?_)
 (refine wr fun K R hK hR => ?_; simp (maxSteps := 10000000) only [go_sem, h4]; (try go_ints); (try simp only [go_sem, h4]); (repeat refine And.intro side ?_); (first | refine hK _ ?_ | refine hR _ _ ?_); clear hK hR K R)
 repeat (first | refine nav ?_ | refine bo ?_)
 refine W_cond (by simp only [go_sem] <;> exact rfl) (fun hb => ?_) (fun hb => ?_)
 ·simp at hb
  obtain ⟨x, hx⟩ : ∃ x, l[k]? = some x := ⟨_, List.getElem?_eq_getElem hb⟩
  rw [drop_cons hx, List.foldl_cons] at hi
  repeat (first | refine nav ?_ | refine bo ?_)
  (refine wr fun K R hK hR => ?_; simp (maxSteps := 10000000) only [go_sem, h3, h4, ints_get hx]; (try go_ints); (try simp only [go_sem, h3, h4, ints_get hx]); (repeat refine And.intro side ?_); (first | refine hK _ ?_ | refine hR _ _ ?_); clear hK hR K R)
  repeat (first | refine nav ?_ | refine bo ?_)
  (refine wr fun K R hK hR => ?_; simp (maxSteps := 10000000) only [go_sem, h4]; (try go_ints); (try simp only [go_sem, h4]); (repeat refine And.intro side ?_); (first | refine hK _ ?_ | refine hR _ _ ?_); clear hK hR K R)
  refine forQ_normal (l.length - (k + 1)) (by omega) ⟨k + 1, max v x, rfl, ?_⟩
  ((try simp only [go_sem]); (repeat' refine And.intro ?_ ?_) <;> (try first | with_reducible rfl | omega | with_reducible assumption | (simp; done)))
  rw [AV.i.injEq]
  exact ⟨rfl, by split <;> omega⟩
 ·simp at hb
  have : k = l.length := by omega
  subst this
  rw [List.drop_length, List.foldl_nil] at hi
  repeat (first | refine nav ?_ | refine bo ?_)
  (refine wr fun K R hK hR => ?_; simp (maxSteps := 10000000) only [go_sem, h3]; (try go_ints); (try simp only [go_sem, h3]); (repeat refine And.intro side ?_); (first | refine hK _ ?_ | refine hR _ _ ?_); clear hK hR K R)
  repeat (first | refine nav ?_ | refine bo ?_)
  refine endQ_data (by simp only [go_sem] <;> exact rfl) (Le.of_eq ?_) rfl
  rw [hi]
def capH : Int := 1099511627777
def addH (w : Int) (acc : List Int) (y : Int) : List Int := acc.set y.toNat (min (acc.getD y.toNat 0 + w) capH)
def inH (w : Int) (l : List Int) (acc : List Int) : List Int := l.foldl (addH w) acc
def outH (next : List (List Int)) (now : List Int) (n k : Nat) : List Int := (List.range k).foldl (fun acc x => inH (now.getD x 0) (next.getD x []) acc) (List.replicate n 0)
def fwd (next : List (List Int)) (n : Nat) : Nat → List Int
 | 0 => (List.replicate n 0).set 0 1
 | k + 1 => outH next (fwd next n k) n n
theorem addH_len (w : Int) (acc : List Int) (y : Int) : (addH w acc y).length = acc.length := by simp [addH]
theorem inH_len (w : Int) : ∀ (l acc : List Int), (inH w l acc).length = acc.length
 | [], _ => rfl
 | y :: l, acc => by
  rw [inH, List.foldl_cons]
  exact (inH_len w l (addH w acc y)).trans (addH_len w acc y)
theorem outH_succ (next : List (List Int)) (now : List Int) (n k : Nat) : outH next now n (k + 1) = inH (now.getD k 0) (next.getD k []) (outH next now n k) := by
 simp only [outH, List.range_succ, List.foldl_append, List.foldl_cons, List.foldl_nil]
theorem outH_len (next : List (List Int)) (now : List Int) (n : Nat) : ∀ k, (outH next now n k).length = n
 | 0 => by simp [outH]
 | k + 1 => by rw [outH_succ, inH_len, outH_len]
theorem fwd_len (next : List (List Int)) (n : Nat) : ∀ k, (fwd next n k).length = n
 | 0 => by simp [fwd]
 | k + 1 => outH_len _ _ _ _
def InH (l : List Int) : Prop := ∀ y : Nat, 0 ≤ l.getD y 0 ∧ l.getD y 0 ≤ capH
theorem addH_bd {w : Int} (hw : 0 ≤ w) {acc : List Int} (h : InH acc) (y : Int) : InH (addH w acc y) := by
 intro i
 have hi := h i
 have hy := h y.toNat
 have hc : (0 : Int) ≤ capH := by decide
 rw [addH, List.getD_eq_getElem?_getD, List.getElem?_set]
 split
 ·split
  ·simp only [Option.getD_some]; omega
  ·simpa using hc
 ·rw [← List.getD_eq_getElem?_getD]; exact hi
theorem inH_bd {w : Int} (hw : 0 ≤ w) : ∀ (l : List Int) {acc : List Int}, InH acc → InH (inH w l acc)
 | [], _, h => h
 | y :: l, acc, h => by
  rw [inH, List.foldl_cons]
  exact inH_bd hw l (addH_bd hw h y)
theorem zero_bd (n : Nat) : InH (List.replicate n 0) := by
 intro i
 rw [List.getD_eq_getElem?_getD, List.getElem?_replicate]
 split <;> simp [capH]
theorem outH_bd (next : List (List Int)) {now : List Int} (h : InH now) (n : Nat) : ∀ k, InH (outH next now n k)
 | 0 => by simpa [outH] using zero_bd n
 | k + 1 => by
  rw [outH_succ]
  exact inH_bd (h k).1 _ (outH_bd next h n k)
theorem fwd_bd (next : List (List Int)) (n : Nat) : ∀ k, InH (fwd next n k)
 | 0 => by
  intro i
  rw [fwd, List.getD_eq_getElem?_getD, List.getElem?_set]
  simp only [List.length_replicate, List.getElem?_replicate, capH]
  split
  ·split <;> simp
  ·split <;> simp
 | k + 1 => outH_bd next (fwd_bd next n k) n n
def hwF (next : List (List Int)) (n : Nat) : Nat → Nat → Int → Option Int
 | 0, _, tot => some tot
 | f + 1, d, tot => if maxI (fwd next n d) > 0 then (if tot + (fwd next n d).getD (n - 1) 0 > 1099511627776 then none else hwF next n f (d + 1) (tot + (fwd next n d).getD (n - 1) 0)) else some tot
theorem inH_take (w : Int) (l acc : List Int) (j : Nat) (y : Int) (h : l[j]? = some y) : inH w (l.take (j + 1)) acc = addH w (inH w (l.take j) acc) y := by
 rw [List.take_add_one, h, inH, List.foldl_append]
 rfl
theorem graphR_E (s : StrD) : ∃ (g : GD) (code : Int), graphR s symsE = .tup [.agg [.sl 1 (tups g.1), .sl 1 (bools g.2)], .i .i64 code] ∧
  (code = 0 → validF s = true ∧ fitsF symsE s = true ∧ g = graphD s) ∧ (code ≠ 0 → code = codeF s false) := by
 by_cases hv : validF s = false
 ·exact ⟨([], []), 1, by rw [graphR, if_pos hv, graphA], fun h => by omega, fun _ => by rw [codeF, if_pos hv]⟩
 ·have hv' : validF s = true := by simpa using hv
  by_cases hf : fitsF symsE s = false
  ·refine ⟨([], []), 4, by rw [graphR, if_neg hv, if_pos hf, graphA], fun h => by omega, fun _ => ?_⟩
   rw [codeF, if_neg hv, if_pos]
   rw [fitsR_eq hv', hf]; rfl
  ·exact ⟨graphD s, 0, by rw [graphR, if_neg hv, if_neg hf, graphA], fun _ => ⟨hv', by simpa using hf, rfl⟩, fun h => absurd rfl h⟩
def hwA (s : StrD) (most : Int) : AV :=
 if codeF s false ≠ 0 then .tup [.i .i64 0, .i .i64 (codeF s false)] else if most < 0 ∨ most > 200000 then .tup [.i .i64 0, .i .i64 2] else
  match hwF (graphD s).1 s.size.toNat (most.toNat + 1) 0 0 with | some n => .tup [.i .i64 n, .i .i64 0] | none => .tup [.i .i64 0, .i .i64 5]
theorem codeF_ok {s : StrD} (hv : validF s = true) (hf : fitsF symsE s = true) : codeF s false = 0 := by
 rw [codeF, if_neg (by simp [hv]), if_neg]
 rw [fitsR_eq hv, hf]; simp
theorem hwalks_spec (s : StrD) (hs : s.Ok) (ht : tupN s.rels ≤ 1099511627776) (most : Int) :
  ACallsD Try.prog 12 [.agg [.i .i64 s.size, .sl 3 (rels s.rels)], .i .i64 most] (hwA s most) := by
 obtain ⟨g, code, hg, hc0, hc1⟩ := graphR_E s
 have hG := graphOf_spec s hs symsE (by decide)
 rw [hg] at hG
 refine ACalls_of' (n := 91) (rs := [.tmp 4, .tmp 5]) (show Try.prog.funcs[12]? = some Try.f12 by kernel_rfl) rfl rfl rfl (by simp) (by decide +kernel) ?_
 repeat (first | refine nav ?_ | refine bo ?_)
 (refine wr fun K R hK hR => ?_; simp (maxSteps := 10000000) only [go_sem]; (try go_ints); (repeat refine And.intro side ?_); (first | refine hK _ ?_ | refine hR _ _ ?_); clear hK hR K R)
 repeat (first | refine nav ?_ | refine bo ?_)
 (refine W_dreg (by decide +kernel) [] [0, 1, 2, 3, 4, 5, 6, 7, 8, 9] [[], [], [1], [1, 2, 0], [0, 2, 1, 3], [3, 1, 2, 0, 4], [3, 1, 2, 0, 4], [], [4, 0, 2, 1, 3, 5, 7], [7, 5, 8, 4, 0, 2, 1, 3, 6]] (by decide +kernel) rfl fun K R hK hR => ?_; simp only [List.filterMap_cons, List.filterMap_nil, List.getElem?_cons_zero, List.getElem?_cons_succ, List.cons_append, List.nil_append]; simp (maxSteps := 10000000) only [go_sem]; (try go_ints); (repeat refine And.intro side ?_); (first | refine hK _ ?_ | refine hR _ _ ?_); clear hK hR K R)
 refine D_callD (edges_spec) rfl rfl rfl (by first | (simp only [go_sem] <;> first | exact LeA.refl _ | exact Le.refl _) | exact LeA.refl _) rfl rfl rfl rfl ?_
 (refine D_reg fun K R hK hR => ?_; simp (maxSteps := 10000000) only [go_sem]; (try go_ints); (repeat refine And.intro side ?_); (first | refine hK _ ?_ | refine hR _ _ ?_); clear hK hR K R)
 refine D_callD (hG) rfl rfl rfl (by first | (simp only [go_sem] <;> first | exact LeA.refl _ | exact Le.refl _) | exact LeA.refl _) rfl rfl rfl rfl ?_
 (refine D_reg fun K R hK hR => ?_; simp (maxSteps := 10000000) only [go_sem]; (try go_ints); (repeat refine And.intro side ?_); (first | refine hK _ ?_ | refine hR _ _ ?_); clear hK hR K R)
 repeat (first | refine nav ?_ | refine bo ?_)
 (refine wr fun K R hK hR => ?_; simp (maxSteps := 10000000) only [go_sem]; (try go_ints); (repeat refine And.intro side ?_); (first | refine hK _ ?_ | refine hR _ _ ?_); clear hK hR K R)
 repeat (first | refine nav ?_ | refine bo ?_)
 refine W_cond (by simp only [go_sem] <;> exact rfl) (fun hb => ?_) (fun hb => ?_)
 ·have hb : code ≠ 0 := by simpa using hb
  rw [hwA, ← hc1 hb, if_pos hb]
  repeat (first | refine nav ?_ | refine bo ?_)
  (refine wr fun K R hK hR => ?_; simp (maxSteps := 10000000) only [go_sem]; (try go_ints); (repeat refine And.intro side ?_); (first | refine hK _ ?_ | refine hR _ _ ?_); clear hK hR K R)
  repeat (first | refine nav ?_ | refine bo ?_)
  refine endQ_data (by simp only [go_sem] <;> exact rfl) (Le.of_eq ?_) rfl
  rfl
 ·have hb : code = 0 := by simpa using hb
  obtain ⟨hv, hf, rfl⟩ := hc0 hb
  subst hb
  clear hc0 hc1
  have hcode := codeF_ok hv hf
  obtain ⟨z1, z2, z3⟩ := valid_size hv
  obtain ⟨n, hn⟩ := Int.eq_ofNat_of_zero_le (show 0 ≤ s.size by omega)
  have hg := graphD_ok hv
  have hnn : s.size.toNat = n := by omega
  rw [hnn] at hg
  rw [hwA, if_neg (by simp [hcode])]
  repeat (first | refine nav ?_ | refine bo ?_)
  (refine wr fun K R hK hR => ?_; simp (maxSteps := 10000000) only [go_sem]; (try go_ints); (repeat refine And.intro side ?_); (first | refine hK _ ?_ | refine hR _ _ ?_); clear hK hR K R)
  repeat (first | refine nav ?_ | refine bo ?_)
  refine W_cond (by simp only [go_sem] <;> exact rfl) (fun hb => ?_) (fun hb => ?_)
  ·simp only [Bool.or_eq_true, Bool.and_eq_true, Bool.not_eq_true', Bool.not_eq_false', Bool.and_eq_false_iff, Bool.or_eq_false_iff, decide_eq_true_eq, decide_eq_false_iff_not, Bool.not_eq_eq_eq_not, Bool.not_true, Bool.not_false] at hb
   rw [if_pos hb]
   repeat (first | refine nav ?_ | refine bo ?_)
   (refine wr fun K R hK hR => ?_; simp (maxSteps := 10000000) only [go_sem]; (try go_ints); (repeat refine And.intro side ?_); (first | refine hK _ ?_ | refine hR _ _ ?_); clear hK hR K R)
   repeat (first | refine nav ?_ | refine bo ?_)
   refine endQ_data (by simp only [go_sem] <;> exact rfl) (Le.of_eq ?_) rfl
   rfl
  ·simp only [Bool.or_eq_true, Bool.and_eq_true, Bool.not_eq_true', Bool.not_eq_false', Bool.and_eq_false_iff, Bool.or_eq_false_iff, decide_eq_true_eq, decide_eq_false_iff_not, Bool.not_eq_eq_eq_not, Bool.not_true, Bool.not_false] at hb
   rw [if_neg (by omega)]
   obtain ⟨mo, rfl⟩ := Int.eq_ofNat_of_zero_le (show 0 ≤ most by omega)
   rw [Int.toNat_natCast, hnn]
   repeat (first | refine nav ?_ | refine bo ?_)
   (refine wr fun K R hK hR => ?_; simp (maxSteps := 10000000) only [go_sem, hn]; (try go_ints); (try simp only [go_sem, hn]); (repeat refine And.intro side ?_); (first | refine hK _ ?_ | refine hR _ _ ?_); clear hK hR K R)
   repeat (first | refine nav ?_ | refine bo ?_)
   have hi0 : List.replicate n [AV.i .i64 0] = ints (List.replicate n 0) := by simp [ints]
   have hgz : (ints (List.replicate n 0)).getD 0 [] = [.i .i64 0] := ints_get (by rw [List.getElem?_replicate, if_pos (by omega)])
   simp only [hi0]
   (refine wr fun K R hK hR => ?_; simp (maxSteps := 10000000) only [go_sem, hgz, List.length_replicate, ints_set]; (try go_ints); (try simp only [go_sem, hgz, List.length_replicate, ints_set]); (repeat refine And.intro side ?_); (first | refine hK _ ?_ | refine hR _ _ ?_); clear hK hR K R)
   generalize hNX : (graphD s).1 = next at hg ⊢
   have hg1 := hg.l1
   rw [hNX] at hg1
   have hge := hg.el
   rw [hNX] at hge
   have hd0 : ∀ i, (ints (fwd next n i)).map (fun r => r.map AV.dat) = ints (fwd next n i) := fun i => by simp [ints, Function.comp_def, AV.dat]
   have hp0 : ∀ i, ((ints (fwd next n i)).all fun r => r.all fun c => c.dat.ltk 0 && c.dat.plain) = true := fun i => by simp [ints, AV.dat, AV.ltk, AV.plain]
   have hln : ∀ i, (ints (fwd next n i)).length = n := fun i => by rw [ints_len, fwd_len]
   have htk : ∀ i, List.take n (ints (fwd next n i)) = ints (fwd next n i) := fun i => List.take_of_length_le (by rw [hln]; omega)
   refine seqQ_normal ?_
   refine W_freeze 2 (sz := 1) (rows := ints (fwd next n 0)) (by rfl) (hp0 0) ?_
   refine W_weak (s' := ⟨tab [(1, .i .i64 mo), (2, .ptr 0 0 0), (6, .ptr 1 0 0), (8, .sl 1 (ints (fwd next n 0)))], [.cells 2 [[.i .i64 n, .sl 3 (rels s.rels)]], .cells 2 [[.sl 1 (tups next), .sl 1 (bools (graphD s).2)]], .frz 1 (ints (fwd next n 0))]⟩) (tab_le fun y hy => ?_) ?_ ?_
   ·simp only [List.mem_cons, List.not_mem_nil, or_false] at hy
    rcases hy with rfl | rfl | rfl | rfl
    ·rfl
    ·rfl
    ·rfl
    ·simp [frS, upd, AV.unref, hd0, hln, htk]
   ·simp [frS, Ob.unref, AV.unref, hd0]
   repeat (first | refine nav ?_ | refine bo ?_)
   (refine wr fun K R hK hR => ?_; simp (maxSteps := 10000000) only [go_sem]; (try go_ints); (repeat refine And.intro side ?_); (first | refine hK _ ?_ | refine hR _ _ ?_); clear hK hR K R)
   repeat (first | refine nav ?_ | refine bo ?_)
   (refine wr fun K R hK hR => ?_; simp (maxSteps := 10000000) only [go_sem]; (try go_ints); (repeat refine And.intro side ?_); (first | refine hK _ ?_ | refine hR _ _ ?_); clear hK hR K R)
   repeat (first | refine nav ?_ | refine bo ?_)
   refine W_weak (s' := ⟨mix 37 91 [8, 9, 10, 11, 12, 13, 14, 15] (tab [(8, .sl 1 (ints (fwd next n 0))), (9, .i .i64 0), (10, .i .i64 0)]) (tab [(1, .i .i64 mo), (2, .ptr 0 0 0), (6, .ptr 1 0 0)]), _⟩) (tab_mix (fun x hx => ?_) (fun x hx => ?_)) rfl ?_
   ·simp only [List.mem_cons, List.not_mem_nil, or_false] at hx
    rcases hx with rfl | rfl | rfl <;> rfl
   ·simp only [List.mem_cons, List.not_mem_nil, or_false] at hx
    rcases hx with rfl | rfl | rfl <;> rfl
   refine W_forM 37 91 [8, 9, 10, 11, 12, 13, 14, 15] (fun m t o => ∃ (d : Nat) (tot : Int), okO o = true ∧ o[0]? = some (.cells 2 [[.i .i64 n, .sl 3 (rels s.rels)]]) ∧ o[1]? = some (.cells 2 [[.sl 1 (tups next), .sl 1 (bools (graphD s).2)]]) ∧
    t 8 = .sl 1 (ints (fwd next n d)) ∧ t 9 = .i .i64 tot ∧ t 10 = .i .i64 d ∧ m = mo + 1 - d ∧ d ≤ mo + 1 ∧ 0 ≤ tot ∧ tot ≤ 1099511627776 ∧ hwF next n (mo + 1 - d) d tot = hwF next n (mo + 1) 0 0) (mo + 1)
    ⟨0, 0, rfl, rfl, rfl, rfl, rfl, rfl, by omega, Nat.zero_le _, by omega, by omega, rfl⟩ ?_
   rintro m t o ⟨d, tot, hok, o0, o1, h8, h9, h10, rfl, hd, ht0, ht1, hfin⟩
   have hol := (List.getElem?_eq_some_iff.1 o1).1
   repeat (first | refine nav ?_ | refine bo ?_)
   (refine wr fun K R hK hR => ?_; simp (maxSteps := 10000000) only [go_sem, h10, h8]; (try go_ints); (try simp only [go_sem, h10, h8]); (repeat refine And.intro side ?_); (first | refine hK _ ?_ | refine hR _ _ ?_); clear hK hR K R)
   refine RL_callDg rfl (by simp only [go_sem] <;> exact rfl) (fun e => max_spec (fwd next n d) (by rw [fwd_len]; omega) (by rw [fwd_len]; omega)) rfl rfl rfl (fun e => by (try simp only [go_sem] at e); simp only [go_sem, e] <;> (try simp only [go_sem, h8]) <;> first | exact LeA.refl _ | exact Le.refl _) rfl rfl ?_
   (refine rr fun K R hK hR => ?_; simp (maxSteps := 10000000) only [go_sem]; (try go_ints); (repeat refine And.intro side ?_); (first | refine hK _ ?_ | refine hR _ _ ?_); clear hK hR K R)
   repeat (first | refine nav ?_ | refine bo ?_)
   refine W_cond (by simp only [go_sem] <;> exact rfl) (fun hb => ?_) (fun hb => ?_)
   ·simp only [Bool.or_eq_true, Bool.and_eq_true, Bool.not_eq_true', Bool.not_eq_false', Bool.and_eq_false_iff, Bool.or_eq_false_iff, decide_eq_true_eq, decide_eq_false_iff_not, Bool.not_eq_eq_eq_not, Bool.not_true, Bool.not_false] at hb
    obtain ⟨hb1, hb2⟩ := hb
    obtain ⟨f, hf'⟩ : ∃ f, mo + 1 - d = f + 1 := ⟨mo - d, by omega⟩
    rw [hf', hwF, if_pos hb2] at hfin
    obtain ⟨v, hv⟩ : ∃ v, (fwd next n d)[n - 1]? = some v := ⟨_, List.getElem?_eq_getElem (by rw [fwd_len]; omega)⟩
    have hv0 : (fwd next n d).getD (n - 1) 0 = v := by simp [hv]
    have hvb := fwd_bd next n d (n - 1)
    rw [hv0] at hvb hfin
    have hcap : capH = 1099511627777 := rfl
    have en : ((n : Int) - 1).toNat = n - 1 := by omega
    repeat (first | refine nav ?_ | refine bo ?_)
    (refine wr fun K R hK hR => ?_; simp (maxSteps := 10000000) only [go_sem, h8, h9, o0, fwd_len, en, ints_get hv]; (try go_ints); (try simp only [go_sem, h8, h9, o0, fwd_len, en, ints_get hv]); (repeat refine And.intro side ?_); (first | refine hK _ ?_ | refine hR _ _ ?_); clear hK hR K R)
    repeat (first | refine nav ?_ | refine bo ?_)
    (refine wr fun K R hK hR => ?_; simp (maxSteps := 10000000) only [go_sem]; (try go_ints); (repeat refine And.intro side ?_); (first | refine hK _ ?_ | refine hR _ _ ?_); clear hK hR K R)
    repeat (first | refine nav ?_ | refine bo ?_)
    refine W_cond (by simp only [go_sem] <;> exact rfl) (fun hb => ?_) (fun hb => ?_)
    ·have hb3 : tot + v > 1099511627776 := by simpa using hb
     rw [if_pos hb3] at hfin
     rw [← hfin]
     repeat (first | refine nav ?_ | refine bo ?_)
     (refine wr fun K R hK hR => ?_; simp (maxSteps := 10000000) only [go_sem]; (try go_ints); (repeat refine And.intro side ?_); (first | refine hK _ ?_ | refine hR _ _ ?_); clear hK hR K R)
     repeat (first | refine nav ?_ | refine bo ?_)
     refine endQ_data (by simp only [go_sem] <;> exact rfl) (Le.of_eq ?_) rfl
     rfl
    ·have hb3 : ¬ tot + v > 1099511627776 := by simpa using hb
     rw [if_neg hb3] at hfin
     have o0' := fun l => app_get l o0
     have o1' := fun l => app_get l o1
     repeat (first | refine nav ?_ | refine bo ?_)
     (refine wr fun K R hK hR => ?_; simp (maxSteps := 10000000) only [go_sem, o0]; (try go_ints); (try simp only [go_sem, o0]); (repeat refine And.intro side ?_); (first | refine hK _ ?_ | refine hR _ _ ?_); clear hK hR K R)
     repeat (first | refine nav ?_ | refine bo ?_)
     (refine wr fun K R hK hR => ?_; simp (maxSteps := 10000000) only [go_sem, h8, fwd_len]; (try go_ints); (try simp only [go_sem, h8, fwd_len]); (repeat refine And.intro side ?_); (first | refine hK _ ?_ | refine hR _ _ ?_); clear hK hR K R)
     repeat (first | refine nav ?_ | refine bo ?_)
     refine W_weak (s' := ⟨tab [(1, .i .i64 mo), (2, .ptr 0 0 0), (6, .ptr 1 0 0), (8, .sl 1 (ints (fwd next n d))), (9, .i .i64 (tot + v)), (10, .i .i64 d), (11, .ref o.length 0 n), (60, .sl 1 (ints (fwd next n d))), (61, .i .i64 n), (62, .i .i64 0)], o ++ [.cells 1 (ints (outH next (fwd next n d) n 0))]⟩) (tab_le fun y hy => ?_) ?_ ?_
     ·simp only [List.mem_cons, List.not_mem_nil, or_false] at hy
      rcases hy with rfl | rfl | rfl | rfl | rfl | rfl | rfl | rfl | rfl | rfl
      ·rfl
      ·rfl
      ·rfl
      ·exact h8
      ·rfl
      ·exact h10
      ·rfl
      ·rfl
      ·rfl
      ·rfl
     ·rw [hi0]; rfl
     refine W_for 62 90 [12, 13, 14, 15] (fun m t o2 => ∃ x : Nat, o2 = o ++ [.cells 1 (ints (outH next (fwd next n d) n x))] ∧ t 62 = .i .i64 x ∧ m = n - x ∧ x ≤ n) n ⟨0, rfl, rfl, by omega, Nat.zero_le _⟩ ?_
     rintro m t2 o2 ⟨x, rfl, h62, rfl, hx⟩
     repeat (first | refine nav ?_ | refine bo ?_)
     (refine wr fun K R hK hR => ?_; simp (maxSteps := 10000000) only [go_sem, h62]; (try go_ints); (try simp only [go_sem, h62]); (repeat refine And.intro side ?_); (first | refine hK _ ?_ | refine hR _ _ ?_); clear hK hR K R)
     repeat (first | refine nav ?_ | refine bo ?_)
     refine W_cond (by simp only [go_sem] <;> exact rfl) (fun hb => ?_) (fun hb => ?_)
     ·simp at hb
      obtain ⟨l, hl⟩ : ∃ r, next[x]? = some r := ⟨_, List.getElem?_eq_getElem (by omega)⟩
      obtain ⟨hll, hlm⟩ := hge l (List.mem_of_getElem? hl)
      obtain ⟨w, hw⟩ : ∃ r, (fwd next n d)[x]? = some r := ⟨_, List.getElem?_eq_getElem (by rw [fwd_len]; omega)⟩
      have hw0 : (fwd next n d).getD x 0 = w := by simp [hw]
      have hl0 : next.getD x [] = l := by simp [hl]
      have hwb := fwd_bd next n d x
      rw [hw0] at hwb
      have hout := outH_succ next (fwd next n d) n x
      rw [hw0, hl0] at hout
      repeat (first | refine nav ?_ | refine bo ?_)
      (refine wr fun K R hK hR => ?_; simp (maxSteps := 10000000) only [go_sem, h62, ints_get hw, fwd_len]; (try go_ints); (try simp only [go_sem, h62, ints_get hw, fwd_len]); (repeat refine And.intro side ?_); (first | refine hK _ ?_ | refine hR _ _ ?_); clear hK hR K R)
      repeat (first | refine nav ?_ | refine bo ?_)
      (refine wr fun K R hK hR => ?_; simp (maxSteps := 10000000) only [go_sem, o1', tups_get hl]; (try go_ints); (try simp only [go_sem, o1', tups_get hl]); (repeat refine And.intro side ?_); (first | refine hK _ ?_ | refine hR _ _ ?_); clear hK hR K R)
      repeat (first | refine nav ?_ | refine bo ?_)
      refine W_for 73 88 [14, 15] (fun m t o2 => ∃ j : Nat, o2 = o ++ [.cells 1 (ints (inH w (l.take j) (outH next (fwd next n d) n x)))] ∧ t 73 = .i .i64 j ∧ m = l.length - j ∧ j ≤ l.length) l.length ⟨0, rfl, by simp only [go_sem] <;> rfl, by omega, Nat.zero_le _⟩ ?_
      rintro m t3 o2 ⟨j, rfl, h73, rfl, hj⟩
      repeat (first | refine nav ?_ | refine bo ?_)
      (refine wr fun K R hK hR => ?_; simp (maxSteps := 10000000) only [go_sem, h73]; (try go_ints); (try simp only [go_sem, h73]); (repeat refine And.intro side ?_); (first | refine hK _ ?_ | refine hR _ _ ?_); clear hK hR K R)
      repeat (first | refine nav ?_ | refine bo ?_)
      refine W_cond (by simp only [go_sem] <;> exact rfl) (fun hb => ?_) (fun hb => ?_)
      ·simp at hb
       obtain ⟨y, hy⟩ : ∃ r, l[j]? = some r := ⟨_, List.getElem?_eq_getElem hb⟩
       obtain ⟨y0, y1⟩ := hlm y (List.mem_of_getElem? hy)
       obtain ⟨y, rfl⟩ := Int.eq_ofNat_of_zero_le y0
       have hbd := inH_bd hwb.1 (l.take j) (outH_bd next (fwd_bd next n d) n x)
       have hlen : (inH w (l.take j) (outH next (fwd next n d) n x)).length = n := by rw [inH_len, outH_len]
       have htake := inH_take w l (outH next (fwd next n d) n x) j y hy
       generalize inH w (l.take j) (outH next (fwd next n d) n x) = acc at hbd hlen htake ⊢
       obtain ⟨av, hav⟩ : ∃ r, acc[y]? = some r := ⟨_, List.getElem?_eq_getElem (by omega)⟩
       have hav0 : acc.getD y 0 = av := by simp [hav]
       have hab := hbd y
       rw [hav0] at hab
       repeat (first | refine nav ?_ | refine bo ?_)
       (refine wr fun K R hK hR => ?_; simp (maxSteps := 10000000) only [go_sem, h73, ints_get hy]; (try go_ints); (try simp only [go_sem, h73, ints_get hy]); (repeat refine And.intro side ?_); (first | refine hK _ ?_ | refine hR _ _ ?_); clear hK hR K R)
       repeat (first | refine nav ?_ | refine bo ?_)
       (refine wr fun K R hK hR => ?_; simp (maxSteps := 10000000) only [go_sem, ints_get hav, hlen, ints_set]; (try go_ints); (try simp only [go_sem, ints_get hav, hlen, ints_set]); (repeat refine And.intro side ?_); (first | refine hK _ ?_ | refine hR _ _ ?_); clear hK hR K R)
       have hset : acc.set y (if 1099511627777 < av + w then 1099511627777 else av + w) = inH w (l.take (j + 1)) (outH next (fwd next n d) n x) := by
        rw [htake, addH, Int.toNat_natCast, hav0, hcap]
        congr 1
        split <;> omega
       rw [hset]
       repeat (first | refine nav ?_ | refine bo ?_)
       (refine wr fun K R hK hR => ?_; simp (maxSteps := 10000000) only [go_sem, h73]; (try go_ints); (try simp only [go_sem, h73]); (repeat refine And.intro side ?_); (first | refine hK _ ?_ | refine hR _ _ ?_); clear hK hR K R)
       refine forQ_normal (l.length - (j + 1)) (by omega) ⟨j + 1, rfl, ?_⟩
       ((try simp only [go_sem]); (repeat' refine And.intro ?_ ?_) <;> (try first | with_reducible rfl | omega | with_reducible assumption | (simp; done)))
      ·simp at hb
       have : j = l.length := by omega
       subst this
       rw [List.take_length, ← hout, mix_mix rfl]
       repeat (first | refine nav ?_ | refine bo ?_)
       (refine wr fun K R hK hR => ?_; simp (maxSteps := 10000000) only [go_sem, h62]; (try go_ints); (try simp only [go_sem, h62]); (repeat refine And.intro side ?_); (first | refine hK _ ?_ | refine hR _ _ ?_); clear hK hR K R)
       refine forQ_normal (n - (x + 1)) (by omega) ⟨x + 1, rfl, ?_⟩
       ((try simp only [go_sem]); (repeat' refine And.intro ?_ ?_) <;> (try first | with_reducible rfl | omega | with_reducible assumption | (simp; done)))
     ·simp at hb
      have : x = n := by omega
      subst this
      rw [show outH next (fwd next x d) x x = fwd next x (d + 1) from rfl]
      refine W_freeze o.length (sz := 1) (rows := ints (fwd next x (d + 1))) (by simp) (hp0 _) ?_
      rw [frS_last hok (hd0 _)]
      refine W_weak (s' := ⟨mix 37 91 [8, 9, 10, 11, 12, 13, 14, 15] (tab [(9, .i .i64 (tot + v)), (10, .i .i64 d), (11, .sl 1 (ints (fwd next x (d + 1))))]) (tab [(1, .i .i64 mo), (2, .ptr 0 0 0), (6, .ptr 1 0 0)]), o ++ [.frz 1 (ints (fwd next x (d + 1)))]⟩) (tab_mix (fun y hy => ?_) (fun y hy => ?_)) rfl ?_
      ·simp only [List.mem_cons, List.not_mem_nil, or_false] at hy
       rcases hy with rfl | rfl | rfl
       ·rfl
       ·rfl
       ·simp [mix, inL, tab, upd, AV.unref, hln, htk]
      ·simp only [List.mem_cons, List.not_mem_nil, or_false] at hy
       rcases hy with rfl | rfl | rfl <;> rfl
      repeat (first | refine nav ?_ | refine bo ?_)
      (refine wr fun K R hK hR => ?_; simp (maxSteps := 10000000) only [go_sem]; (try go_ints); (repeat refine And.intro side ?_); (first | refine hK _ ?_ | refine hR _ _ ?_); clear hK hR K R)
      repeat (first | refine nav ?_ | refine bo ?_)
      (refine wr fun K R hK hR => ?_; simp (maxSteps := 10000000) only [go_sem]; (try go_ints); (repeat refine And.intro side ?_); (first | refine hK _ ?_ | refine hR _ _ ?_); clear hK hR K R)
      refine forQ_normal (mo + 1 - (d + 1)) (by omega) ⟨d + 1, tot + v, okO_app hok rfl, o0' _, o1' _, ?_⟩
      ((try simp only [go_sem]); (repeat' refine And.intro ?_ ?_) <;> (try first | with_reducible rfl | omega | with_reducible assumption | (simp; done)))
      rw [show mo + 1 - (d + 1) = f by omega]
      exact hfin
   ·simp only [Bool.or_eq_true, Bool.and_eq_true, Bool.not_eq_true', Bool.not_eq_false', Bool.and_eq_false_iff, Bool.or_eq_false_iff, decide_eq_true_eq, decide_eq_false_iff_not, Bool.not_eq_eq_eq_not, Bool.not_true, Bool.not_false] at hb
    have hres : hwF next n (mo + 1) 0 0 = some tot := by
     rw [← hfin]
     by_cases hdm : d = mo + 1
     ·rw [hdm, Nat.sub_self]; rfl
     ·obtain ⟨f, hf'⟩ : ∃ f, mo + 1 - d = f + 1 := ⟨mo - d, by omega⟩
      rw [hf', hwF, if_neg]
      rcases hb with h | h
      ·omega
      ·exact h
    rw [hres]
    repeat (first | refine nav ?_ | refine bo ?_)
    (refine wr fun K R hK hR => ?_; simp (maxSteps := 10000000) only [go_sem, h9]; (try go_ints); (try simp only [go_sem, h9]); (repeat refine And.intro side ?_); (first | refine hK _ ?_ | refine hR _ _ ?_); clear hK hR K R)
    repeat (first | refine nav ?_ | refine bo ?_)
    refine endQ_data (by simp only [go_sem] <;> exact rfl) (Le.of_eq ?_) rfl
    rfl
end Go.AW
namespace Go.AW
open Go Go.Proofs TyTry Go.IntWalk
set_option linter.unusedSimpArgs false
set_option linter.unusedVariables false
set_option maxRecDepth 10000
end Go.AW
namespace Go.AW
open Go Go.Proofs TyTry Go.IntWalk
set_option linter.unusedSimpArgs false
set_option linter.unusedVariables false
set_option maxRecDepth 10000
def farX (next : List (List Int)) (d : Int) (far : List Int) (x : Nat) : List Int := if (decide (far.getD x 0 < 0) && (next.getD x []).any fun y => far.getD y.toNat 0 == d - 1) = true then far.set x d else far
structure FarOk (next : List (List Int)) (n : Nat) (most : Int) (far : List Int) : Prop where
 len : far.length = n
 bd : ∀ (x : Nat) v, far[x]? = some v → -1 ≤ v ∧ v ≤ most
 zero : ∀ (x : Nat), far[x]? = some 0 → x = n - 1
 pre : ∀ (x : Nat) v, far[x]? = some v → 0 < v → ∃ y ∈ next.getD x [], far.getD y.toNat 0 = v - 1 ∧ y.toNat < n
theorem FarOk.step {next : List (List Int)} {n : Nat} {far : List Int} {d : Int} (hd : 1 ≤ d) (h : FarOk next n d far) (hb : ∀ l ∈ next, ∀ y ∈ l, 0 ≤ y ∧ y < (n : Int)) (x : Nat) : FarOk next n d (farX next d far x) := by
 unfold farX
 split
 ·rename_i hc
  rw [Bool.and_eq_true, decide_eq_true_eq, List.any_eq_true] at hc
  obtain ⟨hneg, y, hy, hyd⟩ := hc
  have hyd : far.getD y.toNat 0 = d - 1 := by simpa using hyd
  have hyn : 0 ≤ y ∧ y < (n : Int) := by
   cases hq : next[x]? with
   | none => rw [List.getD_eq_getElem?_getD, hq] at hy; simp at hy
   | some l => rw [List.getD_eq_getElem?_getD, hq] at hy; exact hb l (List.mem_of_getElem? hq) y hy
  have hkeep : ∀ (z : Nat) (v : Int), 0 ≤ v → z < n → far.getD z 0 = v → (far.set x d).getD z 0 = v := by
   intro z v hv hz he
   rw [List.getD_eq_getElem?_getD, List.getElem?_set]
   split
   ·rename_i e; subst e; omega
   ·rw [← List.getD_eq_getElem?_getD]; exact he
  refine ⟨by rw [List.length_set, h.len], fun z v hv => ?_, fun z hv => ?_, fun z v hv hpos => ?_⟩
  ·rw [List.getElem?_set] at hv
   split at hv
   ·split at hv
    ·simp only [Option.some.injEq] at hv; omega
    ·cases hv
   ·exact h.bd z v hv
  ·rw [List.getElem?_set] at hv
   split at hv
   ·split at hv
    ·simp only [Option.some.injEq] at hv; omega
    ·cases hv
   ·exact h.zero z hv
  ·rw [List.getElem?_set] at hv
   split at hv
   ·split at hv
    ·rename_i e _
     subst e
     simp only [Option.some.injEq] at hv
     subst hv
     exact ⟨y, hy, hkeep _ _ (by omega) (by omega) hyd, by omega⟩
    ·cases hv
   ·obtain ⟨y', hy', h1, h2⟩ := h.pre z v hv hpos
    exact ⟨y', hy', hkeep _ _ (by omega) h2 h1, h2⟩
 ·exact h
theorem FarOk.up {next : List (List Int)} {n : Nat} {far : List Int} {d d' : Int} (h : FarOk next n d far) (hd : d ≤ d') : FarOk next n d' far :=
 ⟨h.len, fun x v hv => ⟨(h.bd x v hv).1, Int.le_trans (h.bd x v hv).2 hd⟩, h.zero, h.pre⟩
end Go.AW
namespace Go.AW
open Go Go.Proofs TyTry Go.IntWalk
set_option linter.unusedSimpArgs false
set_option linter.unusedVariables false
set_option maxRecDepth 10000
end Go.AW
namespace Go.AW
open Go Go.Proofs TyTry Go.IntWalk
set_option linter.unusedSimpArgs false
set_option linter.unusedVariables false
set_option maxRecDepth 10000
end Go.AW
namespace Go.AW
open Go Go.Proofs TyTry Go.IntWalk
set_option linter.unusedSimpArgs false
set_option linter.unusedVariables false
set_option maxRecDepth 10000
theorem codeF_zero {s : StrD} (h : codeF s false = 0) : validF s = true ∧ fitsR symsE s = true := by
 rw [codeF] at h
 split at h
 ·omega
 ·rename_i hv
  split at h
  ·omega
  ·rename_i hf
   exact ⟨by simpa using hv, by simpa using hf⟩
end Go.AW
namespace Go.AW
open Go Go.Proofs TyTry Go.IntWalk
set_option linter.unusedSimpArgs false
set_option linter.unusedVariables false
def sumN (f : Nat → Nat) : Nat → Nat
 | 0 => 0
 | k + 1 => sumN f k + f k
def backN (E : Nat → Nat → Bool) (n : Nat) : Nat → Nat → Nat
 | 0, x => if x = n - 1 then 1 else 0
 | k + 1, x => sumN (fun y => if E x y then backN E n k y else 0) n
def fwdN (E : Nat → Nat → Bool) (n : Nat) : Nat → Nat → Nat
 | 0, y => if y = 0 then 1 else 0
 | k + 1, y => sumN (fun x => if E x y then fwdN E n k x else 0) n
theorem sumN_congr {f g : Nat → Nat} : ∀ {k : Nat}, (∀ i < k, f i = g i) → sumN f k = sumN g k
 | 0, _ => rfl
 | k + 1, h => by rw [sumN, sumN, sumN_congr fun i hi => h i (by omega), h k (by omega)]
theorem sumN_zero : ∀ k : Nat, sumN (fun _ => 0) k = 0
 | 0 => rfl
 | k + 1 => by rw [sumN, sumN_zero k]
theorem sumN_add (f g : Nat → Nat) : ∀ k : Nat, sumN (fun i => f i + g i) k = sumN f k + sumN g k
 | 0 => rfl
 | k + 1 => by simp only [sumN, sumN_add f g k]; omega
theorem sumN_mul (c : Nat) (f : Nat → Nat) : ∀ k : Nat, sumN (fun i => c * f i) k = c * sumN f k
 | 0 => rfl
 | k + 1 => by simp only [sumN, sumN_mul c f k, Nat.mul_add]
theorem sumN_swap (f : Nat → Nat → Nat) (m : Nat) : ∀ k : Nat, sumN (fun i => sumN (f i) m) k = sumN (fun j => sumN (fun i => f i j) k) m
 | 0 => by simp only [sumN]; rw [sumN_zero]
 | k + 1 => by simp only [sumN, sumN_swap f m k]; rw [sumN_add]
theorem sumN_one (f : Nat → Nat) (j : Nat) : ∀ k : Nat, sumN (fun i => if i = j then f i else 0) k = if j < k then f j else 0
 | 0 => rfl
 | k + 1 => by
  rw [sumN, sumN_one f j k]
  by_cases h : j < k
  ·rw [if_pos h, if_neg (by omega), if_pos (by omega)]; omega
  ·rw [if_neg h]
   by_cases h2 : k = j
   ·subst h2; simp
   ·rw [if_neg h2, if_neg (by omega)]
theorem meet (E : Nat → Nat → Bool) (n : Nat) (a b : Nat) : sumN (fun y => fwdN E n (a + 1) y * backN E n b y) n = sumN (fun x => fwdN E n a x * backN E n (b + 1) x) n := by
 have h1 : ∀ y, fwdN E n (a + 1) y * backN E n b y = sumN (fun x => if E x y then fwdN E n a x * backN E n b y else 0) n := by
  intro y
  rw [fwdN, Nat.mul_comm, ← sumN_mul]
  exact sumN_congr fun x _ => by split <;> simp [Nat.mul_comm]
 have h2 : ∀ x, fwdN E n a x * backN E n (b + 1) x = sumN (fun y => if E x y then fwdN E n a x * backN E n b y else 0) n := by
  intro x
  rw [backN, ← sumN_mul]
  exact sumN_congr fun y _ => by split <;> simp
 rw [sumN_congr fun y _ => h1 y, sumN_congr fun x _ => h2 x]
 exact sumN_swap (fun y x => if E x y then fwdN E n a x * backN E n b y else 0) n n
theorem meet_all (E : Nat → Nat → Bool) (n : Nat) : ∀ (a b : Nat), sumN (fun y => fwdN E n a y * backN E n b y) n = sumN (fun y => fwdN E n 0 y * backN E n (a + b) y) n
 | 0, b => by rw [Nat.zero_add]
 | a + 1, b => by rw [meet, meet_all E n a (b + 1), show a + (b + 1) = a + 1 + b by omega]
theorem fwd_back (E : Nat → Nat → Bool) (n : Nat) (hn : 1 ≤ n) (k : Nat) : fwdN E n k (n - 1) = backN E n k 0 := by
 have h := meet_all E n k 0
 have h1 : sumN (fun y => fwdN E n k y * backN E n 0 y) n = fwdN E n k (n - 1) := by
  rw [sumN_congr (g := fun y => if y = n - 1 then fwdN E n k y else 0) fun y _ => by rw [backN]; split <;> simp]
  rw [sumN_one, if_pos (by omega)]
 have h2 : sumN (fun y => fwdN E n 0 y * backN E n (k + 0) y) n = backN E n k 0 := by
  rw [sumN_congr (g := fun y => if y = 0 then backN E n k y else 0) fun y _ => by rw [fwdN, Nat.add_zero]; split <;> simp]
  rw [sumN_one, if_pos (by omega)]
 rw [← h1, h, h2]
theorem addH_get (w : Int) (acc : List Int) (z y : Nat) (hy : y < acc.length) : (addH w acc (z : Int)).getD y 0 = if y = z then min (acc.getD y 0 + w) capH else acc.getD y 0 := by
 rw [addH, Int.toNat_natCast, List.getD_eq_getElem?_getD, List.getElem?_set]
 by_cases h : z = y
 ·subst h; rw [if_pos rfl, if_pos hy, if_pos rfl]; rfl
 ·rw [if_neg h, if_neg (fun e => h e.symm), List.getD_eq_getElem?_getD]
theorem inH_get (w : Int) : ∀ (l : List Nat) (acc : List Int) (y : Nat), l.Pairwise (· < ·) → y < acc.length →
  (inH w (l.map fun z : Nat => (z : Int)) acc).getD y 0 = if y ∈ l then min (acc.getD y 0 + w) capH else acc.getD y 0
 | [], acc, y, _, _ => by simp [inH]
 | z :: l, acc, y, hp, hy => by
  rw [List.pairwise_cons] at hp
  rw [List.map_cons, inH, List.foldl_cons]
  have ih := inH_get w l (addH w acc (z : Int)) y hp.2 (by rw [addH_len]; exact hy)
  rw [inH] at ih
  rw [ih, addH_get w acc z y hy]
  by_cases h : y = z
  ·subst h
   have hno : y ∉ l := fun hm => by have := hp.1 y hm; omega
   rw [if_neg hno, if_pos rfl, if_pos (by simp)]
  ·rw [if_neg h]
   simp [h]
theorem outH_exact (next : List (List Int)) (E : Nat → Nat → Bool) (n : Nat) (hnext : ∀ x < n, next.getD x [] = ((List.range n).filter fun y => E x y).map fun y : Nat => (y : Int)) (now : List Int) (N : Nat → Nat)
  (h : ∀ x < n, now.getD x 0 = min ((N x : Nat) : Int) capH) (y : Nat) (hy : y < n) : ∀ k ≤ n, (outH next now n k).getD y 0 = min ((sumN (fun x => if E x y then N x else 0) k : Nat) : Int) capH
 | 0, _ => by simp [outH, sumN, capH, hy]; omega
 | k + 1, hk => by
  have hc : (0 : Int) ≤ capH := by decide
  rw [outH_succ, hnext k (by omega), inH_get _ _ _ y ((List.pairwise_lt_range).filter _) (by rw [outH_len]; exact hy), outH_exact next E n hnext now N h y hy k (by omega), h k (by omega), sumN]
  simp only [List.mem_filter, List.mem_range, hy, true_and]
  by_cases hE : E k y = true
  ·rw [if_pos hE, if_pos hE]; omega
  ·rw [if_neg hE, if_neg hE]; simp
theorem fwd_exact (next : List (List Int)) (E : Nat → Nat → Bool) (n : Nat) (hnext : ∀ x < n, next.getD x [] = ((List.range n).filter fun y => E x y).map fun y : Nat => (y : Int)) : ∀ (k y : Nat), y < n →
  (fwd next n k).getD y 0 = min ((fwdN E n k y : Nat) : Int) capH
 | 0, y, hy => by
  rw [fwd, fwdN, List.getD_eq_getElem?_getD, List.getElem?_set]
  by_cases h : 0 = y
  ·rw [if_pos h, if_pos (by simp; omega), if_pos h.symm]; rfl
  ·rw [if_neg h, if_neg (fun e => h e.symm)]; simp [hy, capH]; omega
 | k + 1, y, hy => by
  rw [fwd, outH_exact next E n hnext _ (fwdN E n k) (fun x hx => fwd_exact next E n hnext k x hx) y hy n (Nat.le_refl _)]
  rfl
end Go.AW
namespace Go.AW
open Go Go.Proofs TyTry Go.IntWalk
set_option linter.unusedSimpArgs false
set_option linter.unusedVariables false
theorem foldl_max_ge : ∀ (l : List Int) (a : Int), a ≤ l.foldl max a ∧ ∀ y ∈ l, y ≤ l.foldl max a
 | [], a => by simp
 | x :: l, a => by
  obtain ⟨h1, h2⟩ := foldl_max_ge l (max a x)
  rw [List.foldl_cons]
  refine ⟨by omega, fun y hy => ?_⟩
  rcases List.mem_cons.1 hy with rfl | hy
  ·omega
  ·exact h2 y hy
theorem maxI_ge (l : List Int) (y : Nat) (hy : y < l.length) : l.getD y 0 ≤ maxI l := by
 cases l with
 | nil => simp at hy
 | cons a l =>
  obtain ⟨h1, h2⟩ := foldl_max_ge l a
  cases y with
  | zero => simpa [maxI] using h1
  | succ y =>
   have hy' : y < l.length := by simpa using hy
   have := h2 l[y] (List.getElem_mem hy')
   simpa [maxI, hy'] using this
theorem fwdN_dead (E : Nat → Nat → Bool) (n d : Nat) (h : ∀ y < n, fwdN E n d y = 0) : ∀ (i y : Nat), y < n → fwdN E n (d + i) y = 0
 | 0, y, hy => h y hy
 | i + 1, y, hy => by
  rw [show d + (i + 1) = (d + i) + 1 by omega, fwdN, sumN_congr (g := fun _ => 0) fun x hx => by rw [fwdN_dead E n d h i x hx]; split <;> rfl]
  exact sumN_zero n
theorem sumN_mono (f : Nat → Nat) : ∀ (a i : Nat), sumN f a ≤ sumN f (a + i)
 | _, 0 => Nat.le_refl _
 | a, i + 1 => by
  have := sumN_mono f a i
  rw [show a + (i + 1) = (a + i) + 1 by omega, sumN]; omega
theorem sumN_still (f : Nat → Nat) (a : Nat) (h : ∀ i, f (a + i) = 0) : ∀ i : Nat, sumN f (a + i) = sumN f a
 | 0 => rfl
 | i + 1 => by rw [show a + (i + 1) = (a + i) + 1 by omega, sumN, sumN_still f a h i, h i]; rfl
theorem hwF_exact (next : List (List Int)) (E : Nat → Nat → Bool) (n : Nat) (hn : 1 ≤ n) (hnext : ∀ x < n, next.getD x [] = ((List.range n).filter fun y => E x y).map fun y : Nat => (y : Int)) :
  ∀ (f d : Nat), sumN (fun i => backN E n i 0) d ≤ 1099511627776 → hwF next n f d ((sumN (fun i => backN E n i 0) d : Nat) : Int) =
   if sumN (fun i => backN E n i 0) (d + f) ≤ 1099511627776 then some ((sumN (fun i => backN E n i 0) (d + f) : Nat) : Int) else none
 | 0, d, h => by rw [hwF, Nat.add_zero, if_pos h]
 | f + 1, d, h => by
  have hcap : capH = 1099511627777 := rfl
  have hv := fwd_exact next E n hnext d (n - 1) (by omega)
  rw [fwd_back E n hn] at hv
  have hs : sumN (fun i => backN E n i 0) (d + 1) = sumN (fun i => backN E n i 0) d + backN E n d 0 := rfl
  rw [hwF]
  by_cases hmax : maxI (fwd next n d) > 0
  ·rw [if_pos hmax, hv]
   by_cases hbig : sumN (fun i => backN E n i 0) (d + 1) ≤ 1099511627776
   ·rw [if_neg (by omega)]
    have e : (((sumN (fun i => backN E n i 0) d : Nat) : Int) + min ((backN E n d 0 : Nat) : Int) capH) = ((sumN (fun i => backN E n i 0) (d + 1) : Nat) : Int) := by omega
    rw [e, hwF_exact next E n hn hnext f (d + 1) hbig, show d + 1 + f = d + (f + 1) by omega]
   ·have hm := sumN_mono (fun i => backN E n i 0) (d + 1) f
    rw [show d + 1 + f = d + (f + 1) by omega] at hm
    rw [if_pos (by omega), if_neg (by omega)]
  ·rw [if_neg hmax]
   have hz : ∀ y < n, fwdN E n d y = 0 := by
    intro y hy
    have h1 := maxI_ge (fwd next n d) y (by rw [fwd_len]; exact hy)
    rw [fwd_exact next E n hnext d y hy] at h1
    omega
   have hb : ∀ i, backN E n (d + i) 0 = 0 := fun i => by rw [← fwd_back E n hn]; exact fwdN_dead E n d hz i (n - 1) (by omega)
   rw [sumN_still _ d hb (f + 1), if_pos h]
end Go.AW
namespace Go.AW
open Go Go.Proofs TyTry Go.IntWalk
set_option linter.unusedSimpArgs false
set_option linter.unusedVariables false
theorem less_lex (a b c d : Int) : lessL [a, b] [c, d] = true ↔ lexR [a, b] [c, d] := by
 simp only [lessL, lexR, List.getD_cons_zero, List.getD_cons_succ]
 by_cases h : a = c
 ·rw [if_pos h]
  by_cases h2 : b = d
  ·rw [if_pos h2]; simp; omega
  ·rw [if_neg h2]; simp; omega
 ·rw [if_neg h]; simp; omega
def Pr (t : List Int) : Prop := ∃ a b, t = [a, b]
theorem less_lex2 {t u : List Int} (ht : Pr t) (hu : Pr u) : lessL t u = true ↔ lexR t u := by
 obtain ⟨a, b, rfl⟩ := ht
 obtain ⟨c, d, rfl⟩ := hu
 exact less_lex a b c d
theorem lex_tri {t u : List Int} (ht : Pr t) (hu : Pr u) (h : ¬ lexR t u) (hne : u ≠ t) : lexR u t := by
 obtain ⟨a, b, rfl⟩ := ht
 obtain ⟨c, d, rfl⟩ := hu
 simp only [lexR, List.getD_cons_zero, List.getD_cons_succ] at h ⊢
 have : ¬ (c = a ∧ d = b) := fun ⟨e1, e2⟩ => hne (by rw [e1, e2])
 omega
theorem posS_spec (out : List (List Int)) (x : List Int) : ∀ m, (∀ j, posS out x m ≤ j → j < m → lessL x (out.getD j []) = true) ∧ (0 < posS out x m → lessL x (out.getD (posS out x m - 1) []) = false)
 | 0 => ⟨fun j h1 h2 => by omega, fun h => by simp [posS] at h⟩
 | m + 1 => by
  obtain ⟨h1, h2⟩ := posS_spec out x m
  rw [posS]
  cases hl : lessL x (out.getD m []) with
  | true =>
   simp only [if_true]
   refine ⟨fun j a b => ?_, h2⟩
   by_cases e : j = m
   ·subst e; exact hl
   ·exact h1 j a (by omega)
  | false =>
   simp only [Bool.false_eq_true, if_false]
   exact ⟨fun j a b => by omega, fun _ => by simpa using hl⟩
theorem insS_sorted {out : List (List Int)} {x : List Int} (hp : ∀ t ∈ out, Pr t) (hx : Pr x) (hs : out.Pairwise lexR) : (insS out x).Pairwise lexR := by
 obtain ⟨h1, h2⟩ := posS_spec out x out.length
 have hle := posS_le out x out.length
 unfold insS
 simp only
 generalize posS out x out.length = k at h1 h2 hle
 split
 ·exact hs
 ·rename_i hne
  have hlt : ∀ b ∈ out.drop k, lexR x b := by
   intro b hb
   obtain ⟨j, hj⟩ := List.getElem?_of_mem hb
   rw [List.getElem?_drop] at hj
   have hjl := (List.getElem?_eq_some_iff.1 hj).1
   have := h1 (k + j) (by omega) hjl
   rw [getD_of2 hj] at this
   exact (less_lex2 hx (hp b (List.mem_of_getElem? hj))).1 this
  have hgt : ∀ a ∈ out.take k, lexR a x := by
   intro a ha
   obtain ⟨j, hj⟩ := List.getElem?_of_mem ha
   rw [List.getElem?_take] at hj
   split at hj
   ·rename_i hjk
    obtain ⟨y, hy⟩ : ∃ y, out[k - 1]? = some y := ⟨_, List.getElem?_eq_getElem (by omega)⟩
    have hyp := hp y (List.mem_of_getElem? hy)
    have hyx : lexR y x := by
     have h3 := h2 (by omega)
     rw [getD_of2 hy] at h3
     refine lex_tri hx hyp (fun h => ?_) (fun e => hne ⟨by omega, by rw [getD_of2 hy]; exact e⟩)
     rw [(less_lex2 hx hyp).2 h] at h3
     cases h3
    by_cases e : j = k - 1
    ·subst e
     rw [hj] at hy
     obtain rfl := Option.some.inj hy
     exact hyx
    ·have hjl := (List.getElem?_eq_some_iff.1 hj)
     have hyl := (List.getElem?_eq_some_iff.1 hy)
     have := List.pairwise_iff_getElem.1 hs j (k - 1) hjl.1 hyl.1 (by omega)
     rw [hjl.2, hyl.2] at this
     exact lexR_trans this hyx
   ·cases hj
  rw [List.pairwise_append]
  refine ⟨hs.sublist (List.take_sublist _ _), ?_, ?_⟩
  ·rw [List.pairwise_cons]
   exact ⟨hlt, hs.sublist (List.drop_sublist _ _)⟩
  ·intro a ha b hb
   rcases List.mem_cons.1 hb with rfl | hb
   ·exact hgt a ha
   ·exact lexR_trans (hgt a ha) (hlt b hb)
theorem sortS_sorted (l : List (List Int)) (hp : ∀ t ∈ l, Pr t) : (sortS l).Pairwise lexR := by
 have key : ∀ i ≤ l.length, (sortS (l.take i)).Pairwise lexR := by
  intro i
  induction i with
  | zero => intro _; simp [sortS]
  | succ i ih =>
   intro h
   have hl : l[i]? = some l[i] := List.getElem?_eq_getElem (by omega)
   rw [sortS_succ hl]
   exact insS_sorted (fun t ht => hp t (List.mem_of_mem_take ((sortS_mem l i (by omega) t).1 ht))) (hp _ (List.getElem_mem _)) (ih (by omega))
 have := key l.length (Nat.le_refl _)
 rwa [List.take_length] at this
theorem putT_mem {l : List (List Int)} {u y : List Int} : y ∈ putT l u ↔ y ∈ l ∨ y = u := by
 unfold putT
 have h := sortS_mem ((l.filter fun x => !(decide (x = u))) ++ [u]) _ (Nat.le_refl _) y
 rw [List.take_length] at h
 rw [h, List.mem_append, List.mem_filter, List.mem_singleton]
 constructor
 ·rintro (h | h)
  ·exact .inl h.1
  ·exact .inr h
 ·rintro (h | h)
  ·by_cases e : y = u
   ·exact .inr e
   ·exact .inl ⟨h, by simp [e]⟩
  ·exact .inr h
theorem putT_len (l : List (List Int)) (u : List Int) : (putT l u).length ≤ l.length + 1 := by
 unfold putT
 have h := sortS_len ((l.filter fun x => !(decide (x = u))) ++ [u]) _ (Nat.le_refl _)
 rw [List.take_length, List.length_append, List.length_singleton] at h
 have := List.length_filter_le (fun x => !(decide (x = u))) l
 omega
theorem putT_sorted {l : List (List Int)} {u : List Int} (hp : ∀ t ∈ l, Pr t) (hu : Pr u) : (putT l u).Pairwise lexR := by
 refine sortS_sorted _ fun t ht => ?_
 rcases List.mem_append.1 ht with h | h
 ·exact hp t (List.mem_filter.1 h).1
 ·rw [List.mem_singleton.1 h]; exact hu
theorem tuples_of {n : Int} {l : List (List Int)} (hp : ∀ t ∈ l, Pr t ∧ ∀ x ∈ t, 0 ≤ x ∧ x < n) (hs : l.Pairwise lexR) : tuplesF n 2 l = true := by
 simp only [tuplesF, List.all_eq_true, List.mem_range]
 intro i hi
 have hl : l[i]? = some l[i] := List.getElem?_eq_getElem hi
 obtain ⟨hpr, hr⟩ := hp l[i] (List.getElem_mem _)
 simp only [tupOk, getD_of2 hl]
 simp only [Bool.and_eq_true, Bool.not_eq_true', List.any_eq_false, Bool.or_eq_true, decide_eq_true_eq]
 refine ⟨⟨?_, fun x hx => ?_⟩, ?_⟩
 ·obtain ⟨a, b, e⟩ := hpr
  rw [e]; rfl
 ·have := hr x hx
  simp; omega
 ·by_cases h0 : i = 0
  ·exact .inl h0
  ·right
   obtain ⟨y, hy⟩ : ∃ y, l[i - 1]? = some y := ⟨_, List.getElem?_eq_getElem (by omega)⟩
   have hyl := List.getElem?_eq_some_iff.1 hy
   rw [getD_of2 hy]
   have h3 := List.pairwise_iff_getElem.1 hs (i - 1) i hyl.1 hi (by omega)
   rw [hyl.2] at h3
   have hypr := (hp y (List.mem_of_getElem? hy)).1
   have h4 := (less_lex2 hypr hpr).2 h3
   have hlen : y.length = l[i].length := by
    obtain ⟨a, b, e⟩ := hypr
    obtain ⟨c, d, e2⟩ := hpr
    rw [e, e2]; rfl
   rw [lessL_cmp y _ hlen] at h4
   simpa using h4
end Go.AW
