/-
The search for models: its end, and what is found.
-/
import Derived.Test.YtilaieleaiadeaaKam
import Derived.Test.YtilaieleaiadeaaKal
import Derived.Test.YtilaieleaiadeaaKag
namespace Go.AW
open Go Go.Proofs TyTry Go.IntWalk
set_option linter.unusedSimpArgs false
set_option linter.unusedVariables false
set_option maxRecDepth 10000
set_option maxHeartbeats 1000000
theorem over_spec {o : List Ob} {K : Nat} {d : IdS} {c : Env} {ta : AV} {s : SV} (h : RepG o K d c ta s) :
  ACallsQ Try.prog 84 [.ptr K 0 0] o (.b (s.exh || (c.first && decide (s.cnt > 0)) || decide (s.cnt > 1099511627776))) := by
 have ho := h.ok
 refine ACalls_of' (n := 27) (rs := [.tmp 2]) (show Try.prog.funcs[84]? = some Try.f84 by kernel_rfl) rfl rfl rfl (by simp) (by decide +kernel) ?_
 repeat (first | refine nav ?_ | refine bo ?_)
 (refine wr fun K R hK hR => ?_; simp (maxSteps := 10000000) only [go_sem]; (try go_ints); (repeat refine And.intro side ?_); (first | refine hK _ ?_ | refine hR _ _ ?_); clear hK hR K R)
 repeat (first | refine nav ?_ | refine bo ?_)
 (refine wr fun K R hK hR => ?_; simp (maxSteps := 10000000) only [go_sem, h.k, rowK]; (try go_ints); (try simp only [go_sem, h.k, rowK]); (repeat refine And.intro side ?_); (first | refine hK _ ?_ | refine hR _ _ ?_); clear hK hR K R)
 repeat (first | refine nav ?_ | refine bo ?_)
 refine endQ_quiet0 (by simp only [go_sem] <;> exact rfl) (Le.of_eq ?_) (by assumption) rfl
 rfl
def capF : Int := 1099511627777
def foundC (free : Nat) (cnt : Int) : Int := min (cnt + (2 ^ free : Nat)) capF
def mdP (n : Nat) (tr : List Int) (k : Nat) : List Bool := (List.range n).map fun v => decide (v < k) && decide (valOf tr v > 0)
theorem mdP_len (n : Nat) (tr : List Int) (k : Nat) : (mdP n tr k).length = n := by simp [mdP]
theorem mdP_zero (n : Nat) (tr : List Int) : mdP n tr 0 = List.replicate n false := by
 apply List.ext_getElem?
 intro i
 by_cases h : i < n <;> simp [mdP, h, List.getElem?_replicate]
theorem mdP_full (n : Nat) (tr : List Int) : mdP n tr n = modelOf n tr := by
 unfold mdP modelOf valL
 rw [List.map_map]
 refine List.map_congr_left fun x hx => ?_
 simp [List.mem_range.1 hx]
theorem mdP_set (n : Nat) (tr : List Int) (k : Nat) (hk : k < n) : (mdP n tr k).set k (decide (valOf tr k > 0)) = mdP n tr (k + 1) := by
 apply List.ext_getElem?
 intro i
 rw [List.getElem?_set]
 by_cases hi : i < n
 ·by_cases e : k = i
  ·subst e; simp [mdP, hi]
  ·have : (i < k + 1) = (i < k) := by apply propext; omega
   simp [mdP, hi, e, this]
 ·have : k ≠ i := by omega
  simp [mdP, hi, this]
theorem found_spec {o : List Ob} {K : Nat} {d : IdS} {c : Env} {ta : AV} {tr : List Int} {br cnt : Int} {exh : Bool} (h : RepG o K d c ta (canon c tr br .nsl cnt exh)) (hc : EnvOk c) (htr : TrOk c.vars tr) (hcnt : 0 ≤ cnt ∧ cnt ≤ capF) :
  ACalls Try.prog 83 [.ptr K 0 0] o fun r o' => r = .tup [] ∧ ∃ md', RepG o' K d c ta (canon c tr br md' (foundC (c.vars - tr.length) cnt) exh) ∧ o.length ≤ o'.length ∧
   (c.first = false → md' = .nsl) ∧ (c.first = true → ∃ J, md' = .ref J 0 c.vars ∧ o'[J]? = some (.cells 1 (bools (modelOf c.vars tr))) ∧ o.length ≤ J) := by
 have hok := h.ok
 have hcv := hc.vars
 have hlk := lav_ltk hc
 have hrl := htr.len
 have lK := (List.getElem?_eq_some_iff.1 h.k).1
 have hcap : capF = 1099511627777 := rfl
 refine ACalls_of' (n := 71) (rs := []) (show Try.prog.funcs[83]? = some Try.f83 by kernel_rfl) rfl rfl rfl (by simp) (by decide +kernel) ?_
 repeat (first | refine nav ?_ | refine bo ?_)
 refine W_joinS 5 16 [2] (fun t o' => o' = o ∧ t 2 = .i .i64 ((c.vars : Int) - tr.length)) ?_ ?_
 ·rcases h.t with ⟨rfl, ht0⟩ | ⟨T, ex, rfl, hT, _⟩
  ·have ht0 : tr = [] := ht0
   subst ht0
   (refine W_dreg (by decide +kernel) [] [0, 1, 2, 3, 4, 5, 6, 7, 8, 9, 10, 11] [[], [0], [0, 1], [1, 0, 2], [2, 0, 1, 3], [], [5], [5, 6], [6, 5, 7], [7, 5, 6, 8], [8, 6, 5, 7, 9, 3, 1, 0, 2, 4], [4, 2, 0, 1, 3, 9, 7, 5, 6, 8, 10]] (by decide +kernel) rfl fun K R hK hR => ?_; simp only [List.filterMap_cons, List.filterMap_nil, List.getElem?_cons_zero, List.getElem?_cons_succ, List.cons_append, List.nil_append]; simp (maxSteps := 10000000) only [go_sem, h.k, rowK, canon]; (try go_ints); (try simp only [go_sem, h.k, rowK, canon]); (repeat refine And.intro side ?_); (first | refine hK _ ?_ | refine hR _ _ ?_); clear hK hR K R)
   exact ⟨_, rfl, rfl, by simp only [go_sem] <;> simp⟩
  ·(refine W_dreg (by decide +kernel) [] [0, 1, 2, 3, 4, 5, 6, 7, 8, 9, 10, 11] [[], [0], [0, 1], [1, 0, 2], [2, 0, 1, 3], [], [5], [5, 6], [6, 5, 7], [7, 5, 6, 8], [8, 6, 5, 7, 9, 3, 1, 0, 2, 4], [4, 2, 0, 1, 3, 9, 7, 5, 6, 8, 10]] (by decide +kernel) rfl fun K R hK hR => ?_; simp only [List.filterMap_cons, List.filterMap_nil, List.getElem?_cons_zero, List.getElem?_cons_succ, List.cons_append, List.nil_append]; simp (maxSteps := 10000000) only [go_sem, h.k, rowK, canon]; (try go_ints); (try simp only [go_sem, h.k, rowK, canon]); (repeat refine And.intro side ?_); (first | refine hK _ ?_ | refine hR _ _ ?_); clear hK hR K R)
   exact ⟨_, rfl, rfl, by simp only [go_sem]⟩
 rintro t o1 ⟨e1, h2⟩
 rw [e1]
 clear e1 o1
 repeat (first | refine nav ?_ | refine bo ?_)
 (refine wr fun K R hK hR => ?_; simp (maxSteps := 10000000) only [go_sem, h2]; (try go_ints); (try simp only [go_sem, h2]); (repeat refine And.intro side ?_); (first | refine hK _ ?_ | refine hR _ _ ?_); clear hK hR K R)
 refine seqQ_normal ?_
 refine W_joinS 18 32 [] (fun t o' => RepG o' K d c ta (canon c tr br .nsl (foundC (c.vars - tr.length) cnt) exh) ∧ o'.length = o.length) ?_ ?_
 ·refine W_cond (by simp only [go_sem] <;> exact rfl) (fun hb => ?_) (fun hb => ?_)
  ·have hb : (c.vars : Int) - tr.length > 40 := by simpa using hb
   have hfc : foundC (c.vars - tr.length) cnt = 1099511627777 := by
    unfold foundC
    have : 2 ^ 41 ≤ 2 ^ (c.vars - tr.length) := Nat.pow_le_pow_right (by omega) (by omega)
    omega
   rw [hfc]
   repeat (first | refine nav ?_ | refine bo ?_)
   (refine wr fun K R hK hR => ?_; simp (maxSteps := 10000000) only [go_sem, h.k, rowK, canon]; (try go_ints); (try simp only [go_sem, h.k, rowK, canon]); (repeat refine And.intro side ?_); (first | refine hK _ ?_ | refine hR _ _ ?_); clear hK hR K R)
   exact ⟨_, rfl, h.setK hlk h.taOk (s' := canon c tr br .nsl 1099511627777 exh) rfl rfl rfl rfl ⟨rfl, rfl, rfl⟩, by simp⟩
  ·have hb : ¬ (c.vars : Int) - tr.length > 40 := by simpa using hb
   obtain ⟨free, hfree⟩ : ∃ free, c.vars - tr.length = free := ⟨_, rfl⟩
   have hf40 : free ≤ 40 := by omega
   have hint : (c.vars : Int) - tr.length = (free : Int) := by omega
   have hp2 : 2 ^ free ≤ 2 ^ 40 := Nat.pow_le_pow_right (by omega) hf40
   rw [hfree]
   rw [hint] at h2
   have hval : (if 1099511627777 < RowKit.wrap64 (cnt + RowKit.wrap64 (1 * 2 ^ min free 64)) then (1099511627777 : Int) else RowKit.wrap64 (cnt + RowKit.wrap64 (1 * 2 ^ min free 64))) = foundC free cnt := by
    have e : min free 64 = free := by omega
    have e2 : (2 : Int) ^ free = ((2 ^ free : Nat) : Int) := by simp
    unfold foundC
    rw [e, Int.one_mul, e2]
    generalize (2 ^ free : Nat) = p at hp2
    rw [wrap64_in (p : Int) (by omega), wrap64_in _ (by omega)]
    split <;> omega
   (refine W_dreg (by decide +kernel) [] [0, 1, 2, 3, 4, 5, 6, 7, 8, 9, 10, 11] [[], [], [1], [1, 2], [2, 1, 3], [], [5], [5, 6, 3, 1, 2, 4], [4, 2, 1, 3, 6, 5, 7], [8, 7, 6, 5, 4, 3, 2, 1, 0], [0, 1, 2, 3, 4, 5, 6, 7, 8, 9], [9, 8, 7, 6, 5, 4, 3, 2, 1, 0, 10]] (by decide +kernel) rfl fun K R hK hR => ?_; simp only [List.filterMap_cons, List.filterMap_nil, List.getElem?_cons_zero, List.getElem?_cons_succ, List.cons_append, List.nil_append]; simp (maxSteps := 10000000) only [go_sem, h2, h.k, rowK, canon]; (try go_ints); (try simp only [go_sem, h2, h.k, rowK, canon]); (repeat refine And.intro side ?_); (first | refine hK _ ?_ | refine hR _ _ ?_); clear hK hR K R)
   rw [hval]
   exact ⟨_, rfl, h.setK hlk h.taOk (s' := canon c tr br .nsl (foundC free cnt) exh) rfl rfl rfl rfl ⟨rfl, rfl, rfl⟩, by simp⟩
 rintro t2 o2 ⟨hr2, hl2⟩
 generalize foundC (c.vars - tr.length) cnt = cnt2 at hr2
 have hok2 := hr2.ok
 repeat (first | refine nav ?_ | refine bo ?_)
 cases hfi : c.first with
 | false =>
  (refine wr fun K R hK hR => ?_; simp (maxSteps := 10000000) only [go_sem, hr2.k, rowK, canon, hfi]; (try go_ints); (try simp only [go_sem, hr2.k, rowK, canon, hfi]); (repeat refine And.intro side ?_); (first | refine hK _ ?_ | refine hR _ _ ?_); clear hK hR K R)
  repeat (first | refine nav ?_ | refine bo ?_)
  refine W_cond (b := false) (by simp only [go_sem, hfi]) (fun hb => by cases hb) (fun _ => ?_)
  repeat (first | refine nav ?_ | refine bo ?_)
  refine endQ_alln (by simp only [go_sem] <;> exact rfl) (Le.refl _) (show o.length ≤ o2.length by omega) hok2 rfl ⟨rfl, .nsl, hr2, show o.length ≤ o2.length by omega, fun _ => rfl, fun h => by cases h⟩
 | true =>
  (refine W_reg [1000000] fun K R hK hR => ?_; simp (maxSteps := 10000000) only [go_sem, hr2.k, rowK, canon, hfi]; (try go_ints); (try simp only [go_sem, hr2.k, rowK, canon, hfi]); (repeat refine And.intro side ?_); (first | refine hK _ ?_ | refine hR _ _ ?_); clear hK hR K R)
  repeat (first | refine nav ?_ | refine bo ?_)
  refine W_cond (b := true) (by simp only [go_sem, hfi]) (fun _ => ?_) (fun hb => by cases hb)
  repeat (first | refine nav ?_ | refine bo ?_)
  have hk3 := fun l => app_get l hr2.k
  simp only [rowK, canon] at hk3
  have hi0 : List.replicate c.vars [AV.b false] = bools (mdP c.vars tr 0) := by rw [mdP_zero]; simp [bools]
  have hok3 : okO (o2 ++ [Ob.cells 1 (bools (mdP c.vars tr 0))]) = true := okO_app hok2 (by simp [Ob.ltk, AV.ltk, bools])
  have hr3 := hr2.push [Ob.cells 1 (bools (mdP c.vars tr 0))] hok3
  have hr4 := hr3.setK hlk hr3.taOk (s' := canon c tr br (.ref o2.length 0 c.vars) cnt2 exh) rfl rfl rfl rfl ⟨by simp [canon, AV.ltk], rfl, rfl⟩
  have hK2 : K < o2.length := by omega
  have hJ4 : ((o2 ++ [Ob.cells 1 (bools (mdP c.vars tr 0))]).set K (.cells 13 [rowK c d ta (canon c tr br (.ref o2.length 0 c.vars) cnt2 exh)]))[o2.length]? = some (.cells 1 (bools (mdP c.vars tr 0))) := by
   rw [List.getElem?_set_ne (by omega)]; simp
  have hta : ∀ l, ta ≠ .ref o2.length 0 l := by
   intro l e
   have := hr2.taOk
   rw [e] at this
   simp [AV.ltk] at this
  refine W_joinS 43 52 [] (fun t o3 => RepG o3 K d c ta (canon c tr br (.ref o2.length 0 c.vars) cnt2 exh) ∧ o3[o2.length]? = some (.cells 1 (bools (mdP c.vars tr 0))) ∧ o2.length < o3.length) ?_ ?_
  ·(refine wr fun K R hK hR => ?_; simp (maxSteps := 10000000) only [go_sem, hr2.k, rowK, canon, hk3, hi0]; (try go_ints); (try simp only [go_sem, hr2.k, rowK, canon, hk3, hi0]); (repeat refine And.intro side ?_); (first | refine hK _ ?_ | refine hR _ _ ?_); clear hK hR K R)
   exact ⟨_, rfl, hr4, hJ4, by simp⟩
  clear hr3 hr4 hJ4 hok3 hi0 hk3
  rintro t3 o3 ⟨hr3, hJ3, hl3⟩
  repeat (first | refine nav ?_ | refine bo ?_)
  (refine wr fun K R hK hR => ?_; simp (maxSteps := 10000000) only [go_sem, hr3.k, rowK, canon]; (try go_ints); (try simp only [go_sem, hr3.k, rowK, canon]); (repeat refine And.intro side ?_); (first | refine hK _ ?_ | refine hR _ _ ?_); clear hK hR K R)
  repeat (first | refine nav ?_ | refine bo ?_)
  refine W_for 57 71 [3, 4] (fun m t o4 => ∃ k : Nat, RepG o4 K d c ta (canon c tr br (.ref o2.length 0 c.vars) cnt2 exh) ∧ o4[o2.length]? = some (.cells 1 (bools (mdP c.vars tr k))) ∧ o2.length < o4.length ∧ t 57 = .i .i64 k ∧ m = c.vars - k ∧ k ≤ c.vars) c.vars
   ⟨0, hr3, hJ3, hl3, by simp only [go_sem] <;> rfl, by omega, Nat.zero_le _⟩ ?_
  clear hr3 hJ3 hl3 o3
  rintro m t4 o3 ⟨k, hr3, hJ3, hl3, h57, rfl, hk⟩
  repeat (first | refine nav ?_ | refine bo ?_)
  (refine wr fun K R hK hR => ?_; simp (maxSteps := 10000000) only [go_sem, h57]; (try go_ints); (try simp only [go_sem, h57]); (repeat refine And.intro side ?_); (first | refine hK _ ?_ | refine hR _ _ ?_); clear hK hR K R)
  repeat (first | refine nav ?_ | refine bo ?_)
  refine W_cond (by simp only [go_sem] <;> exact rfl) (fun hb => ?_) (fun hb => ?_)
  ·simp at hb
   have hv := valL_get (tr := tr) hb
   have hvl := valL_len c.vars tr
   obtain ⟨mv, hmv⟩ : ∃ v, (mdP c.vars tr k)[k]? = some v := ⟨_, List.getElem?_eq_getElem (by rw [mdP_len]; omega)⟩
   have hml := mdP_len c.vars tr k
   have hset := mdP_set c.vars tr k hb
   have hv3 := hr3.v
   simp only [canon] at hv3
   repeat (first | refine nav ?_ | refine bo ?_)
   (refine wr fun K R hK hR => ?_; simp (maxSteps := 10000000) only [go_sem, h57, hr3.v, canon, ints_get hv]; (try go_ints); (try simp only [go_sem, h57, hr3.v, canon, ints_get hv]); (repeat refine And.intro side ?_); (first | refine hK _ ?_ | refine hR _ _ ?_); clear hK hR K R)
   repeat (first | refine nav ?_ | refine bo ?_)
   (refine wr fun K R hK hR => ?_; simp (maxSteps := 10000000) only [go_sem, hr3.k, rowK, canon, hJ3, bools_get hmv, hml, bools_set, hset]; (try go_ints); (try simp only [go_sem, hr3.k, rowK, canon, hJ3, bools_get hmv, hml, bools_set, hset]); (repeat refine And.intro side ?_); (first | refine hK _ ?_ | refine hR _ _ ?_); clear hK hR K R)
   repeat (first | refine nav ?_ | refine bo ?_)
   (refine wr fun K R hK hR => ?_; simp (maxSteps := 10000000) only [go_sem, h57]; (try go_ints); (try simp only [go_sem, h57]); (repeat refine And.intro side ?_); (first | refine hK _ ?_ | refine hR _ _ ?_); clear hK hR K R)
   have hs : ∀ (X : Ob) (j : Nat), (o3.set o2.length X)[j]? = if j = o2.length then some X else o3[j]? := fun X j => set_get hJ3
   refine forQ_normal (c.vars - (k + 1)) (by omega) ⟨k + 1, RepG.others hr2 hr3 (Q := o2.length) (Nat.le_refl _) hta (by simp) (fun j X hj hn => by rw [hs, if_neg hn]; exact hj) (okO_set hr3.ok (bools_ltk _ _)), by rw [hs, if_pos rfl], by simpa using hl3, ?_⟩
   ((try simp only [go_sem]); (repeat' refine And.intro ?_ ?_) <;> (try first | with_reducible rfl | omega | with_reducible assumption | (simp; done)))
  ·simp at hb
   obtain rfl : c.vars = k := by omega
   rw [mdP_full] at hJ3
   repeat (first | refine nav ?_ | refine bo ?_)
   refine endQ_alln (by simp only [go_sem] <;> exact rfl) (Le.refl _) (show o.length ≤ o3.length by omega) hr3.ok rfl ⟨rfl, _, hr3, show o.length ≤ o3.length by omega, fun h => Bool.noConfusion h, fun _ => ⟨_, rfl, hJ3, by omega⟩⟩
end Go.AW
namespace Go.AW
open Go Go.Proofs TyTry Go.IntWalk
set_option linter.unusedSimpArgs false
set_option linter.unusedVariables false
set_option maxRecDepth 10000
set_option maxHeartbeats 2000000
structure RP (c : Env) (K : Nat) (d : IdS) (o : List Ob) (ta : AV) (M B : Nat) (br cnt br' cnt' : Int) (md' : AV) (exh' : Bool) : Prop where
 b0 : br ≤ br'
 b1 : br' ≤ br + B
 b2 : br' ≤ 200001
 ex : exh' = decide (br' > 200000)
 c0 : 0 ≤ cnt' ∧ cnt' ≤ capF
 no : c.first = false → md' = .nsl ∧ (exh' = false → cnt' = min (cnt + M) capF)
 yes : c.first = true → (cnt' = 0 → md' = .nsl) ∧ (exh' = false → (0 < cnt' ↔ 0 < M)) ∧
  (0 < cnt' → ∃ J a, md' = .ref J 0 c.vars ∧ o[J]? = some (.cells 1 (bools a)) ∧ a.length = c.vars ∧ satC c.list a = true ∧ J ≠ K ∧ J ≠ d.L ∧ J ≠ d.G ∧ J ≠ d.V ∧ ∀ l, ta ≠ .ref J 0 l)
section
variable {c : Env} {K : Nat} {d : IdS} {o o1 o2 : List Ob} {ta ta1 ta2 : AV} {M M1 M2 B B1 B2 : Nat} {br cnt br1 cnt1 br2 cnt2 : Int} {md1 md2 : AV} {exh1 exh2 : Bool}
theorem RP.comb (h1 : RP c K d o1 ta1 M1 B1 br cnt br1 cnt1 md1 exh1) (hn : exh1 = false) (hc1 : cnt1 ≤ 1099511627776) (hf : c.first = true → cnt1 = 0) (h2 : RP c K d o2 ta2 M2 B2 br1 cnt1 br2 cnt2 md2 exh2) : RP c K d o2 ta2 (M1 + M2) (B1 + B2) br cnt br2 cnt2 md2 exh2 := by
 have hcap : capF = 1099511627777 := rfl
 refine ⟨Int.le_trans h1.b0 h2.b0, ?_, h2.b2, h2.ex, h2.c0, fun hfi => ⟨(h2.no hfi).1, fun he => ?_⟩, fun hfi => ⟨(h2.yes hfi).1, fun he => ?_, (h2.yes hfi).2.2⟩⟩
 ·have a := h1.b1; have b := h2.b1; omega
 ·have a := (h1.no hfi).2 hn; have b := (h2.no hfi).2 he; omega
 ·have a := (h1.yes hfi).2.1 hn; have b := (h2.yes hfi).2.1 he
  have e := hf hfi
  constructor
  ·intro h; have := b.1 h; omega
  ·intro h
   refine b.2 ?_
   have : ¬ 0 < M1 := fun h => by have := a.2 h; omega
   omega
theorem RP.over (h : RP c K d o1 ta1 M1 B1 br cnt br1 cnt1 md1 exh1) (ho : (exh1 || (c.first && decide (cnt1 > 0)) || decide (cnt1 > 1099511627776)) = true) (hM : M1 ≤ M) (hB : B1 ≤ B) : RP c K d o1 ta1 M B br cnt br1 cnt1 md1 exh1 := by
 have hcap : capF = 1099511627777 := rfl
 refine ⟨h.b0, by have := h.b1; omega, h.b2, h.ex, h.c0, fun hfi => ⟨(h.no hfi).1, fun he => ?_⟩, fun hfi => ⟨(h.yes hfi).1, fun he => ?_, (h.yes hfi).2.2⟩⟩
 ·have a := (h.no hfi).2 he
  rw [he, hfi] at ho
  simp only [Bool.false_and, Bool.or_false, Bool.false_or, decide_eq_true_eq] at ho
  omega
 ·have a := (h.yes hfi).2.1 he
  rw [he, hfi] at ho
  simp only [Bool.true_and, Bool.false_or, Bool.or_eq_true, decide_eq_true_eq] at ho
  have h1 : 0 < cnt1 := by omega
  have h2 := a.1 h1
  exact ⟨fun _ => by omega, fun _ => h1⟩
theorem RP.more (h : RP c K d o1 ta1 M B1 br cnt br1 cnt1 md1 exh1) (hB : B1 ≤ B) : RP c K d o1 ta1 M B br cnt br1 cnt1 md1 exh1 :=
 ⟨h.b0, by have := h.b1; omega, h.b2, h.ex, h.c0, h.no, h.yes⟩
theorem RP.objs (h : RP c K d o1 ta1 M B br cnt br1 cnt1 md1 exh1) (hJ : ∀ J, J < o1.length → J ≠ K → J ≠ d.L → J ≠ d.G → J ≠ d.V → (∀ l, ta1 ≠ .ref J 0 l) → o2[J]? = o1[J]? ∧ ∀ l, ta2 ≠ .ref J 0 l) : RP c K d o2 ta2 M B br cnt br1 cnt1 md1 exh1 := by
 refine ⟨h.b0, h.b1, h.b2, h.ex, h.c0, h.no, fun hfi => ⟨(h.yes hfi).1, (h.yes hfi).2.1, fun hp => ?_⟩⟩
 obtain ⟨J, a, e1, e2, e3, e4, n1, n2, n3, n4, n5⟩ := (h.yes hfi).2.2 hp
 obtain ⟨q1, q2⟩ := hJ J (List.getElem?_eq_some_iff.1 e2).1 n1 n2 n3 n4 n5
 exact ⟨J, a, e1, q1.trans e2, e3, e4, n1, n2, n3, n4, q2⟩
end
theorem open_var {c : Env} (hc : EnvOk c) {tr : List Int} (htr : TrOk c.vars tr) (hq : Quiet c.list tr) (hne : ∀ l ∈ c.list, l ≠ []) (h : zeros (goodL c.list tr) ≠ 0) : ∃ w < c.vars, valOf tr w = 0 := by
 obtain ⟨i, hi, hg⟩ := open_some h
 have hl : c.list.getD i [] = c.list[i] := by simp [hi]
 obtain ⟨z, hz, hz0⟩ := open_left htr hg (hq i hi (by rw [hl]; exact hne _ (List.getElem_mem hi)) hg)
 rw [hl] at hz
 obtain ⟨z0, z1, z2⟩ := hc.lit _ (List.getElem_mem hi) z hz
 by_cases hp : z > 0
 ·refine ⟨(z - 1).toNat, by omega, ?_⟩
  rw [← isL_val, show (((z - 1).toNat : Nat) : Int) + 1 = z by omega]; exact hz0
 ·refine ⟨(-z - 1).toNat, by omega, ?_⟩
  have e := isL_neg htr (v := (-z - 1).toNat)
  rw [show -((((-z - 1).toNat : Nat) : Int) + 1) = z by omega, hz0] at e
  omega
theorem run_spec {K : Nat} {d : IdS} {c : Env} (hc : EnvOk c) (hne : ∀ l ∈ c.list, l ≠ []) : ∀ (N v : Nat) (tr : List Int) (o : List Ob) (ta : AV) (br cnt : Int), c.vars - v < N → v ≤ c.vars → RepG o K d c ta (canon c tr br .nsl cnt false) → TrOk c.vars tr → Quiet c.list tr →
  (∀ u < v, valOf tr u ≠ 0) → 0 ≤ br → br ≤ 200000 → 0 ≤ cnt → cnt ≤ 1099511627776 → (c.first = true → cnt = 0) →
  ACalls Try.prog 65 [.ptr K 0 0, .i .i64 v] o fun r o' => r = .tup [] ∧ ∃ ta' br' cnt' md' exh', RepG o' K d c ta' (canon c tr br' md' cnt' exh') ∧ RP c K d o' ta' (cntM c.vars c.list tr) (2 ^ (c.vars - v) - 1) br cnt br' cnt' md' exh' ∧ o.length ≤ o'.length
 | 0, _, _, _, _, _, _, h, _, _, _, _, _, _, _, _, _, _ => by omega
 | N + 1, v, tr, o, ta, br, cnt, hN, hv, h, htr, hq, hass, hb0, hb1, hc0, hc1, hfc => by
  have ih := run_spec (K := K) (d := d) hc hne N
  have hok := h.ok
  have lK := (List.getElem?_eq_some_iff.1 h.k).1
  have lL := (List.getElem?_eq_some_iff.1 h.l).1
  have lG := (List.getElem?_eq_some_iff.1 h.g).1
  have lV := (List.getElem?_eq_some_iff.1 h.v).1
  have hcv := hc.vars
  have hlk := lav_ltk hc
  have hrl := htr.len
  have hcap : capF = 1099511627777 := rfl
  have hzb := zeros_bd (goodL c.list tr)
  rw [goodL_len] at hzb
  have hll := hc.list
  refine ACalls_of' (n := 68) (rs := []) (show Try.prog.funcs[65]? = some Try.f65 by kernel_rfl) rfl rfl rfl (by simp) (by decide +kernel) ?_
  repeat (first | refine nav ?_ | refine bo ?_)
  (refine wr fun K R hK hR => ?_; simp (maxSteps := 10000000) only [go_sem, h.k, rowK, canon]; (try go_ints); (try simp only [go_sem, h.k, rowK, canon]); (repeat refine And.intro side ?_); (first | refine hK _ ?_ | refine hR _ _ ?_); clear hK hR K R)
  repeat (first | refine nav ?_ | refine bo ?_)
  refine W_cond (by simp only [go_sem] <;> exact rfl) (fun hb => ?_) (fun hb => ?_)
  ·have hb : zeros (goodL c.list tr) = 0 := by simpa using hb
   have hop := open_zero hb
   repeat (first | refine nav ?_ | refine bo ?_)
   (refine wr fun K R hK hR => ?_; simp (maxSteps := 10000000) only [go_sem]; (try go_ints); (repeat refine And.intro side ?_); (first | refine hK _ ?_ | refine hR _ _ ?_); clear hK hR K R)
   refine RL_callE (found_spec h hc htr ⟨hc0, by omega⟩) (fun r o' ⟨e1, md', e2, e3, _⟩ => ⟨e3, by rw [e1]; rfl, e2.ok⟩) (by simp only [go_sem] <;> exact rfl) rfl rfl (by simp) (by simp only [go_sem] <;> exact LeA.refl _) hok (by simp [AV.ltk]; omega) ?_
   rintro r o2 ⟨rfl, md', hr2, hl2, hno, hyes⟩
   (refine rr fun K R hK hR => ?_; simp (maxSteps := 10000000) only [go_sem]; (try go_ints); (repeat refine And.intro side ?_); (first | refine hK _ ?_ | refine hR _ _ ?_); clear hK hR K R)
   repeat (first | refine nav ?_ | refine bo ?_)
   have hM := cntM_all (list := c.list) htr hop
   have hpos : 1 ≤ 2 ^ (c.vars - tr.length) := Nat.one_le_two_pow
   refine endQ_all (by simp only [go_sem] <;> exact rfl) (Le.refl _) hl2 hr2.ok rfl ⟨rfl, ta, br, _, md', false, hr2, ?_, hl2⟩
   rw [hM]
   refine ⟨Int.le_refl _, by omega, by omega, by simp; omega, ?_, fun hfi => ⟨hno hfi, fun _ => rfl⟩, fun hfi => ⟨fun h0 => ?_, fun _ => ⟨fun _ => by omega, fun _ => ?_⟩, fun _ => ?_⟩⟩
   ·unfold foundC; omega
   ·unfold foundC at h0; omega
   ·unfold foundC; omega
   ·obtain ⟨J, e1, e2, e3⟩ := hyes hfi
    have e3 : o.length ≤ J := e3
    refine ⟨J, _, e1, e2, modelOf_len _ _, good_sat (n := c.vars) hop (modelOf_agr htr), by omega, by omega, by omega, by omega, fun l e => ?_⟩
    have := h.taOk
    rw [e] at this
    simp [AV.ltk] at this
    omega
  ·have hb : zeros (goodL c.list tr) ≠ 0 := by simpa using hb
   obtain ⟨w, hw1, hw2⟩ := open_var hc htr hq hne hb
   have hvw : v ≤ w := Nat.le_of_not_lt fun h => hass w h hw2
   have hcl := h.k
   repeat (first | refine nav ?_ | refine bo ?_)
   refine W_for 14 24 [1] (fun m t o' => ∃ u : Nat, o' = o ∧ t 1 = .i .i64 u ∧ v ≤ u ∧ u ≤ w ∧ (∀ z < u, valOf tr z ≠ 0) ∧ m = c.vars - u) (c.vars - v) ⟨v, rfl, by simp only [go_sem] <;> rfl, Nat.le_refl _, hvw, hass, rfl⟩ ?_
   rintro m t o1 ⟨u, e1, h1, hu1, hu2, hu3, rfl⟩
   rw [e1]
   clear e1 o1
   have huv : u < c.vars := by omega
   have hvg := valL_get (tr := tr) huv
   have hvl := valL_len c.vars tr
   have hvb : -1 ≤ valOf tr u ∧ valOf tr u ≤ 1 := by unfold valOf; split <;> (try split) <;> omega
   repeat (first | refine nav ?_ | refine bo ?_)
   (refine wr fun K R hK hR => ?_; simp (maxSteps := 10000000) only [go_sem, h1, h.k, rowK, h.v, canon, ints_get hvg]; (try go_ints); (try simp only [go_sem, h1, h.k, rowK, h.v, canon, ints_get hvg]); (repeat refine And.intro side ?_); (first | refine hK _ ?_ | refine hR _ _ ?_); clear hK hR K R)
   repeat (first | refine nav ?_ | refine bo ?_)
   refine W_cond (by simp only [go_sem] <;> exact rfl) (fun hb => ?_) (fun hb => ?_)
   ·have hb : valOf tr u ≠ 0 := by simpa using hb
    have huw : u ≠ w := fun e => hb (by rw [e]; exact hw2)
    repeat (first | refine nav ?_ | refine bo ?_)
    (refine wr fun K R hK hR => ?_; simp (maxSteps := 10000000) only [go_sem, h1]; (try go_ints); (try simp only [go_sem, h1]); (repeat refine And.intro side ?_); (first | refine hK _ ?_ | refine hR _ _ ?_); clear hK hR K R)
    repeat (first | refine nav ?_ | refine bo ?_)
    refine forQ_normal (c.vars - (u + 1)) (by omega) ⟨u + 1, rfl, ?_, by omega, by omega, fun z hz => ?_, rfl⟩
    ·simp only [go_sem] <;> simp
    ·rcases Nat.lt_succ_iff_lt_or_eq.1 hz with hz | rfl
     ·exact hu3 z hz
     ·exact hb
   ·have hb : valOf tr u = 0 := by simpa using hb
    have hxn : (u : Int) + 1 ∉ tr ∧ -((u : Int) + 1) ∉ tr := by
     unfold valOf at hb
     by_cases q1 : (u : Int) + 1 ∈ tr
     ·simp [q1] at hb
     ·by_cases q2 : -((u : Int) + 1) ∈ tr
      ·simp [q1, q2] at hb
      ·exact ⟨q1, q2⟩
    clear hvb hvg
    obtain ⟨B, hB⟩ : ∃ B, 2 ^ (c.vars - (u + 1)) - 1 = B := ⟨_, rfl⟩
    have hBB : 1 + 2 * B ≤ 2 ^ (c.vars - v) - 1 := by
     have q1 : 2 ^ (c.vars - u) ≤ 2 ^ (c.vars - v) := Nat.pow_le_pow_right (by omega) (by omega)
     have q2 : 2 ^ (c.vars - u) = 2 ^ (c.vars - (u + 1)) * 2 := by rw [← Nat.pow_succ]; congr 1; omega
     have q3 : 1 ≤ 2 ^ (c.vars - (u + 1)) := Nat.one_le_two_pow
     omega
    obtain ⟨xs, hxs⟩ : ∃ xs : Nat → Int, xs = fun i => if i = 0 then (u : Int) + 1 else 0 - (u : Int) - 1 := ⟨_, rfl⟩
    obtain ⟨Mi, hMi⟩ : ∃ Mi : Nat → Nat, Mi = fun i => if i = 0 then 0 else if i = 1 then cntM c.vars c.list (tr ++ [(u : Int) + 1]) else cntM c.vars c.list tr := ⟨_, rfl⟩
    have hM2 : Mi 2 = cntM c.vars c.list tr := by rw [hMi]; rfl
    have hMs : ∀ i < 2, Mi (i + 1) = Mi i + cntM c.vars c.list (tr ++ [xs i]) := by
     intro i hi
     rw [hMi, hxs]
     match i, hi with
     | 0, _ => simp
     | 1, _ =>
      simp only [Nat.reduceAdd, Nat.reduceEqDiff, if_false, if_true]
      rw [cntM_split (x := (u : Int) + 1) (by omega), show -((u : Int) + 1) = 0 - (u : Int) - 1 by omega]
    have hMle : ∀ i ≤ 2, Mi i ≤ cntM c.vars c.list tr := by
     intro i hi
     rw [← hM2]
     match i, hi with
     | 0, _ => have := hMs 0 (by omega); have := hMs 1 (by omega); simp only [Nat.zero_add, Nat.reduceAdd] at *; omega
     | 1, _ => have := hMs 1 (by omega); simp only [Nat.reduceAdd] at *; omega
     | 2, _ => exact Nat.le_refl _
    have hxl : ∀ i, LitOk c.vars (xs i) ∧ (xs i = (u : Int) + 1 ∨ xs i = -((u : Int) + 1)) := by
     intro i
     rw [hxs]
     simp only
     split
     ·exact ⟨⟨by omega, by omega, by omega⟩, .inl rfl⟩
     ·exact ⟨⟨by omega, by omega, by omega⟩, .inr (by omega)⟩
    repeat (first | refine nav ?_ | refine bo ?_)
    refine W_joinS 24 31 [] (fun t o1 => RepG o1 K d c ta (canon c tr (br + 1) .nsl cnt false) ∧ o1.length = o.length) ?_ ?_
    ·(refine wr fun K R hK hR => ?_; simp (maxSteps := 10000000) only [go_sem, h.k, rowK, canon]; (try go_ints); (try simp only [go_sem, h.k, rowK, canon]); (repeat refine And.intro side ?_); (first | refine hK _ ?_ | refine hR _ _ ?_); clear hK hR K R)
     exact ⟨_, rfl, h.setK hlk h.taOk (s' := canon c tr (br + 1) .nsl cnt false) rfl rfl rfl rfl ⟨rfl, rfl, rfl⟩, by simp⟩
    rintro t2 o1 ⟨hr1, hl1⟩
    repeat (first | refine nav ?_ | refine bo ?_)
    (refine wr fun K R hK hR => ?_; simp (maxSteps := 10000000) only [go_sem, hr1.k, rowK, canon]; (try go_ints); (try simp only [go_sem, hr1.k, rowK, canon]); (repeat refine And.intro side ?_); (first | refine hK _ ?_ | refine hR _ _ ?_); clear hK hR K R)
    refine seqQ_normal ?_
    refine W_joinS 36 39 [] (fun t o2 => RepG o2 K d c ta (canon c tr (br + 1) .nsl cnt (decide (br + 1 > 200000))) ∧ o2.length = o.length) ?_ ?_
    ·refine W_cond (by simp only [go_sem] <;> exact rfl) (fun hb => ?_) (fun hb => ?_)
     ·have hb2 : br + 1 > 200000 := by simpa using hb
      rw [decide_eq_true hb2]
      repeat (first | refine nav ?_ | refine bo ?_)
      (refine wr fun K R hK hR => ?_; simp (maxSteps := 10000000) only [go_sem, hr1.k, rowK, canon]; (try go_ints); (try simp only [go_sem, hr1.k, rowK, canon]); (repeat refine And.intro side ?_); (first | refine hK _ ?_ | refine hR _ _ ?_); clear hK hR K R)
      exact ⟨_, rfl, hr1.setK hlk hr1.taOk (s' := canon c tr (br + 1) .nsl cnt true) rfl rfl rfl rfl ⟨rfl, rfl, rfl⟩, by simpa using hl1⟩
     ·have hb2 : ¬ br + 1 > 200000 := by simpa using hb
      rw [decide_eq_false hb2]
      repeat (first | refine nav ?_ | refine bo ?_)
      exact ⟨_, rfl, hr1, hl1⟩
    clear hr1 hl1 o1
    rintro t3 o2 ⟨hr2, hl2⟩
    repeat (first | refine nav ?_ | refine bo ?_)
    (refine wr fun K R hK hR => ?_; simp (maxSteps := 10000000) only [go_sem, h1]; (try go_ints); (try simp only [go_sem, h1]); (repeat refine And.intro side ?_); (first | refine hK _ ?_ | refine hR _ _ ?_); clear hK hR K R)
    repeat (first | refine nav ?_ | refine bo ?_)
    refine W_for 46 68 [5, 6] (fun m t o3 => ∃ (i : Nat) (ta1 : AV) (br1 cnt1 : Int) (md1 : AV) (exh1 : Bool), RepG o3 K d c ta1 (canon c tr br1 md1 cnt1 exh1) ∧ RP c K d o3 ta1 (Mi i) (1 + i * B) br cnt br1 cnt1 md1 exh1 ∧ t 46 = .i .i64 i ∧ m = 2 - i ∧ i ≤ 2 ∧ o.length ≤ o3.length) 2
     ⟨0, ta, br + 1, cnt, .nsl, decide (br + 1 > 200000), hr2, ⟨by omega, by omega, by omega, rfl, ⟨hc0, by omega⟩, fun _ => ⟨rfl, fun _ => by rw [hMi]; simp only [if_true]; omega⟩, fun hfi => ⟨fun _ => rfl, fun _ => by rw [hMi, hfc hfi]; simp, fun h0 => by have := hfc hfi; omega⟩⟩, by simp only [go_sem] <;> rfl, rfl, by omega, by omega⟩ ?_
    clear hr2 hl2 o2
    rintro m t4 o3 ⟨i, ta1, br1, cnt1, md1, exh1, hr3, hrp, h46, rfl, hi, hl3⟩
    have hok3 := hr3.ok
    have lK3 : K < o3.length := by omega
    repeat (first | refine nav ?_ | refine bo ?_)
    (refine wr fun K R hK hR => ?_; simp (maxSteps := 10000000) only [go_sem, h46]; (try go_ints); (try simp only [go_sem, h46]); (repeat refine And.intro side ?_); (first | refine hK _ ?_ | refine hR _ _ ?_); clear hK hR K R)
    repeat (first | refine nav ?_ | refine bo ?_)
    refine W_cond (by simp only [go_sem] <;> exact rfl) (fun hb => ?_) (fun hb => ?_)
    ·simp at hb
     have hb : i < 2 := by omega
     obtain ⟨hxo, hxc⟩ := hxl i
     have hgx : ([[AV.i .i64 ((u : Int) + 1)], [AV.i .i64 (0 - (u : Int) - 1)]] : List (List AV)).getD i [] = [.i .i64 (xs i)] := by
      rw [hxs]
      match i, hb with
      | 0, _ => rfl
      | 1, _ => rfl
     have hMs := hMs i hb
     generalize xs i = x at hxo hxc hgx hMs
     repeat (first | refine nav ?_ | refine bo ?_)
     (refine wr fun K R hK hR => ?_; simp (maxSteps := 10000000) only [go_sem, h46, hgx]; (try go_ints); (try simp only [go_sem, h46, hgx]); (repeat refine And.intro side ?_); (first | refine hK _ ?_ | refine hR _ _ ?_); clear hK hR K R)
     repeat (first | refine nav ?_ | refine bo ?_)
     (refine wr fun K R hK hR => ?_; simp (maxSteps := 10000000) only [go_sem]; (try go_ints); (repeat refine And.intro side ?_); (first | refine hK _ ?_ | refine hR _ _ ?_); clear hK hR K R)
     refine RL_callQ (over_spec hr3) (by simp only [go_sem] <;> exact rfl) rfl rfl (by simp) (by simp only [go_sem] <;> exact LeA.refl _) hok3 (by simp [AV.ltk]; omega) rfl ?_
     (refine rr fun K R hK hR => ?_; simp (maxSteps := 10000000) only [go_sem]; (try go_ints); (repeat refine And.intro side ?_); (first | refine hK _ ?_ | refine hR _ _ ?_); clear hK hR K R)
     repeat (first | refine nav ?_ | refine bo ?_)
     refine W_cond (by simp only [go_sem] <;> exact rfl) (fun hov => ?_) (fun hov => ?_)
     ·have hov : (exh1 || (c.first && decide (cnt1 > 0)) || decide (cnt1 > 1099511627776)) = true := hov
      repeat (first | refine nav ?_ | refine bo ?_)
      refine endQ_all (by simp only [go_sem] <;> exact rfl) (Le.refl _) hl3 hok3 rfl ⟨rfl, ta1, br1, cnt1, md1, exh1, hr3, (hrp.over hov (hMle i hi) ?_), hl3⟩
      have : i * B ≤ 2 * B := Nat.mul_le_mul_right _ hi
      omega
     ·have hov : (exh1 || (c.first && decide (cnt1 > 0)) || decide (cnt1 > 1099511627776)) = false := hov
      simp only [Bool.or_eq_false_iff, decide_eq_false_iff_not] at hov
      obtain ⟨⟨he1, hfc1⟩, hcb⟩ := hov
      subst he1
      have hcb : cnt1 ≤ 1099511627776 := by omega
      have hc00 := hrp.c0
      have hfc1 : c.first = true → cnt1 = 0 := fun hfi => by
       rw [hfi, Bool.true_and, decide_eq_false_iff_not] at hfc1
       omega
      have hmd1 : md1 = .nsl := by
       cases hfi : c.first with
       | false => exact (hrp.no hfi).1
       | true => exact (hrp.yes hfi).1 (hfc1 hfi)
      subst hmd1
      have hbr1 : br1 ≤ 200000 := by
       have := hrp.ex
       have := of_decide_eq_false this.symm
       omega
      have hbr0 := hrp.b0
      repeat (first | refine nav ?_ | refine bo ?_)
      refine W_joinS 52 57 [6] (fun t o' => o' = o3 ∧ t 6 = .i .i64 (tr.length : Nat)) ?_ ?_
      ·rcases hr3.t with ⟨rfl, ht0⟩ | ⟨T, ex, rfl, hT, _⟩
       ·have ht0 : tr = [] := ht0
        subst ht0
        (refine wr fun K R hK hR => ?_; simp (maxSteps := 10000000) only [go_sem, hr3.k, rowK, canon]; (try go_ints); (try simp only [go_sem, hr3.k, rowK, canon]); (repeat refine And.intro side ?_); (first | refine hK _ ?_ | refine hR _ _ ?_); clear hK hR K R)
        exact ⟨_, rfl, rfl, by simp only [go_sem] <;> simp⟩
       ·(refine wr fun K R hK hR => ?_; simp (maxSteps := 10000000) only [go_sem, hr3.k, rowK, canon]; (try go_ints); (try simp only [go_sem, hr3.k, rowK, canon]); (repeat refine And.intro side ?_); (first | refine hK _ ?_ | refine hR _ _ ?_); clear hK hR K R)
        exact ⟨_, rfl, rfl, by simp only [go_sem]⟩
      rintro t5 o3' ⟨e3, h6⟩
      rw [e3]
      clear e3 o3'
      repeat (first | refine nav ?_ | refine bo ?_)
      (refine wr fun K R hK hR => ?_; simp (maxSteps := 10000000) only [go_sem]; (try go_ints); (repeat refine And.intro side ?_); (first | refine hK _ ?_ | refine hR _ _ ?_); clear hK hR K R)
      refine RL_callE (set_spec hr3 hc htr hq hxo) (fun r o' ⟨b, tr', ta', e1, _, e2, e3⟩ => ⟨e3, by rw [e1]; rfl, e2.ok⟩) (by simp only [go_sem] <;> exact rfl) rfl rfl (by simp) (by simp only [go_sem] <;> exact LeA.refl _) hok3 (by simp [AV.ltk]; omega) ?_
      rintro r o4 ⟨b, tr', ta', rfl, hsp, hr4, hl4⟩
      have hok4 := hr4.ok
      have hsl := hsp.ok.len
      have hl4 : o3.length ≤ o4.length := hl4
      (refine rr fun K R hK hR => ?_; simp (maxSteps := 10000000) only [go_sem]; (try go_ints); (repeat refine And.intro side ?_); (first | refine hK _ ?_ | refine hR _ _ ?_); clear hK hR K R)
      repeat (first | refine nav ?_ | refine bo ?_)
      refine W_joinS 60 64 [] (fun t o5 => ∃ ta2 br2 cnt2 md2 exh2, RepG o5 K d c ta2 (canon c tr' br2 md2 cnt2 exh2) ∧ RP c K d o5 ta2 (cntM c.vars c.list (tr ++ [x])) B br1 cnt1 br2 cnt2 md2 exh2 ∧ o.length ≤ o5.length) ?_ ?_
      ·cases b with
       | true =>
        obtain ⟨s1, s2, s3⟩ := hsp.yes rfl
        refine W_cond (b := true) (by simp only [go_sem]) (fun _ => ?_) (fun hb => by cases hb)
        repeat (first | refine nav ?_ | refine bo ?_)
        (refine wr fun K R hK hR => ?_; simp (maxSteps := 10000000) only [go_sem, h1]; (try go_ints); (try simp only [go_sem, h1]); (repeat refine And.intro side ?_); (first | refine hK _ ?_ | refine hR _ _ ?_); clear hK hR K R)
        have hru := ih (u + 1) tr' o4 ta' br1 cnt1 (by omega) (by omega) hr4 hsp.ok s2 (fun z hz => ?_) (by omega) hbr1 (by omega) hcb hfc1
        ·rw [hB, ← cntM_set hsp] at hru
         refine RL_callE hru (fun r o' ⟨e1, ta', br', cnt', md', exh', e2, e3, e4⟩ => ⟨e4, by rw [e1]; rfl, e2.ok⟩) (by simp only [go_sem] <;> exact rfl) rfl rfl (by simp) (by simp only [go_sem] <;> first | exact LeA.refl _ | exact Le.refl _) hok4 (by simp [AV.ltk]; omega) ?_
         rintro r o5 ⟨rfl, ta2, br2, cnt2, md2, exh2, hr5, hrp5, hl5⟩
         have hl5 : o4.length ≤ o5.length := hl5
         (refine rr fun K R hK hR => ?_; simp (maxSteps := 10000000) only [go_sem]; (try go_ints); (repeat refine And.intro side ?_); (first | refine hK _ ?_ | refine hR _ _ ?_); clear hK hR K R)
         exact ⟨_, rfl, ta2, br2, cnt2, md2, exh2, hr5, hrp5, show o.length ≤ o5.length by omega⟩
        ·obtain ⟨e, he⟩ := hsp.ext
         have hmono : ∀ y, y ∈ tr → y ∈ tr' := fun y hy => by rw [he]; simp [hy]
         rcases Nat.lt_succ_iff_lt_or_eq.1 hz with hz | rfl
         ·have h0 := hu3 z hz
          intro h2
          refine h0 ?_
          unfold valOf at h2 ⊢
          by_cases q1 : (z : Int) + 1 ∈ tr'
          ·simp [q1] at h2
          ·by_cases q2 : -((z : Int) + 1) ∈ tr'
           ·simp [q1, q2] at h2
           ·have p1 : (z : Int) + 1 ∉ tr := fun h => q1 (hmono _ h)
            have p2 : -((z : Int) + 1) ∉ tr := fun h => q2 (hmono _ h)
            simp [p1, p2]
         ·intro h2
          unfold valOf at h2
          rcases hxc with rfl | rfl
          ·simp [s1] at h2
          ·have hn := hsp.ok.opp _ s1
           rw [Int.neg_neg] at hn
           simp [s1, hn] at h2
       | false =>
        refine W_cond (b := false) (by simp only [go_sem]) (fun hb => by cases hb) (fun _ => ?_)
        repeat (first | refine nav ?_ | refine bo ?_)
        refine ⟨_, rfl, ta', br1, cnt1, .nsl, false, hr4, ?_, show o.length ≤ o4.length by omega⟩
        rw [cntM_no hsp]
        exact ⟨Int.le_refl _, by omega, by omega, hrp.ex, hc00, fun _ => ⟨rfl, fun _ => by omega⟩, fun hfi => ⟨fun _ => rfl, fun _ => by have := hfc1 hfi; omega, fun h0 => by have := hfc1 hfi; omega⟩⟩
      rintro t6 o5 ⟨ta2, br2, cnt2, md2, exh2, hr5, hrp5, hl5⟩
      have hok5 := hr5.ok
      obtain ⟨e, he⟩ := hsp.ext
      have hlt : tr.length ≤ tr'.length := by rw [he]; simp
      have hund := undo_spec hr5 hc hsp.ok (by omega) hlt
      rw [show tr'.take tr.length = tr by rw [he]; simp] at hund
      repeat (first | refine nav ?_ | refine bo ?_)
      (refine wr fun K R hK hR => ?_; simp (maxSteps := 10000000) only [go_sem, h6]; (try go_ints); (try simp only [go_sem, h6]); (repeat refine And.intro side ?_); (first | refine hK _ ?_ | refine hR _ _ ?_); clear hK hR K R)
      refine RL_callE hund (fun r o' ⟨e1, ta', e2, e3, _⟩ => ⟨e3.1, by rw [e1]; rfl, e2.ok⟩) (by simp only [go_sem] <;> exact rfl) rfl rfl (by simp) (by simp only [go_sem] <;> exact LeA.refl _) hok5 (by simp [AV.ltk]; omega) ?_
      rintro r o6 ⟨rfl, ta3, hr6, hf6, hta6⟩
      have hl6 : o5.length ≤ o6.length := hf6.1
      (refine rr fun K R hK hR => ?_; simp (maxSteps := 10000000) only [go_sem]; (try go_ints); (repeat refine And.intro side ?_); (first | refine hK _ ?_ | refine hR _ _ ?_); clear hK hR K R)
      rw [mix_mix (lo := 52) (lo' := 46) rfl]
      simp only [mix_upd, inL, Nat.reduceLeDiff, Nat.reduceLT, decide_true, Bool.true_and, Bool.and_true, Bool.true_or, if_true]
      rw [mix_mix (lo := 60) (lo' := 46) rfl]
      simp only [mix_upd, inL, Nat.reduceLeDiff, Nat.reduceLT, decide_true, Bool.true_and, Bool.and_true, Bool.true_or, if_true]
      repeat (first | refine nav ?_ | refine bo ?_)
      (refine wr fun K R hK hR => ?_; simp (maxSteps := 10000000) only [go_sem, h46]; (try go_ints); (try simp only [go_sem, h46]); (repeat refine And.intro side ?_); (first | refine hK _ ?_ | refine hR _ _ ?_); clear hK hR K R)
      have hrp6 : RP c K d o6 ta3 (cntM c.vars c.list (tr ++ [x])) B br1 cnt1 br2 cnt2 md2 exh2 := hrp5.objs fun J j0 j1 j2 j3 j4 j5 => ⟨hf6.2 J j0 j1 j2 j3 j4 j5, fun l e => by obtain ⟨l', e'⟩ := hta6 J l e; exact j5 l' e'⟩
      have hcomb := hrp.comb rfl hcb hfc1 hrp6
      rw [← hMs] at hcomb
      refine forQ_normal (2 - (i + 1)) (by omega) ⟨i + 1, ta3, br2, cnt2, md2, exh2, hr6, ?_, ?_, rfl, by omega, by omega⟩
      ·rw [Nat.add_mul, Nat.one_mul, ← Nat.add_assoc]; exact hcomb
      ·simp only [go_sem] <;> simp
    ·simp at hb
     obtain rfl : i = 2 := by omega
     rw [hM2] at hrp
     repeat (first | refine nav ?_ | refine bo ?_)
     refine endQ_alln (by simp only [go_sem] <;> exact rfl) (Le.refl _) hl3 hok3 rfl ⟨rfl, ta1, br1, cnt1, md1, exh1, hr3, hrp.more (by omega), hl3⟩
end Go.AW
namespace Go.AW
open Go Go.Proofs TyTry Go.IntWalk
set_option linter.unusedSimpArgs false
set_option linter.unusedVariables false
set_option maxRecDepth 10000
set_option maxHeartbeats 1000000
def regAt (k : Nat) : Code → Option Code
 | .region i l d => if i = k then some (.region i l d) else none
 | .seq a b => match regAt k a with | some x => some x | none => regAt k b
 | .cond _ a b => match regAt k a with | some x => some x | none => regAt k b
 | .block _ a => regAt k a
 | .loop a => regAt k a
 | _ => none
def stab (v : AV) : Prop := ∀ id sz rows, v.unref id sz rows = v
def rowB (vars M V : Nat) (first : Bool) (lav : AV) : List AV := [.i .i64 0, lav, .mp M, .nsl, .nsl, .i .i64 0, .ref V 0 vars, .nsl, .i .i64 0, .b first, .nsl, .i .i64 0, .b false]
structure I7 (K vars M V : Nat) (first : Bool) (base : List (Nat × AV)) (v9 lav : AV) (rows : List (List AV)) (cl : List (List AV)) (oc oc' : List Ob) (d : Nat → Bool) (s : St) : Prop where
 c : (d 13 = true → d 9 = true) ∧ (d 9 = true → d 5 = true ∧ d 8 = true) ∧ (d 8 = true → d 7 = true) ∧ (d 7 = true → d 6 = true)
 b : ∀ x ∈ base, s.t x.1 = x.2
 f6 : s.t 6 = .ptr K 0 0
 f9 : d 7 = false → s.t 9 = v9
 f0 : d 0 = true → s.t 35 = .ptr K 0 0
 f1 : d 1 = true → s.t 36 = .ptr K 0 0
 f2 : d 2 = true → s.t 37 = .ptr K 0 0
 f3 : d 3 = true → s.t 38 = .ptr K 0 0
 f4 : d 4 = true → s.t 39 = .ptr K 0 1
 f5 : d 5 = true → d 9 = false → s.t 40 = .own 1 rows
 f7 : d 6 = true → d 7 = false → s.t 41 = v9
 f8 : d 7 = true → s.t 42 = .sl 1 cl
 g8 : d 8 = true → s.t 43 = .own 1 [[.sl 1 cl]]
 g9 : d 9 = true → d 13 = false → s.t 44 = .own 1 (rows ++ [[.sl 1 cl]])
 g0 : d 10 = true → s.t 45 = .ptr K 0 0
 g1 : d 11 = true → s.t 46 = .ptr K 0 0
 g2 : d 12 = true → s.t 47 = .ptr K 0 1
 o : s.o = (if d 7 = true then oc' else oc).set K (.cells 13 [rowB vars M V first (if d 13 = true then .own 1 (rows ++ [[.sl 1 cl]]) else if d 5 = true then lav.dat else lav)])
theorem reg7 {c : Code} (hc : regAt 7 (Try.f64.body.getD .skip) = some c) {Q : Exit → St → Prop} {s : St} {K vars M V : Nat} {first : Bool} {base : List (Nat × AV)} {v9 lav : AV} {rows cl : List (List AV)} {oc oc' : List Ob}
  (hb : ∀ x ∈ base, (x.1 < 35 ∨ 48 ≤ x.1) ∧ x.1 ≠ 9 ∧ stab x.2) (hlav : lav = .nsl ∧ rows = [] ∨ lav = .own 1 rows) (hrl : rows.length ≤ 1000000)
  (hrp : (rows.all fun r => r.all fun c => !c.isOwn && c.ltk 0 && c.plain) = true) (hclp : (cl.all fun r => r.all fun c => !c.isOwn && c.ltk 0 && c.plain) = true) (hk1 : K < oc.length) (hk2 : K < oc'.length) (hv9 : v9 = .sl 1 [] ∨ ∃ J n, v9 = .ref J 0 n)
  (hcall : ∀ (o7 : Oper) (t : Nat → AV) (L : AV), o7.op = .call ⟨.value (.func 81), #[.tmp 41], #[29]⟩ → o7.dst = some 42 → t 41 = v9 → L = lav ∨ L = lav.dat → OpW Try.prog 152 o7 ⟨t, oc.set K (.cells 13 [rowB vars M V first L])⟩ fun s' =>
   (∀ k ≠ 42, ∀ v, stab v → t k = v → s'.t k = v) ∧ s'.t 42 = .sl 1 cl ∧ s'.o = oc'.set K (.cells 13 [rowB vars M V first L]))
  (h0 : I7 K vars M V first base v9 lav rows cl oc oc' (fun _ => false) s) (hend : ∀ s', I7 K vars M V first base v9 lav rows cl oc oc' (fun _ => true) s' → Q .normal s') : W Try.prog 152 c Q s := by
 simp only [Try.f64, Option.getD_some, regAt, Nat.reduceEqDiff, reduceIte, Option.some.injEq] at hc
 subst hc
 refine W_drawInv (by decide +kernel) (fun d s => I7 K vars M V first base v9 lav rows cl oc oc' d s) (by decide +kernel) ?_ ?_ ?_
 ·exact ⟨by simp, h0.b, h0.f6, fun _ => h0.f9 rfl, fun h => by simp at h, fun h => by simp at h, fun h => by simp at h, fun h => by simp at h, fun h => by simp at h, fun h => by simp at h, fun h => by simp at h, fun h => by simp at h, fun h => by simp at h, fun h => by simp at h, fun h => by simp at h, fun h => by simp at h, fun h => by simp at h, by simpa using h0.o⟩
 ·intro d s i o ho hd hdep hI
  obtain ⟨t, ob⟩ := s
  obtain ⟨kc, kb, k6, k9, k0, k1, k2, k3, k4, k5, k7, k8, m8, m9, m0, m1, m2, ko⟩ := hI
  simp only at kb k6 k9 k0 k1 k2 k3 k4 k5 k7 k8 m8 m9 m0 m1 m2 ko
  have hkk : ∀ X : Ob, ((if d 7 = true then oc' else oc).set K X)[K]? = some X := fun X => by
   rw [List.getElem?_set_self (by split <;> assumption)]
  match i, ho with
  | 0, ho =>
   obtain rfl := Option.some.inj ho
   refine ⟨rfl, OpW_run [40] rfl rfl fun K' hK' => ?_⟩
   simp (maxSteps := 10000000) only [go_sem, k6]
   (try go_ints)
   (repeat refine And.intro side ?_)
   refine hK' _ ?_
   clear hK' K' ho hdep
   refine ⟨by simp_all, fun x hx => by have hq := (hb x hx).1; have hq2 := kb x hx; simp only [upd]; (repeat rw [if_neg (by omega)]); exact hq2, ?_, ?_, ?_, ?_, ?_, ?_, ?_, ?_, ?_, ?_, ?_, ?_, ?_, ?_, ?_, ?_⟩ <;> first | (simp [upd]; done) | (simp [upd]; assumption) | (simp_all [upd]; done)
  | 1, ho =>
   obtain rfl := Option.some.inj ho
   refine ⟨rfl, OpW_run [40] rfl rfl fun K' hK' => ?_⟩
   simp (maxSteps := 10000000) only [go_sem, k6]
   (try go_ints)
   (repeat refine And.intro side ?_)
   refine hK' _ ?_
   clear hK' K' ho hdep
   refine ⟨by simp_all, fun x hx => by have hq := (hb x hx).1; have hq2 := kb x hx; simp only [upd]; (repeat rw [if_neg (by omega)]); exact hq2, ?_, ?_, ?_, ?_, ?_, ?_, ?_, ?_, ?_, ?_, ?_, ?_, ?_, ?_, ?_, ?_⟩ <;> first | (simp [upd]; done) | (simp [upd]; assumption) | (simp_all [upd]; done)
  | 2, ho =>
   obtain rfl := Option.some.inj ho
   refine ⟨rfl, OpW_run [40] rfl rfl fun K' hK' => ?_⟩
   simp (maxSteps := 10000000) only [go_sem, k1 (hdep 1 (by decide +kernel))]
   (try go_ints)
   (repeat refine And.intro side ?_)
   refine hK' _ ?_
   clear hK' K' ho hdep
   refine ⟨by simp_all, fun x hx => by have hq := (hb x hx).1; have hq2 := kb x hx; simp only [upd]; (repeat rw [if_neg (by omega)]); exact hq2, ?_, ?_, ?_, ?_, ?_, ?_, ?_, ?_, ?_, ?_, ?_, ?_, ?_, ?_, ?_, ?_⟩ <;> first | (simp [upd]; done) | (simp [upd]; assumption) | (simp_all [upd]; done)
  | 3, ho =>
   obtain rfl := Option.some.inj ho
   refine ⟨rfl, OpW_run [40] rfl rfl fun K' hK' => ?_⟩
   simp (maxSteps := 10000000) only [go_sem, k2 (hdep 2 (by decide +kernel))]
   (try go_ints)
   (repeat refine And.intro side ?_)
   refine hK' _ ?_
   clear hK' K' ho hdep
   refine ⟨by simp_all, fun x hx => by have hq := (hb x hx).1; have hq2 := kb x hx; simp only [upd]; (repeat rw [if_neg (by omega)]); exact hq2, ?_, ?_, ?_, ?_, ?_, ?_, ?_, ?_, ?_, ?_, ?_, ?_, ?_, ?_, ?_, ?_⟩ <;> first | (simp [upd]; done) | (simp [upd]; assumption) | (simp_all [upd]; done)
  | 4, ho =>
   obtain rfl := Option.some.inj ho
   refine ⟨rfl, OpW_run [40] rfl rfl fun K' hK' => ?_⟩
   simp (maxSteps := 10000000) only [go_sem, k3 (hdep 3 (by decide +kernel))]
   (try go_ints)
   (repeat refine And.intro side ?_)
   refine hK' _ ?_
   clear hK' K' ho hdep
   refine ⟨by simp_all, fun x hx => by have hq := (hb x hx).1; have hq2 := kb x hx; simp only [upd]; (repeat rw [if_neg (by omega)]); exact hq2, ?_, ?_, ?_, ?_, ?_, ?_, ?_, ?_, ?_, ?_, ?_, ?_, ?_, ?_, ?_, ?_⟩ <;> first | (simp [upd]; done) | (simp [upd]; assumption) | (simp_all [upd]; done)
  | 5, ho =>
   obtain rfl := Option.some.inj ho
   have q9 : d 9 = false := by cases h : d 9 with | false => rfl | true => rw [(kc.2.1 h).1] at hd; cases hd
   have q13 : d 13 = false := by cases h : d 13 with | false => rfl | true => rw [kc.1 h] at q9; cases q9
   have e4 := k4 (hdep 4 (by decide +kernel))
   simp only [q13, hd, Bool.false_eq_true, if_false] at ko
   subst ko
   refine ⟨rfl, OpW_run [40] rfl rfl fun K' hK' => ?_⟩
   rcases hlav with ⟨rfl, rfl⟩ | rfl
   ·simp (maxSteps := 10000000) only [go_sem, e4, hkk, rowB]
    (try go_ints)
    (repeat refine And.intro side ?_)
    refine hK' _ ?_
    clear hK' K' ho hdep
    refine ⟨by simp_all, fun x hx => by have hq := (hb x hx).1; have hq2 := kb x hx; simp only [upd]; (repeat rw [if_neg (by omega)]); exact hq2, ?_, ?_, ?_, ?_, ?_, ?_, ?_, ?_, ?_, ?_, ?_, ?_, ?_, ?_, ?_, ?_⟩ <;> first | (simp [upd]; done) | (simp [upd]; assumption) | (simp_all [upd, rowB, AV.dat]; done)
   ·simp (maxSteps := 10000000) only [go_sem, e4, hkk, rowB]
    (try go_ints)
    (repeat refine And.intro side ?_)
    refine hK' _ ?_
    clear hK' K' ho hdep
    refine ⟨by simp_all, fun x hx => by have hq := (hb x hx).1; have hq2 := kb x hx; simp only [upd]; (repeat rw [if_neg (by omega)]); exact hq2, ?_, ?_, ?_, ?_, ?_, ?_, ?_, ?_, ?_, ?_, ?_, ?_, ?_, ?_, ?_, ?_⟩ <;> first | (simp [upd]; done) | (simp [upd]; assumption) | (simp_all [upd, rowB, AV.dat]; done)
  | 6, ho =>
   obtain rfl := Option.some.inj ho
   have q7 : d 7 = false := by cases h : d 7 with | false => rfl | true => rw [kc.2.2.2 h] at hd; cases hd
   have e9 := k9 q7
   refine ⟨rfl, OpW_run [40] rfl rfl fun K' hK' => ?_⟩
   clear hcall
   rcases hv9 with rfl | ⟨J, m, rfl⟩
   ·simp (maxSteps := 10000000) only [go_sem, e9]
    (try go_ints)
    (repeat refine And.intro side ?_)
    refine hK' _ ?_
    clear hK' K' ho hdep
    refine ⟨by simp_all, fun x hx => by have hq := (hb x hx).1; have hq2 := kb x hx; simp only [upd]; (repeat rw [if_neg (by omega)]); exact hq2, ?_, ?_, ?_, ?_, ?_, ?_, ?_, ?_, ?_, ?_, ?_, ?_, ?_, ?_, ?_, ?_⟩ <;> first | (simp [upd]; done) | (simp [upd]; assumption) | (simp_all [upd]; done)
   ·simp (maxSteps := 10000000) only [go_sem, e9]
    (try go_ints)
    (repeat refine And.intro side ?_)
    refine hK' _ ?_
    clear hK' K' ho hdep
    refine ⟨by simp_all, fun x hx => by have hq := (hb x hx).1; have hq2 := kb x hx; simp only [upd]; (repeat rw [if_neg (by omega)]); exact hq2, ?_, ?_, ?_, ?_, ?_, ?_, ?_, ?_, ?_, ?_, ?_, ?_, ?_, ?_, ?_, ?_⟩ <;> first | (simp [upd]; done) | (simp [upd]; assumption) | (simp_all [upd]; done)
  | 7, ho =>
   obtain rfl := Option.some.inj ho
   have q8 : d 8 = false := by cases h : d 8 with | false => rfl | true => rw [kc.2.2.1 h] at hd; cases hd
   have q9 : d 9 = false := by cases h : d 9 with | false => rfl | true => rw [(kc.2.1 h).2] at q8; cases q8
   have q13 : d 13 = false := by cases h : d 13 with | false => rfl | true => rw [kc.1 h] at q9; cases q9
   have e6 := hdep 6 (by decide +kernel)
   have e7 := k7 e6 hd
   simp only [hd, q13, Bool.false_eq_true, if_false] at ko
   subst ko
   refine ⟨rfl, (hcall _ t (if d 5 = true then lav.dat else lav) rfl rfl e7 (by split <;> simp)).mono ?_⟩
   rintro ⟨t', o'⟩ ⟨h1, h2, h3⟩
   simp only at h1 h2 h3
   subst h3
   have st : ∀ (k : Nat) (v : AV), k ≠ 42 → stab v → t k = v → t' k = v := fun k v a b c => h1 k a v b c
   have sp : ∀ i j k, stab (.ptr i j k) := fun _ _ _ _ _ _ => rfl
   have so : ∀ i j, stab (.own i j) := fun _ _ _ _ _ => rfl
   refine ⟨by simp_all, fun x hx => st _ _ (by have := (hb x hx).1; omega) (hb x hx).2.2 (kb x hx), st _ _ (by decide) (sp _ _ _) k6, fun h => ?_, fun h => ?_, fun h => ?_, fun h => ?_, fun h => ?_, fun h => ?_, fun h h' => ?_, fun h h' => ?_, fun _ => h2, fun h => ?_, fun h => ?_, fun h => ?_, fun h => ?_, fun h => ?_, ?_⟩
   ·simp at h
   ·simp at h; exact st _ _ (by decide) (sp _ _ _) (k0 h)
   ·simp at h; exact st _ _ (by decide) (sp _ _ _) (k1 h)
   ·simp at h; exact st _ _ (by decide) (sp _ _ _) (k2 h)
   ·simp at h; exact st _ _ (by decide) (sp _ _ _) (k3 h)
   ·simp at h; exact st _ _ (by decide) (sp _ _ _) (k4 h)
   ·simp at h h'; exact st _ _ (by decide) (so _ _) (k5 h h')
   ·simp at h'
   ·simp [q8] at h
   ·simp [q9] at h
   ·simp at h; exact st _ _ (by decide) (sp _ _ _) (m0 h)
   ·simp at h; exact st _ _ (by decide) (sp _ _ _) (m1 h)
   ·simp at h; exact st _ _ (by decide) (sp _ _ _) (m2 h)
   ·simp [q13]
  | 8, ho =>
   obtain rfl := Option.some.inj ho
   have e7' := hdep 7 (by decide +kernel)
   have e7 := k8 e7'
   refine ⟨rfl, OpW_run [40] rfl rfl fun K' hK' => ?_⟩
   simp (maxSteps := 10000000) only [go_sem, e7, hclp]
   (try go_ints)
   (repeat refine And.intro side ?_)
   refine hK' _ ?_
   clear hK' K' ho hdep
   refine ⟨by simp_all, fun x hx => by have hq := (hb x hx).1; have hq2 := kb x hx; simp only [upd]; (repeat rw [if_neg (by omega)]); exact hq2, ?_, ?_, ?_, ?_, ?_, ?_, ?_, ?_, ?_, ?_, ?_, ?_, ?_, ?_, ?_, ?_⟩ <;> first | (simp [upd]; done) | (simp [upd]; assumption) | (simp_all [upd]; done)
  | 9, ho =>
   obtain rfl := Option.some.inj ho
   have e5 := k5 (hdep 5 (by decide +kernel)) hd
   have e8 := m8 (hdep 8 (by decide +kernel))
   have e5' := hdep 5 (by decide +kernel)
   have e8' := hdep 8 (by decide +kernel)
   refine ⟨rfl, OpW_run [40] rfl rfl fun K' hK' => ?_⟩
   simp (maxSteps := 10000000) only [go_sem, e5, e8]
   (try go_ints)
   (repeat refine And.intro side ?_)
   refine hK' _ ?_
   clear hK' K' ho hdep
   refine ⟨by simp_all, fun x hx => by have hq := (hb x hx).1; have hq2 := kb x hx; simp only [upd]; (repeat rw [if_neg (by omega)]); exact hq2, ?_, ?_, ?_, ?_, ?_, ?_, ?_, ?_, ?_, ?_, ?_, ?_, ?_, ?_, ?_, ?_⟩ <;> first | (simp [upd]; done) | (simp [upd]; assumption) | (simp_all [upd]; done)
  | 10, ho =>
   obtain rfl := Option.some.inj ho
   refine ⟨rfl, OpW_run [40] rfl rfl fun K' hK' => ?_⟩
   simp (maxSteps := 10000000) only [go_sem, k0 (hdep 0 (by decide +kernel))]
   (try go_ints)
   (repeat refine And.intro side ?_)
   refine hK' _ ?_
   clear hK' K' ho hdep
   refine ⟨by simp_all, fun x hx => by have hq := (hb x hx).1; have hq2 := kb x hx; simp only [upd]; (repeat rw [if_neg (by omega)]); exact hq2, ?_, ?_, ?_, ?_, ?_, ?_, ?_, ?_, ?_, ?_, ?_, ?_, ?_, ?_, ?_, ?_⟩ <;> first | (simp [upd]; done) | (simp [upd]; assumption) | (simp_all [upd]; done)
  | 11, ho =>
   obtain rfl := Option.some.inj ho
   refine ⟨rfl, OpW_run [40] rfl rfl fun K' hK' => ?_⟩
   simp (maxSteps := 10000000) only [go_sem, m0 (hdep 10 (by decide +kernel))]
   (try go_ints)
   (repeat refine And.intro side ?_)
   refine hK' _ ?_
   clear hK' K' ho hdep
   refine ⟨by simp_all, fun x hx => by have hq := (hb x hx).1; have hq2 := kb x hx; simp only [upd]; (repeat rw [if_neg (by omega)]); exact hq2, ?_, ?_, ?_, ?_, ?_, ?_, ?_, ?_, ?_, ?_, ?_, ?_, ?_, ?_, ?_, ?_⟩ <;> first | (simp [upd]; done) | (simp [upd]; assumption) | (simp_all [upd]; done)
  | 12, ho =>
   obtain rfl := Option.some.inj ho
   refine ⟨rfl, OpW_run [40] rfl rfl fun K' hK' => ?_⟩
   simp (maxSteps := 10000000) only [go_sem, m1 (hdep 11 (by decide +kernel))]
   (try go_ints)
   (repeat refine And.intro side ?_)
   refine hK' _ ?_
   clear hK' K' ho hdep
   refine ⟨by simp_all, fun x hx => by have hq := (hb x hx).1; have hq2 := kb x hx; simp only [upd]; (repeat rw [if_neg (by omega)]); exact hq2, ?_, ?_, ?_, ?_, ?_, ?_, ?_, ?_, ?_, ?_, ?_, ?_, ?_, ?_, ?_, ?_⟩ <;> first | (simp [upd]; done) | (simp [upd]; assumption) | (simp_all [upd]; done)
  | 13, ho =>
   obtain rfl := Option.some.inj ho
   have e9 := m9 (hdep 9 (by decide +kernel)) hd
   have e2 := m2 (hdep 12 (by decide +kernel))
   have e5 := hdep 5 (by decide +kernel)
   have e7 := hdep 7 (by decide +kernel)
   have e9' := hdep 9 (by decide +kernel)
   simp only [hd, e5, if_true, Bool.false_eq_true, if_false] at ko
   subst ko
   refine ⟨rfl, OpW_run [40] rfl rfl fun K' hK' => ?_⟩
   simp (maxSteps := 10000000) only [go_sem, e2, e9, hkk, rowB]
   (try go_ints)
   (repeat refine And.intro side ?_)
   refine hK' _ ?_
   clear hK' K' ho hdep
   refine ⟨by simp_all, fun x hx => by have hq := (hb x hx).1; have hq2 := kb x hx; simp only [upd]; (repeat rw [if_neg (by omega)]); exact hq2, ?_, ?_, ?_, ?_, ?_, ?_, ?_, ?_, ?_, ?_, ?_, ?_, ?_, ?_, ?_, ?_⟩ <;> first | (simp [upd]; done) | (simp [upd]; assumption) | (simp_all [upd, rowB]; done)
  | i + 14, ho => simp at ho
 ·intro d s hd hI
  have e : ∀ i < 14, d i = true := hd
  obtain ⟨kc, kb, k6, k9, k0, k1, k2, k3, k4, k5, k7, k8, m8, m9, m0, m1, m2, ko⟩ := hI
  simp only [e 13 (by omega), e 7 (by omega), if_true] at ko
  refine hend s ⟨by simp, kb, k6, fun h => by simp at h, fun _ => k0 (e 0 (by omega)), fun _ => k1 (e 1 (by omega)), fun _ => k2 (e 2 (by omega)), fun _ => k3 (e 3 (by omega)), fun _ => k4 (e 4 (by omega)), fun _ h => by simp at h, fun _ h => by simp at h, fun _ => k8 (e 7 (by omega)), fun _ => m8 (e 8 (by omega)), fun _ h => by simp at h, fun _ => m0 (e 10 (by omega)), fun _ => m1 (e 11 (by omega)), fun _ => m2 (e 12 (by omega)), by simpa using ko⟩
end Go.AW
namespace Go.AW
open Go Go.Proofs TyTry Go.IntWalk
set_option linter.unusedSimpArgs false
set_option linter.unusedVariables false
set_option maxRecDepth 10000
set_option maxHeartbeats 1000000
def AllI (es : List (AV × AV)) : Prop := ∀ e ∈ es, ∃ k : Int, e.1 = .i .i64 k
theorem keq_int (x y : Int) : keq (.i .i64 x) (.i .i64 y) = some (x == y) := by simp [keq]
theorem mset_ok (x : Int) (v : AV) : ∀ (es : List (AV × AV)), AllI es → ∃ es', mset (.i .i64 x) v es = some es' ∧ (∀ e ∈ es', e ∈ es ∨ e = (.i .i64 x, v)) ∧ ∀ y : Int, mfind (.i .i64 y) es' = if y = x then some (some v) else mfind (.i .i64 y) es
 | [], _ => ⟨[(.i .i64 x, v)], rfl, fun e he => .inr (by simpa using he), fun y => by
   simp only [mfind, keq_int]
   by_cases h : y = x
   ·simp [h]
   ·have : (y == x) = false := by simpa using h
    simp [h, this]⟩
 | (k, u) :: es, h => by
  obtain ⟨k', hk⟩ := h (k, u) (by simp)
  simp only at hk
  subst hk
  obtain ⟨es', h1, h2, h3⟩ := mset_ok x v es fun e he => h e (by simp [he])
  by_cases hx : x = k'
  ·subst hx
   refine ⟨(.i .i64 x, v) :: es, by simp [mset, keq_int], fun e he => ?_, fun y => ?_⟩
   ·simp at he ⊢; rcases he with h | h <;> simp [h]
   ·simp only [mfind, keq_int]
    by_cases hy : y = x
    ·simp [hy]
    ·have : (y == x) = false := by simpa using hy
     simp [hy, this]
  ·have hxk : (x == k') = false := by simpa using hx
   refine ⟨(.i .i64 k', u) :: es', by simp [mset, keq_int, hxk, h1], fun e he => ?_, fun y => ?_⟩
   ·simp at he ⊢
    rcases he with h | h
    ·simp [h]
    ·rcases h2 e h with q | q <;> simp [q]
   ·simp only [mfind, keq_int, h3]
    by_cases hy : y = k'
    ·have : y ≠ x := fun e => hx (e.symm.trans hy)
     simp [hy, this]
     exact fun e => absurd e.symm hx
    ·have : (y == k') = false := by simpa using hy
     simp [this]
theorem AllI.set {es es' : List (AV × AV)} (h : AllI es) {x : Int} {v : AV} (h2 : ∀ e ∈ es', e ∈ es ∨ e = (.i .i64 x, v)) : AllI es' := fun e he => by
 rcases h2 e he with q | q
 ·exact h e q
 ·rw [q]; exact ⟨x, rfl⟩
structure I19 (K M : Nat) (x : Int) (j : Nat) (base : List (Nat × AV)) (v0 : AV) (n0 : Nat) (row : List AV) (oc oc2 : List Ob) (es' : List (AV × AV)) (d : Nat → Bool) (s : St) : Prop where
 c : (d 14 = true → d 13 = true ∧ d 3 = true ∧ d 4 = true) ∧ (d 13 = true → d 12 = true ∧ d 10 = true)
 b : ∀ x ∈ base, s.t x.1 = x.2
 f6 : s.t 6 = .ptr K 0 0
 fx : s.t 13 = .i .i64 x
 fj : s.t 10 = .i .i64 j
 f0 : d 0 = true → s.t 96 = .ptr K 0 0
 f1 : d 1 = true → s.t 97 = .ptr K 0 0
 f2 : d 2 = true → s.t 98 = .ptr K 0 2
 f3 : d 3 = true → s.t 99 = .mp M
 f4 : d 4 = true → s.t 100 = .i .i64 x
 f5 : d 5 = true → s.t 101 = .ptr K 0 0
 f7 : d 6 = true → s.t 102 = .ptr K 0 0
 f8 : d 7 = true → s.t 103 = .ptr K 0 2
 g8 : d 8 = true → s.t 104 = .mp M
 g9 : d 9 = true → s.t 105 = .i .i64 x
 g0 : d 10 = true → d 13 = false → s.t 106 = v0
 g1 : d 11 = true → s.t 107 = .i .i64 j
 g2 : d 12 = true → s.t 108 = .own 1 [[.i .i64 j]]
 g3 : d 13 = true → s.t 109 = .ref oc.length 0 (n0 + 1)
 o : s.o = if d 14 = true then oc2.set M (.mapo es') else if d 13 = true then oc2 else oc
 k1 : oc[K]? = some (.cells 13 [row])
 k2 : oc2[K]? = some (.cells 13 [row])
theorem reg19 {c : Code} (hc : regAt 19 (Try.f64.body.getD .skip) = some c) {Q : Exit → St → Prop} {s : St} {K M : Nat} {x : Int} {j n0 : Nat} {base : List (Nat × AV)} {v0 : AV} {a0 a1 a3 a4 a5 a6 a7 a8 a9 a10 a11 a12 : AV} {oc oc2 : List Ob} {es es' : List (AV × AV)} {r0 : List (List AV)}
  (hb : ∀ x ∈ base, (x.1 < 96 ∨ 110 ≤ x.1) ∧ x.1 ≠ 9) (hm1 : oc[M]? = some (.mapo es)) (hm2 : oc2[M]? = some (.mapo es)) (hf : mfind (.i .i64 x) es = some none ∧ v0 = .nsl ∧ r0 = [] ∧ oc2 = oc ++ [.cells 1 [[.i .i64 j]]] ∨
   ∃ I, mfind (.i .i64 x) es = some (some v0) ∧ v0 = .ref I 0 n0 ∧ oc[I]? = some (.cells 1 r0) ∧ oc2 = oc.set I .dead ++ [.cells 1 (r0 ++ [[.i .i64 j]])]) (hr0 : r0.length = n0) (hn0 : n0 ≤ 1000000) (hrp : (r0.all fun r => r.all fun c => !c.isOwn && c.plain) = true)
  (hset : mset (.i .i64 x) (.ref oc.length 0 (n0 + 1)) es = some es')
  (h0 : I19 K M x j base v0 n0 [a0, a1, .mp M, a3, a4, a5, a6, a7, a8, a9, a10, a11, a12] oc oc2 es' (fun _ => false) s) (hend : ∀ s', I19 K M x j base v0 n0 [a0, a1, .mp M, a3, a4, a5, a6, a7, a8, a9, a10, a11, a12] oc oc2 es' (fun _ => true) s' → Q .normal s') : W Try.prog 152 c Q s := by
 simp only [Try.f64, Option.getD_some, regAt, Nat.reduceEqDiff, reduceIte, Option.some.injEq] at hc
 subst hc
 refine W_drawInv (by decide +kernel) (fun d s => I19 K M x j base v0 n0 [a0, a1, .mp M, a3, a4, a5, a6, a7, a8, a9, a10, a11, a12] oc oc2 es' d s) (by decide +kernel) ?_ ?_ ?_
 ·exact ⟨by simp, h0.b, h0.f6, h0.fx, h0.fj, fun h => by simp at h, fun h => by simp at h, fun h => by simp at h, fun h => by simp at h, fun h => by simp at h, fun h => by simp at h, fun h => by simp at h, fun h => by simp at h, fun h => by simp at h, fun h => by simp at h, fun h => by simp at h, fun h => by simp at h, fun h => by simp at h, fun h => by simp at h, by simpa using h0.o, h0.k1, h0.k2⟩
 ·intro d s i o ho hd hdep hI
  obtain ⟨t, ob⟩ := s
  obtain ⟨kc, kb, k6, kx, kj, k0, k1, k2, k3, k4, k5, k7, k8, m8, m9, m0, m1, m2, m3, ko, q1, q2⟩ := hI
  simp only at kb k6 kx kj k0 k1 k2 k3 k4 k5 k7 k8 m8 m9 m0 m1 m2 m3 ko
  have nkm : K ≠ M := by rintro rfl; rw [q1] at hm1; simp at hm1
  have hkk : ob[K]? = some (.cells 13 [[a0, a1, .mp M, a3, a4, a5, a6, a7, a8, a9, a10, a11, a12]]) := by
   rw [ko]
   split
   ·rw [List.getElem?_set_ne (Ne.symm nkm)]; exact q2
   ·split
    ·exact q2
    ·exact q1
  match i, ho with
  | 0, ho =>
   obtain rfl := Option.some.inj ho
   refine ⟨rfl, OpW_run [] rfl rfl fun K' hK' => ?_⟩
   simp (maxSteps := 10000000) only [go_sem, k6]
   (try go_ints)
   (repeat refine And.intro side ?_)
   refine hK' _ ?_
   clear hK' K' ho hdep
   refine ⟨by simp_all, fun x hx => by have hq := (hb x hx).1; have hq2 := kb x hx; simp only [upd]; (repeat rw [if_neg (by omega)]); exact hq2, ?_, ?_, ?_, ?_, ?_, ?_, ?_, ?_, ?_, ?_, ?_, ?_, ?_, ?_, ?_, ?_, ?_, ?_, ?_, ?_⟩ <;> first | (simp [upd]; done) | (simp [upd]; assumption) | (simp_all [upd]; done)
  | 1, ho =>
   obtain rfl := Option.some.inj ho
   refine ⟨rfl, OpW_run [] rfl rfl fun K' hK' => ?_⟩
   simp (maxSteps := 10000000) only [go_sem, k0 (hdep 0 (by decide +kernel))]
   (try go_ints)
   (repeat refine And.intro side ?_)
   refine hK' _ ?_
   clear hK' K' ho hdep
   refine ⟨by simp_all, fun x hx => by have hq := (hb x hx).1; have hq2 := kb x hx; simp only [upd]; (repeat rw [if_neg (by omega)]); exact hq2, ?_, ?_, ?_, ?_, ?_, ?_, ?_, ?_, ?_, ?_, ?_, ?_, ?_, ?_, ?_, ?_, ?_, ?_, ?_, ?_⟩ <;> first | (simp [upd]; done) | (simp [upd]; assumption) | (simp_all [upd]; done)
  | 2, ho =>
   obtain rfl := Option.some.inj ho
   refine ⟨rfl, OpW_run [] rfl rfl fun K' hK' => ?_⟩
   simp (maxSteps := 10000000) only [go_sem, k1 (hdep 1 (by decide +kernel))]
   (try go_ints)
   (repeat refine And.intro side ?_)
   refine hK' _ ?_
   clear hK' K' ho hdep
   refine ⟨by simp_all, fun x hx => by have hq := (hb x hx).1; have hq2 := kb x hx; simp only [upd]; (repeat rw [if_neg (by omega)]); exact hq2, ?_, ?_, ?_, ?_, ?_, ?_, ?_, ?_, ?_, ?_, ?_, ?_, ?_, ?_, ?_, ?_, ?_, ?_, ?_, ?_⟩ <;> first | (simp [upd]; done) | (simp [upd]; assumption) | (simp_all [upd]; done)
  | 3, ho =>
   obtain rfl := Option.some.inj ho
   have e2 := k2 (hdep 2 (by decide +kernel))
   refine ⟨rfl, OpW_run [1000000] rfl rfl fun K' hK' => ?_⟩
   simp (maxSteps := 10000000) only [go_sem, e2, hkk]
   (try go_ints)
   (repeat refine And.intro side ?_)
   refine hK' _ ?_
   clear hK' K' ho hdep
   refine ⟨by simp_all, fun x hx => by have hq := (hb x hx).1; have hq2 := kb x hx; simp only [upd]; (repeat rw [if_neg (by omega)]); exact hq2, ?_, ?_, ?_, ?_, ?_, ?_, ?_, ?_, ?_, ?_, ?_, ?_, ?_, ?_, ?_, ?_, ?_, ?_, ?_, ?_⟩ <;> first | (simp [upd]; done) | (simp [upd]; assumption) | (simp_all [upd]; done)
  | 4, ho =>
   obtain rfl := Option.some.inj ho
   refine ⟨rfl, OpW_run [] rfl rfl fun K' hK' => ?_⟩
   simp (maxSteps := 10000000) only [go_sem, kx]
   (try go_ints)
   (repeat refine And.intro side ?_)
   refine hK' _ ?_
   clear hK' K' ho hdep
   refine ⟨by simp_all, fun x hx => by have hq := (hb x hx).1; have hq2 := kb x hx; simp only [upd]; (repeat rw [if_neg (by omega)]); exact hq2, ?_, ?_, ?_, ?_, ?_, ?_, ?_, ?_, ?_, ?_, ?_, ?_, ?_, ?_, ?_, ?_, ?_, ?_, ?_, ?_⟩ <;> first | (simp [upd]; done) | (simp [upd]; assumption) | (simp_all [upd]; done)
  | 5, ho =>
   obtain rfl := Option.some.inj ho
   refine ⟨rfl, OpW_run [] rfl rfl fun K' hK' => ?_⟩
   simp (maxSteps := 10000000) only [go_sem, k6]
   (try go_ints)
   (repeat refine And.intro side ?_)
   refine hK' _ ?_
   clear hK' K' ho hdep
   refine ⟨by simp_all, fun x hx => by have hq := (hb x hx).1; have hq2 := kb x hx; simp only [upd]; (repeat rw [if_neg (by omega)]); exact hq2, ?_, ?_, ?_, ?_, ?_, ?_, ?_, ?_, ?_, ?_, ?_, ?_, ?_, ?_, ?_, ?_, ?_, ?_, ?_, ?_⟩ <;> first | (simp [upd]; done) | (simp [upd]; assumption) | (simp_all [upd]; done)
  | 6, ho =>
   obtain rfl := Option.some.inj ho
   refine ⟨rfl, OpW_run [] rfl rfl fun K' hK' => ?_⟩
   simp (maxSteps := 10000000) only [go_sem, k5 (hdep 5 (by decide +kernel))]
   (try go_ints)
   (repeat refine And.intro side ?_)
   refine hK' _ ?_
   clear hK' K' ho hdep
   refine ⟨by simp_all, fun x hx => by have hq := (hb x hx).1; have hq2 := kb x hx; simp only [upd]; (repeat rw [if_neg (by omega)]); exact hq2, ?_, ?_, ?_, ?_, ?_, ?_, ?_, ?_, ?_, ?_, ?_, ?_, ?_, ?_, ?_, ?_, ?_, ?_, ?_, ?_⟩ <;> first | (simp [upd]; done) | (simp [upd]; assumption) | (simp_all [upd]; done)
  | 7, ho =>
   obtain rfl := Option.some.inj ho
   refine ⟨rfl, OpW_run [] rfl rfl fun K' hK' => ?_⟩
   simp (maxSteps := 10000000) only [go_sem, k7 (hdep 6 (by decide +kernel))]
   (try go_ints)
   (repeat refine And.intro side ?_)
   refine hK' _ ?_
   clear hK' K' ho hdep
   refine ⟨by simp_all, fun x hx => by have hq := (hb x hx).1; have hq2 := kb x hx; simp only [upd]; (repeat rw [if_neg (by omega)]); exact hq2, ?_, ?_, ?_, ?_, ?_, ?_, ?_, ?_, ?_, ?_, ?_, ?_, ?_, ?_, ?_, ?_, ?_, ?_, ?_, ?_⟩ <;> first | (simp [upd]; done) | (simp [upd]; assumption) | (simp_all [upd]; done)
  | 8, ho =>
   obtain rfl := Option.some.inj ho
   have e2 := k8 (hdep 7 (by decide +kernel))
   refine ⟨rfl, OpW_run [1000000] rfl rfl fun K' hK' => ?_⟩
   simp (maxSteps := 10000000) only [go_sem, e2, hkk]
   (try go_ints)
   (repeat refine And.intro side ?_)
   refine hK' _ ?_
   clear hK' K' ho hdep
   refine ⟨by simp_all, fun x hx => by have hq := (hb x hx).1; have hq2 := kb x hx; simp only [upd]; (repeat rw [if_neg (by omega)]); exact hq2, ?_, ?_, ?_, ?_, ?_, ?_, ?_, ?_, ?_, ?_, ?_, ?_, ?_, ?_, ?_, ?_, ?_, ?_, ?_, ?_⟩ <;> first | (simp [upd]; done) | (simp [upd]; assumption) | (simp_all [upd]; done)
  | 9, ho =>
   obtain rfl := Option.some.inj ho
   refine ⟨rfl, OpW_run [] rfl rfl fun K' hK' => ?_⟩
   simp (maxSteps := 10000000) only [go_sem, kx]
   (try go_ints)
   (repeat refine And.intro side ?_)
   refine hK' _ ?_
   clear hK' K' ho hdep
   refine ⟨by simp_all, fun x hx => by have hq := (hb x hx).1; have hq2 := kb x hx; simp only [upd]; (repeat rw [if_neg (by omega)]); exact hq2, ?_, ?_, ?_, ?_, ?_, ?_, ?_, ?_, ?_, ?_, ?_, ?_, ?_, ?_, ?_, ?_, ?_, ?_, ?_, ?_⟩ <;> first | (simp [upd]; done) | (simp [upd]; assumption) | (simp_all [upd]; done)
  | 10, ho =>
   obtain rfl := Option.some.inj ho
   have p13 : d 13 = false := by cases h : d 13 with | false => rfl | true => first | (rw [(kc.2 h).1] at hd; cases hd) | (rw [(kc.2 h).2] at hd; cases hd)
   have p14 : d 14 = false := by cases h : d 14 with | false => rfl | true => rw [(kc.1 h).1] at p13; cases p13
   have e8 := m8 (hdep 8 (by decide +kernel))
   have e9 := m9 (hdep 9 (by decide +kernel))
   simp only [p13, p14, Bool.false_eq_true, if_false] at ko
   subst ko
   refine ⟨rfl, OpW_run [1000000] rfl rfl fun K' hK' => ?_⟩
   rcases hf with ⟨hf, rfl, rfl, rfl⟩ | ⟨I, hf, rfl, hI, rfl⟩
   ·simp (maxSteps := 10000000) only [go_sem, e8, e9, hm1, hf]
    (try go_ints)
    (repeat refine And.intro side ?_)
    refine hK' _ ?_
    clear hK' K' ho hdep
    refine ⟨by simp_all, fun x hx => by have hq := (hb x hx).1; have hq2 := kb x hx; simp only [upd]; (repeat rw [if_neg (by omega)]); exact hq2, ?_, ?_, ?_, ?_, ?_, ?_, ?_, ?_, ?_, ?_, ?_, ?_, ?_, ?_, ?_, ?_, ?_, ?_, ?_, ?_⟩ <;> first | (simp [upd]; done) | (simp [upd]; assumption) | (simp_all [upd]; done)
   ·simp (maxSteps := 10000000) only [go_sem, e8, e9, hm1, hf]
    (try go_ints)
    (repeat refine And.intro side ?_)
    refine hK' _ ?_
    clear hK' K' ho hdep
    refine ⟨by simp_all, fun x hx => by have hq := (hb x hx).1; have hq2 := kb x hx; simp only [upd]; (repeat rw [if_neg (by omega)]); exact hq2, ?_, ?_, ?_, ?_, ?_, ?_, ?_, ?_, ?_, ?_, ?_, ?_, ?_, ?_, ?_, ?_, ?_, ?_, ?_, ?_⟩ <;> first | (simp [upd]; done) | (simp [upd]; assumption) | (simp_all [upd]; done)
  | 11, ho =>
   obtain rfl := Option.some.inj ho
   refine ⟨rfl, OpW_run [] rfl rfl fun K' hK' => ?_⟩
   simp (maxSteps := 10000000) only [go_sem, kj]
   (try go_ints)
   (repeat refine And.intro side ?_)
   refine hK' _ ?_
   clear hK' K' ho hdep
   refine ⟨by simp_all, fun x hx => by have hq := (hb x hx).1; have hq2 := kb x hx; simp only [upd]; (repeat rw [if_neg (by omega)]); exact hq2, ?_, ?_, ?_, ?_, ?_, ?_, ?_, ?_, ?_, ?_, ?_, ?_, ?_, ?_, ?_, ?_, ?_, ?_, ?_, ?_⟩ <;> first | (simp [upd]; done) | (simp [upd]; assumption) | (simp_all [upd]; done)
  | 12, ho =>
   obtain rfl := Option.some.inj ho
   have e1 := m1 (hdep 11 (by decide +kernel))
   refine ⟨rfl, OpW_run [] rfl rfl fun K' hK' => ?_⟩
   simp (maxSteps := 10000000) only [go_sem, e1]
   (try go_ints)
   (repeat refine And.intro side ?_)
   refine hK' _ ?_
   clear hK' K' ho hdep
   refine ⟨by simp_all, fun x hx => by have hq := (hb x hx).1; have hq2 := kb x hx; simp only [upd]; (repeat rw [if_neg (by omega)]); exact hq2, ?_, ?_, ?_, ?_, ?_, ?_, ?_, ?_, ?_, ?_, ?_, ?_, ?_, ?_, ?_, ?_, ?_, ?_, ?_, ?_⟩ <;> first | (simp [upd]; done) | (simp [upd]; assumption) | (simp_all [upd]; done)
  | 13, ho =>
   obtain rfl := Option.some.inj ho
   have p14 : d 14 = false := by cases h : d 14 with | false => rfl | true => rw [(kc.1 h).1] at hd; cases hd
   have e10 := m0 (hdep 10 (by decide +kernel)) hd
   have e12 := m2 (hdep 12 (by decide +kernel))
   have e10' := (hdep 10 (by decide +kernel))
   have e12' := (hdep 12 (by decide +kernel))
   simp only [hd, p14, Bool.false_eq_true, if_false] at ko
   subst ko
   refine ⟨rfl, OpW_run [1000000] rfl rfl fun K' hK' => ?_⟩
   rcases hf with ⟨hf, rfl, rfl, rfl⟩ | ⟨I, hf, rfl, hI, rfl⟩
   ·simp only [List.length_nil] at hr0
    subst hr0
    simp (maxSteps := 10000000) only [go_sem, e10, e12]
    (try go_ints)
    (repeat refine And.intro side ?_)
    refine hK' _ ?_
    clear hK' K' ho hdep
    refine ⟨by simp_all, fun x hx => by have hq := (hb x hx).1; have hq2 := kb x hx; simp only [upd]; (repeat rw [if_neg (by omega)]); exact hq2, ?_, ?_, ?_, ?_, ?_, ?_, ?_, ?_, ?_, ?_, ?_, ?_, ?_, ?_, ?_, ?_, ?_, ?_, ?_, ?_⟩ <;> first | (simp [upd]; done) | (simp [upd]; assumption) | (simp_all [upd]; done)
   ·have htk : r0.take n0 = r0 := by rw [← hr0, List.take_length]
    simp (maxSteps := 10000000) only [go_sem, e10, e12, hI, hrp, htk]
    (try go_ints)
    refine And.intro (by simp only [Bool.and_eq_true, decide_eq_true_eq]; exact ⟨⟨⟨by omega, by omega⟩, by omega⟩, hrp⟩) ?_
    refine hK' _ ?_
    clear hK' K' ho hdep
    refine ⟨by simp_all, fun x hx => by have hq := (hb x hx).1; have hq2 := kb x hx; simp only [upd]; (repeat rw [if_neg (by omega)]); exact hq2, ?_, ?_, ?_, ?_, ?_, ?_, ?_, ?_, ?_, ?_, ?_, ?_, ?_, ?_, ?_, ?_, ?_, ?_, ?_, ?_⟩ <;> first | (simp [upd]; done) | (simp [upd]; assumption) | (simp_all [upd]; done)
  | 14, ho =>
   obtain rfl := Option.some.inj ho
   have e3 := k3 (hdep 3 (by decide +kernel))
   have e4 := k4 (hdep 4 (by decide +kernel))
   have e13 := m3 (hdep 13 (by decide +kernel))
   have e13' := (hdep 13 (by decide +kernel))
   have e3' := (hdep 3 (by decide +kernel))
   have e4' := (hdep 4 (by decide +kernel))
   simp only [hd, e13', if_true, Bool.false_eq_true, if_false] at ko
   subst ko
   refine ⟨rfl, OpW_run [] rfl rfl fun K' hK' => ?_⟩
   simp (maxSteps := 10000000) only [go_sem, e3, e4, e13, hm2, hset]
   (try go_ints)
   (repeat refine And.intro side ?_)
   refine hK' _ ?_
   clear hK' K' ho hdep
   refine ⟨by simp_all, fun x hx => by have hq := (hb x hx).1; have hq2 := kb x hx; simp only [upd]; (repeat rw [if_neg (by omega)]); exact hq2, ?_, ?_, ?_, ?_, ?_, ?_, ?_, ?_, ?_, ?_, ?_, ?_, ?_, ?_, ?_, ?_, ?_, ?_, ?_, ?_⟩ <;> first | (simp [upd]; done) | (simp [upd]; assumption) | (simp_all [upd]; done)
  | i + 15, ho => simp at ho
 ·intro d s hd hI
  have e : ∀ i < 15, d i = true := hd
  obtain ⟨kc, kb, k6, kx, kj, k0, k1, k2, k3, k4, k5, k7, k8, m8, m9, m0, m1, m2, m3, ko, q1, q2⟩ := hI
  simp only [e 13 (by omega), e 14 (by omega), if_true] at ko
  refine hend s ⟨by simp, kb, k6, kx, kj, fun _ => k0 (e 0 (by omega)), fun _ => k1 (e 1 (by omega)), fun _ => k2 (e 2 (by omega)), fun _ => k3 (e 3 (by omega)), fun _ => k4 (e 4 (by omega)), fun _ => k5 (e 5 (by omega)), fun _ => k7 (e 6 (by omega)), fun _ => k8 (e 7 (by omega)), fun _ => m8 (e 8 (by omega)), fun _ => m9 (e 9 (by omega)), fun _ h => by simp at h, fun _ => m1 (e 11 (by omega)), fun _ => m2 (e 12 (by omega)), fun _ => m3 (e 13 (by omega)), by simpa using ko, q1, q2⟩
end Go.AW
namespace Go.AW
open Go Go.Proofs TyTry Go.IntWalk
set_option linter.unusedSimpArgs false
set_option linter.unusedVariables false
set_option maxRecDepth 10000
set_option maxHeartbeats 1000000
theorem sort0_spec : ACallsD Try.prog 80 [.sl 1 []] (.tup []) := run_ok (k := 300) (by kernel_rfl)
theorem compact0_spec : ACallsD Try.prog 81 [.sl 1 []] (.sl 1 []) := run_ok (k := 300) (by kernel_rfl)
def cln (l : List Int) : List Int := Lib.compact (sortI l)
theorem cln_nil : cln [] = [] := by
 have := compact_len (sortI [])
 rw [sortI_len] at this
 exact List.eq_nil_of_length_eq_zero (by simpa [cln] using this)
theorem cln_len (l : List Int) : (cln l).length ≤ l.length := by
 have := compact_len (sortI l)
 rw [sortI_len] at this
 exact this
theorem cln_mem (l : List Int) (x : Int) : x ∈ cln l ↔ x ∈ l := by
 unfold cln
 rw [compact_mem, sortI_mem]
theorem call7 {o7 : Oper} {t : Nat → AV} {o : List Ob} {v9 : AV} {R : AV → List Ob → Prop} {K : St → Prop} (ho : o7.op = .call ⟨.value (.func 81), #[.tmp 41], #[29]⟩) (hd : o7.dst = some 42)
  (h : ACalls Try.prog 81 [v9] o R) (hlen : ∀ r o', R r o' → o.length ≤ o'.length ∧ r.ltk o'.length = true ∧ okO o' = true) (ht : t 41 = v9) (hown : v9.isOwn = false) (hle : (ung true v9).dat = v9) (hoc : okO o = true) (hv : v9.ltk o.length = true)
  (hK : ∀ r o', R r o' → K ⟨upd t 42 r, o'⟩) : OpW Try.prog 152 o7 ⟨t, o⟩ K := by
 refine OpW_callE (R := R) (s := ⟨t, o⟩) (caps := []) ho rfl rfl h hlen rfl (by rw [hd]; rfl) (by simp) ?_ hoc (by simpa using hv) fun r o' hR => ?_
 ·simp only [List.size_toArray, List.length_cons, List.length_nil, List.take_succ_cons, List.take_zero, List.map_nil, List.append_nil, argVals, argA, hown, Bool.false_eq_true, if_false, Nat.zero_add, opd]
  rw [ht, hle]
  exact LeA.refl _
 ·have := hK r o' hR
  simp only [List.size_toArray, List.length_cons, List.length_nil, List.take_succ_cons, List.take_zero, argDrop, argT, hown, Bool.false_eq_true, if_false, Nat.zero_add]
  rw [hd]
  exact this
theorem hcall0 {K vars M V : Nat} {first : Bool} {lav : AV} {oc : List Ob} (hok : ∀ L, L = lav ∨ L = lav.dat → okO (oc.set K (.cells 13 [rowB vars M V first L])) = true) :
  ∀ (o7 : Oper) (t : Nat → AV) (L : AV), o7.op = .call ⟨.value (.func 81), #[.tmp 41], #[29]⟩ → o7.dst = some 42 → t 41 = .sl 1 [] → L = lav ∨ L = lav.dat → OpW Try.prog 152 o7 ⟨t, oc.set K (.cells 13 [rowB vars M V first L])⟩ fun s' =>
   (∀ k ≠ 42, ∀ v, stab v → t k = v → s'.t k = v) ∧ s'.t 42 = .sl 1 [] ∧ s'.o = oc.set K (.cells 13 [rowB vars M V first L]) := by
 intro o7 t L h1 h2 h3 h4
 refine call7 h1 h2 (compact0_spec.frame rfl rfl _) ?_ h3 rfl rfl (hok L h4) rfl ?_
 ·rintro r o' ⟨rfl, rfl⟩
  exact ⟨Nat.le_refl _, rfl, hok L h4⟩
 ·rintro r o' ⟨rfl, rfl⟩
  exact ⟨fun k hk v _ hv => by simp only [upd, if_neg hk]; exact hv, by simp [upd], rfl⟩
theorem ints_dat (l : List Int) : (ints l).map (fun r => r.map AV.dat) = ints l := by
 unfold ints
 rw [List.map_map]
 rfl
theorem hcallR {K vars M V : Nat} {first : Bool} {lav : AV} {o1 : List Ob} {l : List Int} (hl0 : 0 < l.length) (hll : l.length ≤ 1000000) (hK : K < o1.length) (hok : ∀ L, L = lav ∨ L = lav.dat → okO (o1.set K (.cells 13 [rowB vars M V first L])) = true) :
  ∀ (o7 : Oper) (t : Nat → AV) (L : AV), o7.op = .call ⟨.value (.func 81), #[.tmp 41], #[29]⟩ → o7.dst = some 42 → t 41 = .ref o1.length 0 l.length → L = lav ∨ L = lav.dat →
   OpW Try.prog 152 o7 ⟨t, (o1 ++ [Ob.cells 1 (ints l)]).set K (.cells 13 [rowB vars M V first L])⟩ fun s' =>
   (∀ k ≠ 42, ∀ v, stab v → t k = v → s'.t k = v) ∧ s'.t 42 = .sl 1 (ints (Lib.compact l)) ∧ s'.o = (o1 ++ [Ob.frz 1 (ints (Lib.compact l ++ List.replicate (l.length - (Lib.compact l).length) 0))]).set K (.cells 13 [rowB vars M V first L]) := by
 intro o7 t L h1 h2 h3 h4
 have hcl := compact_len l
 have hokL := hok L h4
 have hset : ∀ X : Ob, (o1 ++ [X]).set K (.cells 13 [rowB vars M V first L]) = o1.set K (.cells 13 [rowB vars M V first L]) ++ [X] := fun X => by
  rw [List.set_append_left _ _ hK]
 rw [hset, hset]
 generalize ho2 : o1.set K (.cells 13 [rowB vars M V first L]) = o2 at hokL
 have hlen2 : o2.length = o1.length := by rw [← ho2, List.length_set]
 rw [← hlen2] at h3
 have ho : (o2 ++ [Ob.cells 1 (ints l)])[o2.length]? = some (.cells 1 (ints l)) := by simp
 refine OpW.frz (K := fun s' => s' = ⟨upd t 42 (.ref o2.length 0 (Lib.compact l).length), o2 ++ [.cells 1 (ints (Lib.compact l ++ List.replicate (l.length - (Lib.compact l).length) 0))]⟩) (call7 h1 h2 (compact_spec ho hl0 (by omega)) ?_ h3 rfl rfl (okO_app hokL (by rw [List.all_cons, List.all_nil, Bool.and_true]; exact ints_ltk _ _)) (by simp [AV.ltk]) ?_) ?_
 ·rintro r o' ⟨rfl, rfl⟩
  refine ⟨by simp, by simp [AV.ltk], ?_⟩
  rw [app_set]
  exact okO_app hokL (by rw [List.all_cons, List.all_nil, Bool.and_true]; exact ints_ltk _ _)
 ·rintro r o' ⟨rfl, rfl⟩
  rw [app_set]
 ·rintro s' rfl
  refine ⟨o2.length, 1, ints (Lib.compact l ++ List.replicate (l.length - (Lib.compact l).length) 0), by simp, ?_, ?_⟩
  ·simp [ints, AV.dat, AV.ltk, AV.plain]
  ·rw [frS_last hokL (ints_dat _)]
   refine ⟨fun k hk v hs hv => ?_, ?_, rfl⟩
   ·simp only [upd, if_neg hk]
    rw [hv]
    exact hs _ _ _
   ·simp only [upd, if_true, AV.unref]
    rw [if_pos ⟨by first | trivial | rfl, by rw [ints_len]; simp⟩]
    congr 1
    simp [ints]
end Go.AW
namespace Go.AW
open Go Go.Proofs TyTry Go.IntWalk
set_option linter.unusedSimpArgs false
set_option linter.unusedVariables false
set_option maxRecDepth 10000
set_option maxHeartbeats 1000000
def lavL (L : List (List Int)) : AV := if L = [] then .nsl else .own 1 (tups L)
theorem lavL_or (L : List (List Int)) : lavL L = .nsl ∧ tups L = [] ∨ lavL L = .own 1 (tups L) := by
 unfold lavL
 split
 ·rename_i h; subst h; exact .inl ⟨rfl, rfl⟩
 ·exact .inr rfl
structure W1 (n0 vars : Nat) (first : Bool) (cls L : List (List Int)) (o : List Ob) : Prop where
 ok : okO o = true
 b : o[n0]? = some (.cells 2 [[.i .i64 vars, .sl 1 (tups cls)]])
 m : o[n0 + 1]? = some (.mapo [])
 v : o[n0 + 2]? = some (.cells 1 (ints (List.replicate vars 0)))
 k : o[n0 + 3]? = some (.cells 13 [rowB vars (n0 + 1) (n0 + 2) first (lavL L)])
theorem tups_dat (L : List (List Int)) : ((tups L).all fun r => r.all fun c => !c.isOwn && c.ltk 0 && c.plain) = true := by
 rw [List.all_eq_true]
 intro r hr
 simp only [tups, List.mem_map] at hr
 obtain ⟨l, _, rfl⟩ := hr
 rfl
theorem tups_snoc (L : List (List Int)) (x : List Int) : tups (L ++ [x]) = tups L ++ [[.sl 1 (ints x)]] := by simp [tups]
theorem rowB_ltk {n vars M V : Nat} {first : Bool} {lav : AV} (h1 : M < n) (h2 : V < n) (h3 : lav.ltk n = true) : Ob.ltk n (.cells 13 [rowB vars M V first lav]) = true := by
 simp [Ob.ltk, rowB, AV.ltk, h1, h2, h3]
theorem W1.next {n0 vars : Nat} {first : Bool} {cls L : List (List Int)} {o : List Ob} (h : W1 n0 vars first cls L o) {x : List Int} (Y : List Ob) (hY : okO (o ++ Y) = true) :
  W1 n0 vars first cls (L ++ [x]) ((o ++ Y).set (n0 + 3) (.cells 13 [rowB vars (n0 + 1) (n0 + 2) first (.own 1 (tups L ++ [[.sl 1 (ints x)]]))])) := by
 have g : ∀ {j : Nat} {X : Ob}, o[j]? = some X → (o ++ Y)[j]? = some X := fun hj => app_get _ hj
 have hs : ∀ (X : Ob) (j : Nat), ((o ++ Y).set (n0 + 3) X)[j]? = if j = n0 + 3 then some X else (o ++ Y)[j]? := fun X j => set_get (g h.k)
 have lk := (List.getElem?_eq_some_iff.1 (g h.k)).1
 refine ⟨okO_set hY ?_, by rw [hs, if_neg (by omega)]; exact g h.b, by rw [hs, if_neg (by omega)]; exact g h.m, by rw [hs, if_neg (by omega)]; exact g h.v, ?_⟩
 ·refine rowB_ltk (by omega) (by omega) ?_
  rfl
 ·rw [hs, if_pos rfl, ← tups_snoc]
  simp [lavL]
theorem set_same {o : List Ob} {i : Nat} {X : Ob} (h : o[i]? = some X) : o.set i X = o := by
 apply List.ext_getElem?
 intro j
 rw [set_get h]
 by_cases e : j = i
 ·rw [if_pos e, e, h]
 ·rw [if_neg e]
def outB (n0 : Nat) (cls : List (List Int)) : List (Nat × AV) := [(2, .ptr n0 0 0), (6, .ptr (n0 + 3) 0 0), (25, .sl 1 (tups cls)), (26, .i .i64 cls.length)]
def blkAt (k : Nat) : Code → Option Code
 | .seq a b => match blkAt k a with | some x => some x | none => blkAt k b
 | .cond _ a b => match blkAt k a with | some x => some x | none => blkAt k b
 | .block i a => if i = k then some a else blkAt k a
 | .loop a => blkAt k a
 | _ => none
theorem loop1 {c : Code} (hc : blkAt 0 (Try.f64.body.getD .skip) = some c) {Q : Exit → St → Prop} {n0 vars : Nat} {cls : List (List Int)} {first : Bool} (hv : vars ≤ 20000) (hcl : cls.length ≤ 20000) (hll : ∀ l ∈ cls, l.length ≤ 200000)
  {t0 : Nat → AV} {o0 : List Ob} (w1 : W1 n0 vars first cls [] o0) (h27 : t0 27 = .i .i64 0) (ht : ∀ x ∈ outB n0 cls, t0 x.1 = x.2)
  (hend : ∀ t o, W1 n0 vars first cls (cls.map cln) o → Q (.exit 0) ⟨mix 28 49 [8, 9, 27] t (tab (outB n0 cls)), o⟩) : W Try.prog 152 c Q ⟨t0, o0⟩ := by
 simp only [Try.f64, Option.getD_some, blkAt, Nat.reduceEqDiff, reduceIte, Option.some.injEq] at hc
 subst hc
 refine W_weak (s' := ⟨mix 28 49 [8, 9, 27] (tab [(27, .i .i64 0)]) (tab (outB n0 cls)), o0⟩) (tab_mix (fun y hy => ?_) ht) rfl ?_
 ·simp only [List.mem_cons, List.not_mem_nil, or_false] at hy
  subst hy; exact h27
 repeat (first | refine nav ?_ | refine bo ?_)
 refine W_forM 28 49 [8, 9, 27] (fun m t o => ∃ i : Nat, W1 n0 vars first cls ((cls.take i).map cln) o ∧ t 27 = .i .i64 i ∧ m = cls.length - i ∧ i ≤ cls.length) cls.length ⟨0, by rw [List.take_zero]; exact w1, rfl, rfl, by omega⟩ ?_
 clear w1
 rintro m t o ⟨i, hw, h27, rfl, hi⟩
 repeat (first | refine nav ?_ | refine bo ?_)
 (refine wr fun K R hK hR => ?_; simp (maxSteps := 10000000) only [go_sem, h27, outB]; (try go_ints); (try simp only [go_sem, h27, outB]); (repeat refine And.intro side ?_); (first | refine hK _ ?_ | refine hR _ _ ?_); clear hK hR K R)
 repeat (first | refine nav ?_ | refine bo ?_)
 refine W_cond (by simp only [go_sem] <;> exact rfl) (fun hb => ?_) (fun hb => ?_)
 ·have hb : i < cls.length := by simpa using hb
  obtain ⟨l, hl⟩ : ∃ l, cls[i]? = some l := ⟨_, List.getElem?_eq_getElem hb⟩
  have hlm := hll l (List.mem_of_getElem? hl)
  repeat (first | refine nav ?_ | refine bo ?_)
  (refine wr fun K R hK hR => ?_; simp (maxSteps := 10000000) only [go_sem, h27, tups_get hl]; (try go_ints); (try simp only [go_sem, h27, tups_get hl]); (repeat refine And.intro side ?_); (first | refine hK _ ?_ | refine hR _ _ ?_); clear hK hR K R)
  repeat (first | refine nav ?_ | refine bo ?_)
  have htk : (cls.take (i + 1)).map cln = (cls.take i).map cln ++ [cln l] := by
   rw [List.take_add_one, hl]; simp
  have hkl := (List.getElem?_eq_some_iff.1 hw.k).1
  have hbase : ∀ x ∈ [(2, AV.ptr n0 0 0), (25, .sl 1 (tups cls)), (26, .i .i64 cls.length), (27, .i .i64 i)], (x.1 < 35 ∨ 48 ≤ x.1) ∧ x.1 ≠ 9 ∧ stab x.2 := by
   intro x hx
   simp only [List.mem_cons, List.not_mem_nil, or_false] at hx
   rcases hx with rfl | rfl | rfl | rfl <;> exact ⟨by simp, by simp, fun _ _ _ => rfl⟩
  have hLl : (tups ((cls.take i).map cln)).length ≤ 1000000 := by rw [tups_len, List.length_map, List.length_take]; omega
  have hokL : ∀ (L : AV), L = lavL ((cls.take i).map cln) ∨ L = (lavL ((cls.take i).map cln)).dat → okO (o.set (n0 + 3) (.cells 13 [rowB vars (n0 + 1) (n0 + 2) first L])) = true := by
   intro L hL
   refine okO_set hw.ok (rowB_ltk (by omega) (by omega) ?_)
   rcases lavL_or ((cls.take i).map cln) with ⟨e, _⟩ | e <;> rw [e] at hL <;> rcases hL with rfl | rfl <;> rfl
  by_cases hl0 : l = []
  ·subst hl0
   (refine wr fun K R hK hR => ?_; simp (maxSteps := 10000000) only [go_sem]; (try go_ints); (repeat refine And.intro side ?_); (first | refine hK _ ?_ | refine hR _ _ ?_); clear hK hR K R)
   refine RL_callF (clone0_spec) rfl rfl rfl (by first | (simp only [go_sem] <;> first | exact LeA.refl _ | exact Le.refl _) | exact LeA.refl _) rfl rfl ?_
   (refine rr fun K R hK hR => ?_; simp (maxSteps := 10000000) only [go_sem]; (try go_ints); (repeat refine And.intro side ?_); (first | refine hK _ ?_ | refine hR _ _ ?_); clear hK hR K R)
   repeat (first | refine nav ?_ | refine bo ?_)
   (refine wr fun K R hK hR => ?_; simp (maxSteps := 10000000) only [go_sem]; (try go_ints); (repeat refine And.intro side ?_); (first | refine hK _ ?_ | refine hR _ _ ?_); clear hK hR K R)
   refine RL_callF (sort0_spec) rfl rfl rfl (by first | (simp only [go_sem] <;> first | exact LeA.refl _ | exact Le.refl _) | exact LeA.refl _) rfl rfl ?_
   (refine rr fun K R hK hR => ?_; simp (maxSteps := 10000000) only [go_sem]; (try go_ints); (repeat refine And.intro side ?_); (first | refine hK _ ?_ | refine hR _ _ ?_); clear hK hR K R)
   repeat (first | refine nav ?_ | refine bo ?_)
   refine reg7 (by rfl) (K := n0 + 3) (M := n0 + 1) (V := n0 + 2) (vars := vars) (first := first) (base := [(2, .ptr n0 0 0), (25, .sl 1 (tups cls)), (26, .i .i64 cls.length), (27, .i .i64 i)]) (v9 := .sl 1 []) (cl := []) (oc := o) (oc' := o) hbase (lavL_or _) hLl (tups_dat _) rfl hkl hkl (.inl rfl) (hcall0 hokL) ?_ ?_
   ·refine ⟨by simp, fun x hx => ?_, rfl, fun _ => rfl, fun h => by simp at h, fun h => by simp at h, fun h => by simp at h, fun h => by simp at h, fun h => by simp at h, fun h => by simp at h, fun h => by simp at h, fun h => by simp at h, fun h => by simp at h, fun h => by simp at h, fun h => by simp at h, fun h => by simp at h, fun h => by simp at h, ?_⟩
    ·simp only [List.mem_cons, List.not_mem_nil, or_false] at hx
     rcases hx with rfl | rfl | rfl | rfl
     ·rfl
     ·rfl
     ·rfl
     ·simp only [go_sem, h27]
    ·simp only [Bool.false_eq_true, if_false]
     exact (set_same hw.k).symm
   rintro s2 hI
   have hb2 := hI.b
   have hs2 : s2 = ⟨s2.t, s2.o⟩ := rfl
   repeat (first | refine nav ?_ | refine bo ?_)
   rw [hs2]
   refine W_weak (s' := ⟨mix 28 49 [8, 9, 27] (tab [(27, .i .i64 i)]) (tab (outB n0 cls)), _⟩) (tab_mix (fun y hy => ?_) (fun y hy => ?_)) rfl ?_
   ·simp only [List.mem_cons, List.not_mem_nil, or_false] at hy
    subst hy; exact hb2 (27, _) (by simp [outB])
   ·simp only [outB, List.mem_cons, List.not_mem_nil, or_false] at hy
    rcases hy with rfl | rfl | rfl | rfl
    ·exact hb2 (2, _) (by simp [outB])
    ·exact hI.f6
    ·exact hb2 (25, _) (by simp [outB])
    ·exact hb2 (26, _) (by simp [outB])
   (refine wr fun K R hK hR => ?_; simp (maxSteps := 10000000) only [go_sem]; (try go_ints); (repeat refine And.intro side ?_); (first | refine hK _ ?_ | refine hR _ _ ?_); clear hK hR K R)
   repeat (first | refine nav ?_ | refine bo ?_)
   refine forQ_normal (cls.length - (i + 1)) (by omega) ⟨i + 1, ?_, ?_, rfl, by omega⟩
   ·have := hI.o
    simp only [if_true] at this
    rw [this, htk]
    rw [cln_nil]
    have := hw.next (x := []) [] (by rw [List.append_nil]; exact hw.ok)
    rw [List.append_nil] at this
    exact this
   ·simp only [go_sem] <;> simp
  ·have hlp : 0 < l.length := List.length_pos_iff.2 hl0
   have hkl2 : n0 + 3 < (o ++ [Ob.cells 1 (ints (sortI l))]).length := by rw [List.length_append]; omega
   have hcd : ((ints (cln l)).all fun r => r.all fun c => !c.isOwn && c.ltk 0 && c.plain) = true := by simp [ints, AV.isOwn, AV.ltk, AV.plain]
   have hokI : ∀ q : List Int, okO (o ++ [.cells 1 (ints q)]) = true := fun q => okO_app hw.ok (by rw [List.all_cons, List.all_nil, Bool.and_true]; exact ints_ltk _ _)
   (refine wr fun K R hK hR => ?_; simp (maxSteps := 10000000) only [go_sem]; (try go_ints); (repeat refine And.intro side ?_); (first | refine hK _ ?_ | refine hR _ _ ?_); clear hK hR K R)
   refine RL_callE (clone_spec hw.ok hlp (by omega)) (fun r o' ⟨e1, e2⟩ => by rw [e1, e2]; exact ⟨by simp, by simp [AV.ltk], hokI l⟩) (by simp only [go_sem] <;> exact rfl) rfl rfl (by simp) (by simp only [go_sem] <;> exact LeA.refl _) hw.ok (by simp [AV.ltk]) ?_
   rintro r o2 ⟨rfl, rfl⟩
   (refine rr fun K R hK hR => ?_; simp (maxSteps := 10000000) only [go_sem]; (try go_ints); (repeat refine And.intro side ?_); (first | refine hK _ ?_ | refine hR _ _ ?_); clear hK hR K R)
   repeat (first | refine nav ?_ | refine bo ?_)
   (refine wr fun K R hK hR => ?_; simp (maxSteps := 10000000) only [go_sem]; (try go_ints); (repeat refine And.intro side ?_); (first | refine hK _ ?_ | refine hR _ _ ?_); clear hK hR K R)
   refine RL_callE (sort_spec (l := l) (oc := o ++ [.cells 1 (ints l)]) (id := o.length) (by simp) hlp (by omega)) (fun r o' ⟨e1, e2⟩ => by rw [e1, e2, app_set]; exact ⟨by simp, by simp [AV.ltk, AV.ltks], hokI (sortI l)⟩) (by simp only [go_sem] <;> exact rfl) rfl rfl (by simp) (by simp only [go_sem] <;> exact LeA.refl _) (hokI l) (by simp [AV.ltk]) ?_
   rintro r o3 ⟨rfl, rfl⟩
   rw [app_set]
   (refine rr fun K R hK hR => ?_; simp (maxSteps := 10000000) only [go_sem]; (try go_ints); (repeat refine And.intro side ?_); (first | refine hK _ ?_ | refine hR _ _ ?_); clear hK hR K R)
   repeat (first | refine nav ?_ | refine bo ?_)
   rw [← sortI_len l]
   refine reg7 (by rfl) (K := n0 + 3) (M := n0 + 1) (V := n0 + 2) (vars := vars) (first := first) (base := [(2, .ptr n0 0 0), (25, .sl 1 (tups cls)), (26, .i .i64 cls.length), (27, .i .i64 i)]) (v9 := .ref o.length 0 (sortI l).length) (cl := ints (cln l)) (oc := o ++ [.cells 1 (ints (sortI l))]) (oc' := o ++ [.frz 1 (ints (Lib.compact (sortI l) ++ List.replicate ((sortI l).length - (Lib.compact (sortI l)).length) 0))]) hbase (lavL_or _) hLl (tups_dat _) hcd hkl2 (by simp; omega) (.inr ⟨_, _, rfl⟩) (hcallR (by rw [sortI_len]; exact hlp) (by rw [sortI_len]; omega) hkl hokL) ?_ ?_
   ·refine ⟨by simp, fun x hx => ?_, rfl, fun _ => rfl, fun h => by simp at h, fun h => by simp at h, fun h => by simp at h, fun h => by simp at h, fun h => by simp at h, fun h => by simp at h, fun h => by simp at h, fun h => by simp at h, fun h => by simp at h, fun h => by simp at h, fun h => by simp at h, fun h => by simp at h, fun h => by simp at h, ?_⟩
    ·simp only [List.mem_cons, List.not_mem_nil, or_false] at hx
     rcases hx with rfl | rfl | rfl | rfl
     ·rfl
     ·rfl
     ·rfl
     ·simp only [go_sem, h27]
    ·simp only [Bool.false_eq_true, if_false]
     exact (set_same (app_get _ hw.k)).symm
   rintro s2 hI
   have hb2 := hI.b
   have hs2 : s2 = ⟨s2.t, s2.o⟩ := rfl
   repeat (first | refine nav ?_ | refine bo ?_)
   rw [hs2]
   refine W_weak (s' := ⟨mix 28 49 [8, 9, 27] (tab [(27, .i .i64 i)]) (tab (outB n0 cls)), _⟩) (tab_mix (fun y hy => ?_) (fun y hy => ?_)) rfl ?_
   ·simp only [List.mem_cons, List.not_mem_nil, or_false] at hy
    subst hy; exact hb2 (27, _) (by simp [outB])
   ·simp only [outB, List.mem_cons, List.not_mem_nil, or_false] at hy
    rcases hy with rfl | rfl | rfl | rfl
    ·exact hb2 (2, _) (by simp [outB])
    ·exact hI.f6
    ·exact hb2 (25, _) (by simp [outB])
    ·exact hb2 (26, _) (by simp [outB])
   (refine wr fun K R hK hR => ?_; simp (maxSteps := 10000000) only [go_sem]; (try go_ints); (repeat refine And.intro side ?_); (first | refine hK _ ?_ | refine hR _ _ ?_); clear hK hR K R)
   repeat (first | refine nav ?_ | refine bo ?_)
   refine forQ_normal (cls.length - (i + 1)) (by omega) ⟨i + 1, ?_, ?_, rfl, by omega⟩
   ·have := hI.o
    simp only [if_true] at this
    rw [this, htk]
    exact hw.next (x := cln l) [.frz 1 (ints (Lib.compact (sortI l) ++ List.replicate ((sortI l).length - (Lib.compact (sortI l)).length) 0))] (okO_app hw.ok rfl)
   ·simp only [go_sem] <;> simp
 ·have hb : ¬ i < cls.length := by simpa using hb
  obtain rfl : i = cls.length := by omega
  rw [List.take_length] at hw
  repeat (first | refine nav ?_ | refine bo ?_)
  exact hend _ _ hw
end Go.AW
namespace Go.AW
open Go Go.Proofs TyTry Go.IntWalk
set_option linter.unusedSimpArgs false
set_option linter.unusedVariables false
set_option maxRecDepth 10000
set_option maxHeartbeats 1000000
theorem innOf_take {list : List (List Int)} (x : Int) {i : Nat} (hi : i ≤ list.length) : innOf (list.take i) x = (List.range i).flatMap fun k => List.replicate ((list.getD k []).count x) (k : Int) := by
 unfold innOf
 rw [List.length_take, Nat.min_eq_left hi, List.flatMap_def, List.flatMap_def]
 congr 1
 refine List.map_congr_left fun k hk => ?_
 have hk := List.mem_range.1 hk
 rw [List.getD_eq_getElem?_getD, List.getD_eq_getElem?_getD, List.getElem?_take_of_lt hk]
theorem innOf_succ {list : List (List Int)} (x : Int) {i : Nat} (hi : i < list.length) : innOf (list.take (i + 1)) x = innOf (list.take i) x ++ List.replicate ((list.getD i []).count x) (i : Int) := by
 rw [innOf_take x (by omega), innOf_take x (by omega), List.range_succ, List.flatMap_append]
 simp
theorem innOf_mono {list : List (List Int)} (x : Int) : ∀ (k i : Nat), i + k ≤ list.length → (innOf (list.take i) x).length ≤ (innOf (list.take (i + k)) x).length
 | 0, i, _ => Nat.le_refl _
 | k + 1, i, h => by
  have := innOf_mono (list := list) x k i (by omega)
  rw [← Nat.add_assoc, innOf_succ x (i := i + k) (by omega), List.length_append]
  omega
def inP (list : List (List Int)) (i p : Nat) (x : Int) : List Int := innOf (list.take i) x ++ List.replicate (((list.getD i []).take p).count x) (i : Int)
def row2 (vars : Nat) (list : List (List Int)) (first : Bool) (n0 G : Nat) (lv : AV) : List AV := [.i .i64 vars, lavL list, .mp (n0 + 1), lv, .ref G 0 list.length, .i .i64 list.length, .ref (n0 + 2) 0 vars, .nsl, .i .i64 0, .b first, .nsl, .i .i64 0, .b false]
structure W2 (n0 vars : Nat) (first : Bool) (list : List (List Int)) (G : Nat) (lv : AV) (lft : List Int) (inn : Int → List Int) (es : List (AV × AV)) (o : List Ob) : Prop where
 ok : okO o = true
 k : o[n0 + 3]? = some (.cells 13 [row2 vars list first n0 G lv])
 m : o[n0 + 1]? = some (.mapo es)
 ai : AllI es
 l : lv = .nsl ∧ lft = [] ∨ ∃ Lf, lv = .ref Lf 0 lft.length ∧ o[Lf]? = some (.cells 1 (ints lft)) ∧ Lf ≠ G ∧ Lf ≠ n0 + 2
 g : o[G]? = some (.cells 1 (ints (List.replicate list.length 0)))
 v : o[n0 + 2]? = some (.cells 1 (ints (List.replicate vars 0)))
 gv : G ≠ n0 + 2
 inn : ∀ x : Int, (mfind (.i .i64 x) es = some none ∧ inn x = []) ∨ ∃ I, mfind (.i .i64 x) es = some (some (.ref I 0 (inn x).length)) ∧ o[I]? = some (.cells 1 (ints (inn x))) ∧ I ≠ G ∧ I ≠ n0 + 2 ∧ ∀ l, lv ≠ .ref I 0 l
 inj : ∀ (x y : Int) (I a b : Nat), mfind (.i .i64 x) es = some (some (.ref I 0 a)) → mfind (.i .i64 y) es = some (some (.ref I 0 b)) → x = y
theorem row2_ltk {n vars n0 G : Nat} {list : List (List Int)} {first : Bool} {lv : AV} (h1 : n0 + 3 < n) (h2 : G < n) (h3 : lv.ltk n = true) : Ob.ltk n (.cells 13 [row2 vars list first n0 G lv]) = true := by
 have : (lavL list).ltk n = true := by rcases lavL_or list with ⟨e, _⟩ | e <;> rw [e] <;> rfl
 simp [Ob.ltk, row2, AV.ltk, h2, h3, this]
 omega
theorem W2.left {n0 vars : Nat} {first : Bool} {list : List (List Int)} {G : Nat} {lv : AV} {lft : List Int} {inn : Int → List Int} {es : List (AV × AV)} {o : List Ob} (h : W2 n0 vars first list G lv lft inn es o) {o1 : List Ob} {T : Nat} {v : Int}
  (hlen : o.length ≤ o1.length) (hpre : ∀ j X, o[j]? = some X → (∀ l, lv ≠ .ref j 0 l) → o1[j]? = some X) (hok : okO o1 = true) (hT : o1[T]? = some (.cells 1 (ints (lft ++ [v])))) (hTl : o.length ≤ T) :
  W2 n0 vars first list G (.ref T 0 (lft.length + 1)) (lft ++ [v]) inn es (o1.set (n0 + 3) (.cells 13 [row2 vars list first n0 G (.ref T 0 (lft.length + 1))])) := by
 have lk := (List.getElem?_eq_some_iff.1 h.k).1
 have lg := (List.getElem?_eq_some_iff.1 h.g).1
 have lT := (List.getElem?_eq_some_iff.1 hT).1
 have nl : ∀ j X, o[j]? = some X → (∀ r, X ≠ .cells 1 r) → ∀ l, lv ≠ .ref j 0 l := by
  intro j X hj hX l e
  rcases h.l with ⟨q, _⟩ | ⟨Lf, q, q2, _⟩
  ·rw [q] at e; cases e
  ·rw [q] at e
   simp only [AV.ref.injEq] at e
   rw [e.1, hj] at q2
   exact hX _ (Option.some.inj q2)
 have ng : ∀ j, (j = G ∨ j = n0 + 2) → ∀ l, lv ≠ .ref j 0 l := by
  intro j hj l e
  rcases h.l with ⟨q, _⟩ | ⟨Lf, q, q2, q3, q4⟩
  ·rw [q] at e; cases e
  ·rw [q] at e
   simp only [AV.ref.injEq] at e
   rcases hj with rfl | rfl
   ·exact q3 e.1
   ·exact q4 e.1
 have kk := hpre _ _ h.k (nl _ _ h.k fun r => by simp)
 have hs : ∀ (X : Ob) (j : Nat), (o1.set (n0 + 3) X)[j]? = if j = n0 + 3 then some X else o1[j]? := fun X j => set_get kk
 refine ⟨okO_set hok (row2_ltk (by omega) (by omega) (by simp [AV.ltk, lT])), by rw [hs, if_pos rfl], by rw [hs, if_neg (by omega)]; exact hpre _ _ h.m (nl _ _ h.m fun r => by simp), h.ai, .inr ⟨T, by simp, by rw [hs, if_neg (by omega)]; exact hT, by omega, by omega⟩, ?_, by rw [hs, if_neg (by omega)]; exact hpre _ _ h.v (ng _ (.inr rfl)), h.gv, fun x => ?_, h.inj⟩
 ·have : G ≠ n0 + 3 := by
   intro e; have := h.g; rw [e, h.k] at this; simp at this
  rw [hs, if_neg this]; exact hpre _ _ h.g (ng _ (.inl rfl))
 ·refine (h.inn x).imp id fun ⟨I, q1, q2, q3, q4, q5⟩ => ⟨I, q1, ?_, q3, q4, fun l e => ?_⟩
  ·have : I ≠ n0 + 3 := by
    intro e; rw [e, h.k] at q2; simp at q2
   rw [hs, if_neg this]; exact hpre _ _ q2 q5
  ·simp only [AV.ref.injEq] at e
   have := (List.getElem?_eq_some_iff.1 q2).1
   omega
theorem W2.push {n0 vars : Nat} {first : Bool} {list : List (List Int)} {G : Nat} {lv : AV} {lft : List Int} {inn : Int → List Int} {es es' : List (AV × AV)} {o : List Ob} (h : W2 n0 vars first list G lv lft inn es o) {x : Int} {j : Nat} {oc2 : List Ob}
  (hset : mset (.i .i64 x) (.ref o.length 0 ((inn x).length + 1)) es = some es')
  (h2 : (mfind (.i .i64 x) es = some none ∧ oc2 = o ++ [.cells 1 [[.i .i64 j]]]) ∨ ∃ I n, mfind (.i .i64 x) es = some (some (.ref I 0 n)) ∧ oc2 = o.set I .dead ++ [.cells 1 (ints (inn x) ++ [[.i .i64 j]])]) :
  W2 n0 vars first list G lv lft (fun y => if y = x then inn x ++ [(j : Int)] else inn y) es' (oc2.set (n0 + 1) (.mapo es')) ∧ oc2[n0 + 1]? = some (.mapo es) ∧ oc2[n0 + 3]? = some (.cells 13 [row2 vars list first n0 G lv]) := by
 obtain ⟨es2, e1, e2, e3⟩ := mset_ok x (.ref o.length 0 ((inn x).length + 1)) es h.ai
 rw [hset] at e1
 obtain rfl := Option.some.inj e1
 have lk := (List.getElem?_eq_some_iff.1 h.k).1
 have lg := (List.getElem?_eq_some_iff.1 h.g).1
 have hoc : okO oc2 = true ∧ oc2.length = o.length + 1 ∧ oc2[o.length]? = some (.cells 1 (ints (inn x ++ [(j : Int)]))) ∧ ∀ (J : Nat) (X : Ob), o[J]? = some X → (∀ n, mfind (.i .i64 x) es ≠ some (some (.ref J 0 n))) → oc2[J]? = some X := by
  have hi : ints (inn x ++ [(j : Int)]) = ints (inn x) ++ [[.i .i64 j]] := by simp [ints]
  rcases h2 with ⟨f, rfl⟩ | ⟨I, n, f, rfl⟩
  ·have hx : inn x = [] := by
    rcases h.inn x with ⟨_, q⟩ | ⟨I, q, _⟩
    ·exact q
    ·rw [f] at q; cases q
   rw [hx]
   exact ⟨okO_app h.ok (by simp [Ob.ltk, AV.ltk]), by simp, by simp [ints], fun J X hJ _ => app_get _ hJ⟩
  ·rw [hi]
   refine ⟨okO_app (okO_set h.ok rfl) ?_, by simp, by rw [List.getElem?_append_right (by simp)]; simp, fun J X hJ hn => ?_⟩
   ·rw [List.all_cons, List.all_nil, Bool.and_true, ← hi]
    exact ints_ltk _ _
   ·have : I ≠ J := fun e => hn n (e ▸ f)
    refine app_get _ ?_
    rw [List.getElem?_set_ne this]
    exact hJ
 obtain ⟨o1, o2, o3, o4⟩ := hoc
 have nx : ∀ (J : Nat) (X : Ob), o[J]? = some X → (∀ r, X ≠ .cells 1 r) → ∀ n, mfind (.i .i64 x) es ≠ some (some (.ref J 0 n)) := by
  intro J X hJ hX n f
  rcases h.inn x with ⟨q, _⟩ | ⟨I, q, q2, _⟩
  ·rw [q] at f; cases f
  ·rw [q] at f
   simp only [Option.some.injEq, AV.ref.injEq] at f
   rw [f.1, hJ] at q2
   exact hX _ (Option.some.inj q2)
 have nj : ∀ J, (J = G ∨ J = n0 + 2 ∨ ∃ l, lv = .ref J 0 l) → ∀ n, mfind (.i .i64 x) es ≠ some (some (.ref J 0 n)) := by
  intro J hJ n f
  rcases h.inn x with ⟨q, _⟩ | ⟨I, q, q2, q3, q4, q5⟩
  ·rw [q] at f; cases f
  ·rw [q] at f
   simp only [Option.some.injEq, AV.ref.injEq] at f
   rcases hJ with rfl | rfl | ⟨l, q⟩
   ·exact q3 f.1
   ·exact q4 f.1
   ·rw [← f.1] at q; exact q5 l q
 have km := o4 _ _ h.m (nx _ _ h.m fun r => by simp)
 have kk := o4 _ _ h.k (nx _ _ h.k fun r => by simp)
 refine ⟨?_, km, kk⟩
 have hs : ∀ (X : Ob) (j : Nat), (oc2.set (n0 + 1) X)[j]? = if j = n0 + 1 then some X else oc2[j]? := fun X j => set_get km
 have ne : ∀ {J : Nat} {r : List (List AV)}, o[J]? = some (.cells 1 r) → J ≠ n0 + 1 := by
  intro J r hJ e; rw [e, h.m] at hJ; simp at hJ
 have hlv : ∀ l, lv ≠ .ref o.length 0 l := by
  intro l e
  rcases h.l with ⟨q, _⟩ | ⟨Lf, q, q2, _⟩
  ·rw [q] at e; cases e
  ·rw [q] at e
   simp only [AV.ref.injEq] at e
   have := (List.getElem?_eq_some_iff.1 q2).1
   omega
 refine ⟨okO_set o1 ?_, by rw [hs, if_neg (by omega)]; exact kk, by rw [hs, if_pos rfl], h.ai.set e2, ?_, by rw [hs, if_neg (ne h.g)]; exact o4 _ _ h.g (nj _ (.inl rfl)), by rw [hs, if_neg (ne h.v)]; exact o4 _ _ h.v (nj _ (.inr (.inl rfl))), h.gv, fun y => ?_, ?_⟩
 ·have hm : Ob.ltk o.length (.mapo es) = true := by
   have := h.ok
   unfold okO at this
   rw [List.all_eq_true] at this
   exact this _ (List.mem_of_getElem? h.m)
  simp only [Ob.ltk, List.all_eq_true, Bool.and_eq_true] at hm ⊢
  intro e he
  rcases e2 e he with q | q
  ·exact ⟨ltk_mono (by omega) _ (hm e q).1, ltk_mono (by omega) _ (hm e q).2⟩
  ·rw [q]; exact ⟨rfl, by simp [AV.ltk, o2]⟩
 ·refine h.l.imp id fun ⟨Lf, q1, q2, q3, q4⟩ => ⟨Lf, q1, ?_, q3, q4⟩
  rw [hs, if_neg (ne q2)]
  exact o4 _ _ q2 (nj _ (.inr (.inr ⟨_, q1⟩)))
 ·simp only [e3]
  by_cases hy : y = x
  ·subst hy
   simp only [if_true]
   refine .inr ⟨o.length, by simp, ?_, by omega, by omega, hlv⟩
   rw [hs, if_neg (by omega)]; exact o3
  ·simp only [if_neg hy]
   refine (h.inn y).imp id fun ⟨I, q1, q2, q3⟩ => ⟨I, q1, ?_, q3⟩
   rw [hs, if_neg (ne q2)]
   exact o4 _ _ q2 fun n f => hy (h.inj _ _ _ _ _ q1 f)
 ·intro a b I p q ha hb
  rw [e3] at ha hb
  have lt : ∀ (z : Int) (n : Nat), mfind (.i .i64 z) es = some (some (.ref I 0 n)) → I < o.length := by
   intro z n hz
   rcases h.inn z with ⟨q, _⟩ | ⟨I', q, q2, _⟩
   ·rw [q] at hz; cases hz
   ·rw [q] at hz
    simp only [Option.some.injEq, AV.ref.injEq] at hz
    rw [← hz.1]
    exact (List.getElem?_eq_some_iff.1 q2).1
  split at ha <;> split at hb
  ·rename_i r1 r2; rw [r1, r2]
  ·simp only [Option.some.injEq, AV.ref.injEq] at ha
   have := lt _ _ hb; omega
  ·simp only [Option.some.injEq, AV.ref.injEq] at hb
   have := lt _ _ ha; omega
  ·exact h.inj _ _ _ _ _ ha hb
end Go.AW
namespace Go.AW
open Go Go.Proofs TyTry Go.IntWalk
set_option linter.unusedSimpArgs false
set_option linter.unusedVariables false
set_option maxRecDepth 10000
set_option maxHeartbeats 1000000
def outD (n0 : Nat) (list : List (List Int)) (i : Nat) (l : List Int) : List (Nat × AV) := [(6, .ptr (n0 + 3) 0 0), (10, .i .i64 i), (72, .sl 1 (tups list)), (73, .i .i64 list.length), (74, .i .i64 i), (90, .sl 1 (ints l)), (91, .i .i64 l.length)]
theorem inP_zero (list : List (List Int)) (i : Nat) : inP list i 0 = innOf (list.take i) := by
 funext x
 simp [inP]
theorem inP_full {list : List (List Int)} {i : Nat} {l : List Int} (h : list[i]? = some l) : inP list i l.length = innOf (list.take (i + 1)) := by
 funext x
 have hlt := (List.getElem?_eq_some_iff.1 h).1
 have hg : list.getD i [] = l := getD_of2 h
 rw [innOf_succ x hlt, inP, hg, List.take_length]
theorem inP_succ {list : List (List Int)} {i p : Nat} {l : List Int} {x : Int} (h : list[i]? = some l) (hp : l[p]? = some x) : inP list i (p + 1) = fun y => if y = x then inP list i p x ++ [(i : Int)] else inP list i p y := by
 funext y
 have hg : list.getD i [] = l := getD_of2 h
 simp only [inP, hg]
 rw [List.take_add_one, hp]
 simp only [Option.toList_some, List.count_append]
 by_cases e : y = x
 ·subst e
  simp only [if_true, List.count_cons_self, List.count_nil, Nat.zero_add, List.append_assoc]
  rw [List.replicate_succ']
 ·rw [if_neg e]
  have : List.count y [x] = 0 := by simp [List.count_eq_zero, e]
  rw [this, Nat.add_zero]
theorem inP_le {list : List (List Int)} {i : Nat} (p : Nat) (x : Int) (hi : i < list.length) : (inP list i p x).length ≤ (innOf list x).length := by
 have h1 := innOf_mono (list := list) x (list.length - (i + 1)) (i + 1) (by omega)
 rw [show i + 1 + (list.length - (i + 1)) = list.length by omega, List.take_length, innOf_succ x hi, List.length_append, List.length_replicate] at h1
 have h2 : ((list.getD i []).take p).count x ≤ (list.getD i []).count x := (List.take_sublist p _).count_le x
 simp only [inP, List.length_append, List.length_replicate]
 omega
theorem loop4 {c : Code} (hc : blkAt 4 (Try.f64.body.getD .skip) = some c) {Q : Exit → St → Prop} {n0 vars : Nat} {first : Bool} {list : List (List Int)} {i : Nat} {l : List Int} {G : Nat} {lv : AV} {lft : List Int}
  (hl : list[i]? = some l) (hll : l.length ≤ 200000) (hln : list.length ≤ 20000) (hsum : ∀ x, (innOf list x).length ≤ 200000) (hlit : ∀ x ∈ l, LitOk vars x) (hvs : vars ≤ 20000)
  {es0 : List (AV × AV)} {t0 : Nat → AV} {o0 : List Ob} (w0 : W2 n0 vars first list G lv lft (innOf (list.take i)) es0 o0) (h92 : t0 92 = .i .i64 0) (ht : ∀ x ∈ outD n0 list i l, t0 x.1 = x.2)
  (hend : ∀ t o es, W2 n0 vars first list G lv lft (innOf (list.take (i + 1))) es o → Q (.exit 4) ⟨mix 93 111 [13, 92] t (tab (outD n0 list i l)), o⟩) : W Try.prog 152 c Q ⟨t0, o0⟩ := by
 simp only [Try.f64, Option.getD_some, blkAt, Nat.reduceEqDiff, reduceIte, Option.some.injEq] at hc
 subst hc
 have hlt := (List.getElem?_eq_some_iff.1 hl).1
 refine W_weak (s' := ⟨mix 93 111 [13, 92] (tab [(92, .i .i64 0)]) (tab (outD n0 list i l)), o0⟩) (tab_mix (fun y hy => ?_) ht) rfl ?_
 ·simp only [List.mem_cons, List.not_mem_nil, or_false] at hy
  subst hy; exact h92
 repeat (first | refine nav ?_ | refine bo ?_)
 refine W_forM 93 111 [13, 92] (fun m t o => ∃ (p : Nat) (es : List (AV × AV)), W2 n0 vars first list G lv lft (inP list i p) es o ∧ t 92 = .i .i64 p ∧ m = l.length - p ∧ p ≤ l.length) l.length ⟨0, es0, by rw [inP_zero]; exact w0, rfl, rfl, by omega⟩ ?_
 rintro m t o ⟨p, es, hw, h92, rfl, hp⟩
 repeat (first | refine nav ?_ | refine bo ?_)
 (refine wr fun K R hK hR => ?_; simp (maxSteps := 10000000) only [go_sem, h92, outD]; (try go_ints); (try simp only [go_sem, h92, outD]); (repeat refine And.intro side ?_); (first | refine hK _ ?_ | refine hR _ _ ?_); clear hK hR K R)
 repeat (first | refine nav ?_ | refine bo ?_)
 refine W_cond (by simp only [go_sem] <;> exact rfl) (fun hb => ?_) (fun hb => ?_)
 ·have hb : p < l.length := by simpa using hb
  obtain ⟨x, hx⟩ : ∃ x, l[p]? = some x := ⟨_, List.getElem?_eq_getElem hb⟩
  obtain ⟨x0, x1, x2⟩ := hlit x (List.mem_of_getElem? hx)
  have hle := inP_le p x hlt
  have hsx := hsum x
  repeat (first | refine nav ?_ | refine bo ?_)
  (refine wr fun K R hK hR => ?_; simp (maxSteps := 10000000) only [go_sem, h92, ints_get hx]; (try go_ints); (try simp only [go_sem, h92, ints_get hx]); (repeat refine And.intro side ?_); (first | refine hK _ ?_ | refine hR _ _ ?_); clear hK hR K R)
  repeat (first | refine nav ?_ | refine bo ?_)
  obtain ⟨es', hes', _, _⟩ := mset_ok x (.ref o.length 0 ((inP list i p x).length + 1)) es hw.ai
  obtain ⟨oc2, v0, hoc, hoc'⟩ : ∃ oc2 v0, (mfind (.i .i64 x) es = some none ∧ v0 = .nsl ∧ ints (inP list i p x) = [] ∧ oc2 = o ++ [Ob.cells 1 [[.i .i64 i]]] ∨
   ∃ I, mfind (.i .i64 x) es = some (some v0) ∧ v0 = .ref I 0 (inP list i p x).length ∧ o[I]? = some (.cells 1 (ints (inP list i p x))) ∧ oc2 = o.set I .dead ++ [Ob.cells 1 (ints (inP list i p x) ++ [[.i .i64 i]])]) ∧
   ((mfind (.i .i64 x) es = some none ∧ oc2 = o ++ [Ob.cells 1 [[.i .i64 i]]]) ∨ ∃ I n, mfind (.i .i64 x) es = some (some (.ref I 0 n)) ∧ oc2 = o.set I .dead ++ [Ob.cells 1 (ints (inP list i p x) ++ [[.i .i64 i]])]) := by
   rcases hw.inn x with ⟨q1, q2⟩ | ⟨I, q1, q2, _⟩
   ·exact ⟨_, .nsl, .inl ⟨q1, rfl, by rw [q2]; rfl, rfl⟩, .inl ⟨q1, rfl⟩⟩
   ·exact ⟨_, _, .inr ⟨I, q1, rfl, q2, rfl⟩, .inr ⟨I, _, q1, rfl⟩⟩
  obtain ⟨w3, k1, k2⟩ := hw.push hes' hoc'
  refine reg19 (by rfl) (K := n0 + 3) (M := n0 + 1) (x := x) (j := i) (n0 := (inP list i p x).length) (base := [(72, .sl 1 (tups list)), (73, .i .i64 list.length), (74, .i .i64 i), (90, .sl 1 (ints l)), (91, .i .i64 l.length), (92, .i .i64 p)]) (oc := o) (oc2 := oc2) (es := es) (es' := es') (r0 := ints (inP list i p x)) (a0 := .i .i64 vars) (a1 := lavL list) (a3 := lv) (a4 := .ref G 0 list.length) (a5 := .i .i64 list.length) (a6 := .ref (n0 + 2) 0 vars) (a7 := .nsl) (a8 := .i .i64 0) (a9 := .b first) (a10 := .nsl) (a11 := .i .i64 0) (a12 := .b false) ?_ hw.m k1 hoc (by rw [ints_len]) (by omega) (by simp [ints, AV.isOwn, AV.plain]) hes' ?_ ?_
  ·intro x hx
   simp only [List.mem_cons, List.not_mem_nil, or_false] at hx
   rcases hx with rfl | rfl | rfl | rfl | rfl | rfl <;> exact ⟨by simp, by simp⟩
  ·refine ⟨by simp, fun y hy => ?_, rfl, rfl, rfl, fun h => by simp at h, fun h => by simp at h, fun h => by simp at h, fun h => by simp at h, fun h => by simp at h, fun h => by simp at h, fun h => by simp at h, fun h => by simp at h, fun h => by simp at h, fun h => by simp at h, fun h => by simp at h, fun h => by simp at h, fun h => by simp at h, fun h => by simp at h, rfl, hw.k, k2⟩
   simp only [List.mem_cons, List.not_mem_nil, or_false] at hy
   rcases hy with rfl | rfl | rfl | rfl | rfl | rfl
   ·rfl
   ·rfl
   ·rfl
   ·rfl
   ·rfl
   ·simp only [go_sem, h92]
  ·intro s2 hI
   have hb2 := hI.b
   have hs2 : s2 = ⟨s2.t, s2.o⟩ := rfl
   repeat (first | refine nav ?_ | refine bo ?_)
   rw [hs2]
   refine W_weak (s' := ⟨mix 93 111 [13, 92] (tab [(92, .i .i64 p)]) (tab (outD n0 list i l)), _⟩) (tab_mix (fun y hy => ?_) (fun y hy => ?_)) rfl ?_
   ·simp only [List.mem_cons, List.not_mem_nil, or_false] at hy
    subst hy; exact hb2 (92, _) (by simp)
   ·simp only [outD, List.mem_cons, List.not_mem_nil, or_false] at hy
    rcases hy with rfl | rfl | rfl | rfl | rfl | rfl | rfl
    ·exact hI.f6
    ·exact hI.fj
    ·exact hb2 (72, _) (by simp)
    ·exact hb2 (73, _) (by simp)
    ·exact hb2 (74, _) (by simp)
    ·exact hb2 (90, _) (by simp)
    ·exact hb2 (91, _) (by simp)
   (refine wr fun K R hK hR => ?_; simp (maxSteps := 10000000) only [go_sem]; (try go_ints); (repeat refine And.intro side ?_); (first | refine hK _ ?_ | refine hR _ _ ?_); clear hK hR K R)
   repeat (first | refine nav ?_ | refine bo ?_)
   refine forQ_normal (l.length - (p + 1)) (by omega) ⟨p + 1, es', ?_, ?_, rfl, by omega⟩
   ·have := hI.o
    simp only [if_true] at this
    rw [this, inP_succ hl hx]
    exact w3
   ·simp only [go_sem] <;> simp
 ·have hb : ¬ p < l.length := by simpa using hb
  obtain rfl : p = l.length := by omega
  rw [inP_full hl] at hw
  repeat (first | refine nav ?_ | refine bo ?_)
  exact hend _ _ _ hw
end Go.AW
namespace Go.AW
open Go Go.Proofs TyTry Go.IntWalk
set_option linter.unusedSimpArgs false
set_option linter.unusedVariables false
set_option maxRecDepth 10000
set_option maxHeartbeats 1000000
def lensL (L : List (List Int)) : List Int := L.map fun l => (l.length : Int)
theorem lensL_len (L : List (List Int)) : (lensL L).length = L.length := by simp [lensL]
theorem lensL_app (L : List (List Int)) (l : List Int) : lensL (L ++ [l]) = lensL L ++ [(l.length : Int)] := by simp [lensL]
def outC (n0 : Nat) (list : List (List Int)) : List (Nat × AV) := [(6, .ptr (n0 + 3) 0 0), (72, .sl 1 (tups list)), (73, .i .i64 list.length)]
theorem loop2 {c : Code} (hc : blkAt 2 (Try.f64.body.getD .skip) = some c) {Q : Exit → St → Prop} {n0 vars : Nat} {first : Bool} {list : List (List Int)} {G : Nat}
  (hll : ∀ l ∈ list, l.length ≤ 200000) (hln : list.length ≤ 20000) (hsum : ∀ x, (innOf list x).length ≤ 200000) (hlit : ∀ l ∈ list, ∀ x ∈ l, LitOk vars x) (hvs : vars ≤ 20000)
  {t0 : Nat → AV} {o0 : List Ob} (w0 : W2 n0 vars first list G .nsl [] (fun _ => []) [] o0) (h74 : t0 74 = .i .i64 0) (ht : ∀ x ∈ outC n0 list, t0 x.1 = x.2)
  (hend : ∀ t o es lv, W2 n0 vars first list G lv (lensL list) (innOf list) es o → Q (.exit 2) ⟨mix 75 112 [10, 11, 13, 74] t (tab (outC n0 list)), o⟩) : W Try.prog 152 c Q ⟨t0, o0⟩ := by
 simp only [Try.f64, Option.getD_some, blkAt, Nat.reduceEqDiff, reduceIte, Option.some.injEq] at hc
 subst hc
 refine W_weak (s' := ⟨mix 75 112 [10, 11, 13, 74] (tab [(74, .i .i64 0)]) (tab (outC n0 list)), o0⟩) (tab_mix (fun y hy => ?_) ht) rfl ?_
 ·simp only [List.mem_cons, List.not_mem_nil, or_false] at hy
  subst hy; exact h74
 repeat (first | refine nav ?_ | refine bo ?_)
 refine W_forM 75 112 [10, 11, 13, 74] (fun m t o => ∃ (i : Nat) (lv : AV) (es : List (AV × AV)), W2 n0 vars first list G lv (lensL (list.take i)) (innOf (list.take i)) es o ∧ t 74 = .i .i64 i ∧ m = list.length - i ∧ i ≤ list.length) list.length ⟨0, .nsl, [], by
  have e : innOf (list.take 0) = fun _ => [] := by funext x; simp [innOf]
  rw [e, List.take_zero]; exact w0, rfl, rfl, by omega⟩ ?_
 rintro m t o ⟨i, lv, es, hw, h74, rfl, hi⟩
 repeat (first | refine nav ?_ | refine bo ?_)
 (refine wr fun K R hK hR => ?_; simp (maxSteps := 10000000) only [go_sem, h74, outC]; (try go_ints); (try simp only [go_sem, h74, outC]); (repeat refine And.intro side ?_); (first | refine hK _ ?_ | refine hR _ _ ?_); clear hK hR K R)
 repeat (first | refine nav ?_ | refine bo ?_)
 refine W_cond (by simp only [go_sem] <;> exact rfl) (fun hb => ?_) (fun hb => ?_)
 ·have hb : i < list.length := by simpa using hb
  obtain ⟨l, hl⟩ : ∃ l, list[i]? = some l := ⟨_, List.getElem?_eq_getElem hb⟩
  have hlm := hll l (List.mem_of_getElem? hl)
  have hok := hw.ok
  have hkl := (List.getElem?_eq_some_iff.1 hw.k).1
  have htk : lensL (list.take (i + 1)) = lensL (list.take i) ++ [(l.length : Int)] := by
   rw [List.take_add_one, hl, Option.toList_some, lensL_app]
  have hle : (lensL (list.take i)).length = i := by rw [lensL_len, List.length_take]; omega
  repeat (first | refine nav ?_ | refine bo ?_)
  (refine wr fun K R hK hR => ?_; simp (maxSteps := 10000000) only [go_sem, h74, tups_get hl]; (try go_ints); (try simp only [go_sem, h74, tups_get hl]); (repeat refine And.intro side ?_); (first | refine hK _ ?_ | refine hR _ _ ?_); clear hK hR K R)
  repeat (first | refine nav ?_ | refine bo ?_)
  refine seqQ_normal ?_
  refine W_joinS 79 90 [] (fun t o' => ∃ lv', W2 n0 vars first list G lv' (lensL (list.take (i + 1))) (innOf (list.take i)) es o') ?_ ?_
  ·rcases hw.l with ⟨rfl, hlf⟩ | ⟨Lf, rfl, hT, hg1, hg2⟩
   ·have hk1 := fun l => app_get l hw.k
    have hro : rowsOk false [[AV.i .i64 l.length]] = true := rfl
    simp only [row2] at hk1
    (refine W_reg [1000000] fun K R hK hR => ?_; simp (maxSteps := 10000000) only [go_sem, hw.k, row2, hro, hk1]; (try go_ints); (try simp only [go_sem, hw.k, row2, hro, hk1]); (repeat refine And.intro side ?_); (first | refine hK _ ?_ | refine hR _ _ ?_); clear hK hR K R)
    refine ⟨_, rfl, .ref (o.length + 1) 0 1, ?_⟩
    have hR := hw.left (o1 := o ++ [Ob.cells 1 [[AV.i .i64 l.length]], Ob.cells 1 [[AV.i .i64 l.length]]]) (T := o.length + 1) (v := l.length) (by simp) (fun j X hj _ => app_get _ hj) (okO_app hok (by simp [Ob.ltk, AV.ltk])) (by rw [hlf]; simp [ints]) (by omega)
    rw [htk]
    rw [hlf] at hR ⊢
    exact hR
   ·have hTl := (List.getElem?_eq_some_iff.1 hT).1
    have hk1 := fun l => app_get l hw.k
    have hT1 := fun l => app_get l hT
    have hTK : Lf ≠ n0 + 3 := by intro e; rw [e, hw.k] at hT; simp at hT
    have hk2 : ∀ X Y : List Ob, ((o ++ X).set Lf .dead ++ Y)[n0 + 3]? = _ := fun X Y => app_get Y (by rw [List.getElem?_set_ne hTK]; exact hk1 X)
    have hro : rowsOk false [[AV.i .i64 l.length]] = true := rfl
    simp only [row2] at hk1 hk2 hT1
    rw [hle] at hk1 hk2
    refine W_reg [1000000] fun K R hK hR => ?_
    simp (maxSteps := 10000000) only [go_sem, hw.k, row2, hT1, hro, hk1, hk2, hle]
    refine ⟨by simp [ints]; omega, hK _ ?_⟩
    clear hK hR K R
    have htk2 : List.take i (ints (lensL (list.take i))) = ints (lensL (list.take i)) := List.take_of_length_le (by rw [ints_len, hle]; exact Nat.le_refl _)
    have hix : ints (lensL (list.take i)) ++ [[AV.i .i64 l.length]] = ints (lensL (list.take i) ++ [(l.length : Int)]) := by simp [ints]
    rw [htk2, hix]
    refine ⟨_, rfl, .ref (o.length + 1) 0 (i + 1), ?_⟩
    have hR := hw.left (o1 := (o ++ [Ob.cells 1 [[AV.i .i64 l.length]]]).set Lf .dead ++ [Ob.cells 1 (ints (lensL (list.take i) ++ [(l.length : Int)]))]) (T := o.length + 1) (v := l.length) (by simp; omega) (fun j X hj hn => app_get _ (by rw [List.getElem?_set_ne (fun e => hn _ (by rw [e]))]; exact app_get _ hj)) (okO_app (okO_set (okO_app hok rfl) rfl) (by simp [Ob.ltk, AV.ltk, ints])) (by simp) (by omega)
    rw [htk]
    rw [hle] at hR
    exact hR
  rintro t2 o2 ⟨lv2, hw2⟩
  repeat (first | refine nav ?_ | refine bo ?_)
  (refine wr fun K R hK hR => ?_; simp (maxSteps := 10000000) only [go_sem]; (try go_ints); (repeat refine And.intro side ?_); (first | refine hK _ ?_ | refine hR _ _ ?_); clear hK hR K R)
  repeat (first | refine nav ?_ | refine bo ?_)
  refine seqQ_normal ?_
  refine loop4 (by rfl) hl hlm hln hsum (hlit l (List.mem_of_getElem? hl)) hvs hw2 ?_ ?_ ?_
  ·rfl
  ·intro y hy
   simp only [outD, List.mem_cons, List.not_mem_nil, or_false] at hy
   rcases hy with rfl | rfl | rfl | rfl | rfl | rfl | rfl
   ·rfl
   ·rfl
   ·rfl
   ·rfl
   ·simp only [go_sem, h74]
   ·rfl
   ·rfl
  ·intro t3 o3 es3 hw3
   repeat (first | refine nav ?_ | refine bo ?_)
   refine W_weak (s' := ⟨mix 75 112 [10, 11, 13, 74] (tab [(74, .i .i64 i)]) (tab (outC n0 list)), o3⟩) (tab_mix (fun y hy => ?_) (fun y hy => ?_)) rfl ?_
   ·simp only [List.mem_cons, List.not_mem_nil, or_false] at hy
    subst hy; rfl
   ·simp only [outC, List.mem_cons, List.not_mem_nil, or_false] at hy
    rcases hy with rfl | rfl | rfl <;> rfl
   (refine wr fun K R hK hR => ?_; simp (maxSteps := 10000000) only [go_sem]; (try go_ints); (repeat refine And.intro side ?_); (first | refine hK _ ?_ | refine hR _ _ ?_); clear hK hR K R)
   repeat (first | refine nav ?_ | refine bo ?_)
   refine forQ_normal (list.length - (i + 1)) (by omega) ⟨i + 1, lv2, es3, hw3, ?_, rfl, by omega⟩
   simp only [go_sem] <;> simp
 ·have hb : ¬ i < list.length := by simpa using hb
  obtain rfl : i = list.length := by omega
  rw [List.take_length] at hw
  repeat (first | refine nav ?_ | refine bo ?_)
  exact hend _ _ _ _ hw
end Go.AW
namespace Go.AW
open Go Go.Proofs TyTry Go.IntWalk
set_option linter.unusedSimpArgs false
set_option linter.unusedVariables false
set_option maxRecDepth 10000
set_option maxHeartbeats 1000000
theorem RL_callEt {P : Program} {n : Nat} {gd : List (Option Nat)} {Q : Exit → St → Prop} {s : St} {d : Option Tmp} {x : Operand} {xs : List Operand} {ats : Array TypeId} {ty : TypeId} {pos : String} {aft : Array Edge} {rest : List Oper} {f : FuncId} {caps ac : List AV} {R : AV → List Ob → Prop} {j t : Nat} {want h0 b : Bool} (h : ACalls P f ac s.o R)
  (hj : gd.getD j none = some t) (hg : gv (s.t t) = some (h0, b)) (ht : (h0 && b == want) = true) (hlen : ∀ r o', R r o' → s.o.length ≤ o'.length ∧ r.ltk o'.length = true ∧ okO o' = true)
  (hx : ung true (opd s.t x) = .fn f caps) (hin : xs.all (opIn n) = true) (hd : dstOk n d = true) (hl : xs.length ≤ ac.length) (hle : LeA (argVals xs (ac.take xs.length) s.t ++ caps.map AV.dat) ac)
  (hoc : okO s.o = true) (hac : ac.all (AV.ltk s.o.length) = true) (hK : ∀ r o', R r o' → RL P n gd rest Q ((⟨argDrop xs (ac.take xs.length) s.t, o'⟩ : St).put d r)) :
  RL P n gd (⟨d, .call ⟨.value x, xs.toArray, ats⟩, ty, pos, aft, some (j, want)⟩ :: rest) Q s := by
 refine RL_gd rfl hj hg hd (fun _ => OpW_callE (R := R) rfl rfl hx h hlen hin hd (by simpa using hl) (by simpa using hle) hoc hac ?_) (fun e => by rw [ht] at e; cases e)
 simpa only [List.size_toArray] using hK
theorem RL_skip {P : Program} {n : Nat} {gd : List (Option Nat)} {Q : Exit → St → Prop} {s : St} {o : Oper} {r : List Oper} {j t : Nat} {want h0 b : Bool} (hg : o.guard = some (j, want)) (hj : gd.getD j none = some t) (hx : gv (s.t t) = some (h0, b)) (ht : (h0 && b == want) = false) (hd : dstOk n o.dst = true)
  (h : RL P n gd r Q (s.put o.dst (.gd false .any))) : RL P n gd (o :: r) Q s :=
 RL_gd hg hj hx hd (fun e => by rw [ht] at e; cases e) (fun _ => ⟨.gd false .any, (gdF_undef _).1, (gdF_undef _).2, h⟩)
theorem W_joinN {P : Program} {n : Nat} {Q : Exit → St → Prop} {x : Code} (lo hi : Nat) (L : List Nat) (I : (Nat → AV) → List Ob → Prop) {t0 : Nat → AV} {o0 : List Ob} (h : W P n x (joinQ lo hi L t0 I Q) ⟨mix lo hi L t0 t0, o0⟩)
  (h2 : ∀ t o, I t o → Q .normal ⟨mix lo hi L t t0, o⟩) : W P n x Q ⟨t0, o0⟩ := by
 rw [mix_self] at h
 refine h.mono ?_
 intro e s k
 cases e with
 | normal =>
  obtain ⟨t', h1, h3⟩ := k
  have := h2 t' s.o h3
  rw [← h1] at this
  exact this
 | _ => exact k
def outE (K : Nat) (list : List (List Int)) : List (Nat × AV) := [(6, .ptr K 0 0), (116, .sl 1 (tups list)), (117, .i .i64 list.length)]
structure U3 (K : Nat) (d : IdS) (c : Env) (i : Nat) (ok : Bool) (o : List Ob) : Prop where
 run : ∃ tr ta, RepG o K d c ta (canon c tr 0 .nsl 0 false) ∧ TrOk c.vars tr ∧ (ok = true → Quiet c.list tr ∧ ∀ a, satC c.list a = true → agr tr a = true)
 yes : ok = true → ∀ l ∈ c.list.take i, l ≠ []
 no : ok = false → ∀ a, satC c.list a = false
theorem satC_nil {list : List (List Int)} (h : [] ∈ list) (a : List Bool) : satC list a = false := by
 unfold satC
 rw [List.all_eq_false]
 exact ⟨[], h, by simp⟩
theorem sat_unit {list : List (List Int)} {x : Int} (h : [x] ∈ list) {a : List Bool} (hs : satC list a = true) : litB a x = true := by
 have := List.all_eq_true.1 hs _ h
 simpa using this
theorem loop3 {code : Code} (hcd : blkAt 6 (Try.f64.body.getD .skip) = some code) {Q : Exit → St → Prop} {K : Nat} {d : IdS} {c : Env} (hc : EnvOk c) {t0 : Nat → AV} {o0 : List Ob} (w0 : U3 K d c 0 true o0)
  (h14 : t0 14 = .b true) (h118 : t0 118 = .i .i64 0) (ht : ∀ x ∈ outE K c.list, t0 x.1 = x.2)
  (hend : ∀ t o ok, U3 K d c c.list.length ok o → t 14 = .b ok → o0.length ≤ o.length → Q (.exit 6) ⟨mix 119 150 [14, 15, 16, 118] t (tab (outE K c.list)), o⟩) : W Try.prog 152 code Q ⟨t0, o0⟩ := by
 simp only [Try.f64, Option.getD_some, blkAt, Nat.reduceEqDiff, reduceIte, Option.some.injEq] at hcd
 subst hcd
 refine W_weak (s' := ⟨mix 119 150 [14, 15, 16, 118] (tab [(14, .b true), (118, .i .i64 0)]) (tab (outE K c.list)), o0⟩) (tab_mix (fun y hy => ?_) ht) rfl ?_
 ·simp only [List.mem_cons, List.not_mem_nil, or_false] at hy
  rcases hy with rfl | rfl
  ·exact h14
  ·exact h118
 repeat (first | refine nav ?_ | refine bo ?_)
 have hll := hc.list
 have hvs := hc.vars
 refine W_forM 119 150 [14, 15, 16, 118] (fun m t o => ∃ (i : Nat) (ok : Bool), U3 K d c i ok o ∧ t 14 = .b ok ∧ t 118 = .i .i64 i ∧ m = c.list.length - i ∧ i ≤ c.list.length ∧ o0.length ≤ o.length) c.list.length ⟨0, true, w0, rfl, rfl, rfl, by omega, Nat.le_refl _⟩ ?_
 clear w0
 rintro m t o ⟨i, ok, hu, h14, h118, rfl, hi, hlo⟩
 repeat (first | refine nav ?_ | refine bo ?_)
 (refine wr fun K R hK hR => ?_; simp (maxSteps := 10000000) only [go_sem, h118, outE]; (try go_ints); (try simp only [go_sem, h118, outE]); (repeat refine And.intro side ?_); (first | refine hK _ ?_ | refine hR _ _ ?_); clear hK hR K R)
 repeat (first | refine nav ?_ | refine bo ?_)
 refine W_cond (by simp only [go_sem] <;> exact rfl) (fun hb => ?_) (fun hb => ?_)
 ·have hb : i < c.list.length := by simpa using hb
  obtain ⟨l, hl⟩ : ∃ l, c.list[i]? = some l := ⟨_, List.getElem?_eq_getElem hb⟩
  have hlm := hc.len l (List.mem_of_getElem? hl)
  have hgl : c.list.getD i [] = l := getD_of2 hl
  obtain ⟨tr, ta, hr, htr, hok⟩ := hu.run
  have htk : c.list.take (i + 1) = c.list.take i ++ [l] := by rw [List.take_add_one, hl]; rfl
  have lK := (List.getElem?_eq_some_iff.1 hr.k).1
  have lG := (List.getElem?_eq_some_iff.1 hr.g).1
  repeat (first | refine nav ?_ | refine bo ?_)
  (refine wr fun K R hK hR => ?_; simp (maxSteps := 10000000) only [go_sem, h118, tups_get hl]; (try go_ints); (try simp only [go_sem, h118, tups_get hl]); (repeat refine And.intro side ?_); (first | refine hK _ ?_ | refine hR _ _ ?_); clear hK hR K R)
  refine seqQ_normal ?_
  refine W_joinN 123 149 [14] (fun t o' => ∃ ok', U3 K d c (i + 1) ok' o' ∧ t 14 = .b ok' ∧ o0.length ≤ o'.length) ?_ ?_
  ·repeat (first | refine nav ?_ | refine bo ?_)
   (refine wr fun K R hK hR => ?_; simp (maxSteps := 10000000) only [go_sem]; (try go_ints); (repeat refine And.intro side ?_); (first | refine hK _ ?_ | refine hR _ _ ?_); clear hK hR K R)
   repeat (first | refine nav ?_ | refine bo ?_)
   refine W_cond (by simp only [go_sem] <;> exact rfl) (fun hb => ?_) (fun hb => ?_)
   ·have hb : l = [] := by simpa using hb
    subst hb
    repeat (first | refine nav ?_ | refine bo ?_)
    (refine wr fun K R hK hR => ?_; simp (maxSteps := 10000000) only [go_sem]; (try go_ints); (repeat refine And.intro side ?_); (first | refine hK _ ?_ | refine hR _ _ ?_); clear hK hR K R)
    refine ⟨_, rfl, false, ⟨⟨tr, ta, hr, htr, fun h => (by cases h)⟩, fun h => (by cases h), fun _ a => satC_nil (List.mem_of_getElem? hl) a⟩, rfl, hlo⟩
   ·have hb : l ≠ [] := by simpa using hb
    have hne : ok = true → ∀ l ∈ c.list.take (i + 1), l ≠ [] := by
     intro h l' hl'
     rw [htk] at hl'
     rcases List.mem_append.1 hl' with q | q
     ·exact hu.yes h l' q
     ·rw [List.mem_singleton.1 q]; exact hb
    repeat (first | refine nav ?_ | refine bo ?_)
    by_cases h1 : l.length = 1
    ·obtain ⟨x, hx1⟩ := List.length_eq_one_iff.1 h1
     have hq1 : ((l.length : Int) == 1) = true := by simp; omega
     have hx := hc.lit l (List.mem_of_getElem? hl) x (by rw [hx1]; simp)
     have hx0 : l[0]? = some x := by rw [hx1]; rfl
     have hgg := goodL_get (list := c.list) (tr := tr) (by omega : i < c.list.length)
     have hgb := good_bd hc tr i
     have hgl2 := goodL_len c.list tr
     (refine wr fun K R hK hR => ?_; simp (maxSteps := 10000000) only [go_sem, h118, hr.k, hr.g, rowK, canon, ints_get hgg, hq1]; (try go_ints); (try simp only [go_sem, h118, hr.k, hr.g, rowK, canon, ints_get hgg, hq1]); (repeat refine And.intro side ?_); (first | refine hK _ ?_ | refine hR _ _ ?_); clear hK hR K R)
     repeat (first | refine nav ?_ | refine bo ?_)
     refine W_cond (b := ((goodOf c.list tr i : Int) == 0)) (by simp only [go_sem]) (fun hg => ?_) (fun hg => ?_)
     ·have hg : goodOf c.list tr i = 0 := by simp at hg; omega
      repeat (first | refine nav ?_ | refine bo ?_)
      cases ok with
      | false =>
       (refine wr fun K R hK hR => ?_; simp (maxSteps := 10000000) only [go_sem, h14]; (try go_ints); (try simp only [go_sem, h14]); (repeat refine And.intro side ?_); (first | refine hK _ ?_ | refine hR _ _ ?_); clear hK hR K R)
       refine RL_skip rfl rfl (by simp only [go_sem] <;> exact rfl) rfl rfl ?_
       (refine rr fun K R hK hR => ?_; simp (maxSteps := 10000000) only [go_sem]; (try go_ints); (repeat refine And.intro side ?_); (first | refine hK _ ?_ | refine hR _ _ ?_); clear hK hR K R)
       repeat (first | refine nav ?_ | refine bo ?_)
       exact ⟨_, rfl, false, ⟨⟨tr, ta, hr, htr, fun h => (by cases h)⟩, fun h => (by cases h), hu.no⟩, rfl, hlo⟩
      | true =>
       obtain ⟨hqt, hag⟩ := hok rfl
       (refine wr fun K R hK hR => ?_; simp (maxSteps := 10000000) only [go_sem, h14, ints_get hx0]; (try go_ints); (try simp only [go_sem, h14, ints_get hx0]); (repeat refine And.intro side ?_); (first | refine hK _ ?_ | refine hR _ _ ?_); clear hK hR K R)
       refine RL_callEt (set_spec hr hc htr hqt hx) rfl (by simp only [go_sem] <;> exact rfl) rfl (fun r o' ⟨b, tr', ta', e1, _, e2, e3⟩ => ⟨e3, by rw [e1]; rfl, e2.ok⟩) (by simp only [go_sem] <;> exact rfl) rfl rfl (by simp) (by simp only [go_sem] <;> exact LeA.refl _) hr.ok (by simp [AV.ltk]; omega) ?_
       rintro r o4 ⟨b, tr', ta', rfl, hsp, hr4, hl4⟩
       have hl4 : o.length ≤ o4.length := hl4
       have hlo4 : o0.length ≤ o4.length := Nat.le_trans hlo hl4
       have hxa : ∀ a, satC c.list a = true → litB a x = true := fun a ha => sat_unit (by rw [← hx1]; exact List.mem_of_getElem? hl) ha
       (refine rr fun K R hK hR => ?_; simp (maxSteps := 10000000) only [go_sem]; (try go_ints); (repeat refine And.intro side ?_); (first | refine hK _ ?_ | refine hR _ _ ?_); clear hK hR K R)
       repeat (first | refine nav ?_ | refine bo ?_)
       cases b with
       | false =>
        refine ⟨_, rfl, false, ⟨⟨tr', ta', hr4, hsp.ok, fun h => (by cases h)⟩, fun h => (by cases h), fun _ a => ?_⟩, rfl, hlo4⟩
        cases hs : satC c.list a with
        | false => rfl
        | true => exact (hsp.no rfl a hs (hag a hs) (hxa a hs)).elim
       | true =>
        obtain ⟨_, h2, h3⟩ := hsp.yes rfl
        exact ⟨_, rfl, true, ⟨⟨tr', ta', hr4, hsp.ok, fun _ => ⟨h2, fun a hs => h3 a hs (hag a hs) (hxa a hs)⟩⟩, hne, fun h => (by cases h)⟩, rfl, hlo4⟩
     ·repeat (first | refine nav ?_ | refine bo ?_)
      exact ⟨_, rfl, ok, ⟨⟨tr, ta, hr, htr, hok⟩, hne, hu.no⟩, by simp only [go_sem, h14], hlo⟩
    ·have h1' : ((l.length : Int) == 1) = false := by simp; omega
     have hgg := goodL_get (list := c.list) (tr := tr) (by omega : i < c.list.length)
     have hgb := good_bd hc tr i
     have hgl2 := goodL_len c.list tr
     (refine wr fun K R hK hR => ?_; simp (maxSteps := 10000000) only [go_sem, h118, hr.k, hr.g, rowK, canon, ints_get hgg, h1']; (try go_ints); (try simp only [go_sem, h118, hr.k, hr.g, rowK, canon, ints_get hgg, h1']); (repeat refine And.intro side ?_); (first | refine hK _ ?_ | refine hR _ _ ?_); clear hK hR K R)
     repeat (first | refine nav ?_ | refine bo ?_)
     refine W_cond (b := false) (by simp only [go_sem]) (fun hg => by cases hg) (fun _ => ?_)
     repeat (first | refine nav ?_ | refine bo ?_)
     exact ⟨_, rfl, ok, ⟨⟨tr, ta, hr, htr, hok⟩, hne, hu.no⟩, by simp only [go_sem, h14], hlo⟩
  rintro t2 o2 ⟨ok', hu2, h14', hlo2⟩
  repeat (first | refine nav ?_ | refine bo ?_)
  refine W_weak (s' := ⟨mix 119 150 [14, 15, 16, 118] (tab [(14, .b ok'), (118, .i .i64 i)]) (tab (outE K c.list)), o2⟩) (tab_mix (fun y hy => ?_) (fun y hy => ?_)) rfl ?_
  ·simp only [List.mem_cons, List.not_mem_nil, or_false] at hy
   rcases hy with rfl | rfl
   ·simp only [go_sem, h14']
   ·simp only [go_sem, h118]
  ·simp only [outE, List.mem_cons, List.not_mem_nil, or_false] at hy
   rcases hy with rfl | rfl | rfl <;> rfl
  (refine wr fun K R hK hR => ?_; simp (maxSteps := 10000000) only [go_sem]; (try go_ints); (repeat refine And.intro side ?_); (first | refine hK _ ?_ | refine hR _ _ ?_); clear hK hR K R)
  repeat (first | refine nav ?_ | refine bo ?_)
  refine forQ_normal (c.list.length - (i + 1)) (by omega) ⟨i + 1, ok', hu2, ?_, ?_, rfl, by omega, hlo2⟩
  ·simp only [go_sem] <;> simp
  ·simp only [go_sem] <;> simp
 ·have hb : ¬ i < c.list.length := by simpa using hb
  obtain rfl : i = c.list.length := by omega
  repeat (first | refine nav ?_ | refine bo ?_)
  exact hend _ _ _ hu h14 hlo
end Go.AW
