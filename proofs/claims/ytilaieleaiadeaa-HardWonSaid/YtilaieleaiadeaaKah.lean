/-
Contracts: the guard of size.
-/
import Derived.Test.YtilaieleaiadeaaKag
import Derived.Test.YtilaieleaiadeaaKaf
namespace Go.AW
open Go Go.Proofs TyTry Go.IntWalk
set_option linter.unusedSimpArgs false
set_option linter.unusedVariables false
set_option maxRecDepth 10000

def inF : List (List Int) → Int → Int
  | [], c => c
  | t :: ts, c => if c ≤ 20000 then inF ts (c + 1 + t.length) else c
def outF : Nat → List RelD → Int → Int
  | 0, _, c => c
  | _, [], c => c
  | f + 1, r :: rs, c => outF f rs (inF r.tuples (c + r.name.size))
def broadF (s : StrD) : Bool := decide ((s.rels.length : Int) > 50) || decide (outF 100 s.rels 0 > 20000)
theorem inF_ge : ∀ (ts : List (List Int)) (c : Int), c ≤ inF ts c
  | [], c => Int.le_refl _
  | t :: ts, c => by
    rw [inF]
    split
    · have := inF_ge ts (c + 1 + t.length); omega
    · exact Int.le_refl _
theorem inF_sum : ∀ (ts : List (List Int)) (c : Int), inF ts c ≤ 20000 → c + ts.length ≤ inF ts c ∧ ∀ t ∈ ts, 0 ≤ c → (t.length : Int) ≤ 20000
  | [], c, h => by simp [inF]
  | t :: ts, c, h => by
    rw [inF] at h ⊢
    split at h
    · rename_i hc
      rw [if_pos hc]
      obtain ⟨a, b⟩ := inF_sum ts _ h
      refine ⟨by simp only [List.length_cons]; omega, fun x hx h0 => ?_⟩
      rcases List.mem_cons.1 hx with rfl | hx
      · omega
      · exact b x hx (by omega)
    · omega
theorem outF_ge : ∀ (f : Nat) (rs : List RelD) (c : Int), c ≤ outF f rs c
  | 0, _, c => Int.le_refl _
  | _ + 1, [], c => Int.le_refl _
  | f + 1, r :: rs, c => by
    rw [outF]
    have := outF_ge f rs (inF r.tuples (c + r.name.size))
    have := inF_ge r.tuples (c + r.name.size)
    omega
theorem outF_sum : ∀ (f : Nat) (rs : List RelD) (c : Int), rs.length ≤ f → outF f rs c ≤ 20000 → 0 ≤ c → c + tupN rs ≤ 20000 ∧ ∀ r ∈ rs, (r.name.size : Int) ≤ 20000 ∧ (r.tuples.length : Int) ≤ 20000 ∧ ∀ t ∈ r.tuples, (t.length : Int) ≤ 20000
  | _, [], c, _, h, h0 => by
    have := outF_ge ‹_› [] c
    exact ⟨by simp [tupN]; omega, fun r hr => by simp at hr⟩
  | 0, _ :: _, _, hl, _, _ => by simp at hl
  | f + 1, r :: rs, c, hl, h, h0 => by
    rw [outF] at h
    have h1 := outF_ge f rs (inF r.tuples (c + r.name.size))
    have h2 := inF_ge r.tuples (c + r.name.size)
    obtain ⟨a, b⟩ := inF_sum r.tuples (c + r.name.size) (by omega)
    obtain ⟨a', b'⟩ := outF_sum f rs _ (by simpa using hl) h (by omega)
    refine ⟨?_, fun x hx => ?_⟩
    · simp only [tupN, List.map_cons, List.sum_cons] at a' ⊢
      omega
    · rcases List.mem_cons.1 hx with rfl | hx
      · exact ⟨by omega, by omega, fun t ht => b t ht (by omega)⟩
      · exact b' x hx
theorem broad_ok {s : StrD} (h : broadF s = false) : s.Ok ∧ tupN s.rels ≤ 20000 := by
  simp only [broadF, Bool.or_eq_false_iff, decide_eq_false_iff_not] at h
  obtain ⟨a, b⟩ := outF_sum 100 s.rels 0 (by omega) (by omega) (Int.le_refl _)
  refine ⟨⟨by omega, fun r hr => ?_⟩, by omega⟩
  obtain ⟨b1, b2, b3⟩ := b r hr
  exact ⟨by omega, by omega, fun t ht => by have := b3 t ht; omega⟩
/-- What an input of any size holds. -/
structure StrD.Wide (s : StrD) : Prop where
  len : s.rels.length ≤ 1152921504606846976
  rel : ∀ r ∈ s.rels, r.name.size ≤ 1125899906842624 ∧ r.tuples.length ≤ 1152921504606846976 ∧ ∀ t ∈ r.tuples, t.length ≤ 1125899906842624
theorem broad_spec (s : StrD) (hs : s.Wide) : ACallsD Try.prog 8 [.agg [.i .i64 s.size, .sl 3 (rels s.rels)]] (.b (broadF s)) := by
  refine ACalls_of' (n := 62) (rs := [.tmp 2]) (show Try.prog.funcs[8]? = some Try.f8 by kernel_rfl) rfl rfl rfl (by simp) (by decide +kernel) ?_
  repeat (first | refine nav ?_ | refine bo ?_)
  (refine wr fun K R hK hR => ?_; simp (maxSteps := 10000000) only [go_sem]; (try go_ints); (repeat refine And.intro side ?_); (first | refine hK _ ?_ | refine hR _ _ ?_); clear hK hR K R)
  repeat (first | refine nav ?_ | refine bo ?_)
  (refine wr fun K R hK hR => ?_; simp (maxSteps := 10000000) only [go_sem]; (try go_ints); (repeat refine And.intro side ?_); (first | refine hK _ ?_ | refine hR _ _ ?_); clear hK hR K R)
  repeat (first | refine nav ?_ | refine bo ?_)
  (refine wr fun K R hK hR => ?_; simp (maxSteps := 10000000) only [go_sem]; (try go_ints); (repeat refine And.intro side ?_); (first | refine hK _ ?_ | refine hR _ _ ?_); clear hK hR K R)
  repeat (first | refine nav ?_ | refine bo ?_)
  have hsl := hs.len
  refine W_for 6 54 [3, 4, 5] (fun m t o => ∃ (k : Nat) (c : Int), [Ob.cells 2 [[.i .i64 s.size, .sl 3 (rels s.rels)]]] = o ∧ t 3 = .i .i64 c ∧ t 4 = .i .i64 k ∧ m = 100 - k ∧ k ≤ 100 ∧ k ≤ s.rels.length ∧ 0 ≤ c ∧ c ≤ (k + 1) * 4503599627370496 ∧
    outF (100 - k) (s.rels.drop k) c = outF 100 s.rels 0) 100 ⟨0, 0, rfl, by simp only [go_sem] <;> rfl, by simp only [go_sem] <;> rfl, rfl, by omega, by omega, by omega, by omega, rfl⟩ ?_
  rintro m t o ⟨k, c, rfl, h3, h4, rfl, hk1, hk2, hc0, hc1, hfin⟩
  repeat (first | refine nav ?_ | refine bo ?_)
  (refine wr fun K R hK hR => ?_; simp (maxSteps := 10000000) only [go_sem, h3, h4]; (try go_ints); (try simp only [go_sem, h3, h4]); (repeat refine And.intro side ?_); (first | refine hK _ ?_ | refine hR _ _ ?_); clear hK hR K R)
  repeat (first | refine nav ?_ | refine bo ?_)
  refine W_cond (by simp only [go_sem] <;> exact rfl) (fun hb => ?_) (fun hb => ?_)
  · simp only [Bool.or_eq_true, Bool.and_eq_true, Bool.not_eq_true', Bool.not_eq_false', Bool.and_eq_false_iff, Bool.or_eq_false_iff, decide_eq_true_eq, decide_eq_false_iff_not, Bool.not_eq_eq_eq_not, Bool.not_true, Bool.not_false] at hb
    obtain ⟨r, hr⟩ : ∃ r, s.rels[k]? = some r := ⟨_, List.getElem?_eq_getElem (by omega)⟩
    obtain ⟨r1, r2, r3⟩ := hs.rel r (List.mem_of_getElem? hr)
    obtain ⟨f, hf⟩ : ∃ f, 100 - k = f + 1 := ⟨99 - k, by omega⟩
    rw [hf, drop_cons hr, outF] at hfin
    repeat (first | refine nav ?_ | refine bo ?_)
    (refine wr fun K R hK hR => ?_; simp (maxSteps := 10000000) only [go_sem, h3, h4, rels_get hr]; (try go_ints); (try simp only [go_sem, h3, h4, rels_get hr]); (repeat refine And.intro side ?_); (first | refine hK _ ?_ | refine hR _ _ ?_); clear hK hR K R)
    repeat (first | refine nav ?_ | refine bo ?_)
    (refine wr fun K R hK hR => ?_; simp (maxSteps := 10000000) only [go_sem]; (try go_ints); (repeat refine And.intro side ?_); (first | refine hK _ ?_ | refine hR _ _ ?_); clear hK hR K R)
    repeat (first | refine nav ?_ | refine bo ?_)
    refine W_for 26 54 [3, 5] (fun m t o => ∃ (j : Nat) (c' : Int), [Ob.cells 2 [[.i .i64 s.size, .sl 3 (rels s.rels)]]] = o ∧ t 3 = .i .i64 c' ∧ t 5 = .i .i64 j ∧ m = r.tuples.length - j ∧ j ≤ r.tuples.length ∧ 0 ≤ c' ∧ c' ≤ (k + 1) * 4503599627370496 + 2251799813685248 ∧
      inF (r.tuples.drop j) c' = inF r.tuples (c + r.name.size)) r.tuples.length ⟨0, c + r.name.size, rfl, by simp only [go_sem, h3] <;> rfl, by simp only [go_sem] <;> rfl, rfl, by omega, by omega, by omega, rfl⟩ ?_
    rintro m t2 o ⟨j, c', rfl, h3', h5', rfl, hj, hc0', hc1', hfin'⟩
    repeat (first | refine nav ?_ | refine bo ?_)
    (refine wr fun K R hK hR => ?_; simp (maxSteps := 10000000) only [go_sem, h3', h4, h5', rels_get hr]; (try go_ints); (try simp only [go_sem, h3', h4, h5', rels_get hr]); (repeat refine And.intro side ?_); (first | refine hK _ ?_ | refine hR _ _ ?_); clear hK hR K R)
    repeat (first | refine nav ?_ | refine bo ?_)
    refine W_cond (by simp only [go_sem] <;> exact rfl) (fun hb => ?_) (fun hb => ?_)
    · simp only [Bool.or_eq_true, Bool.and_eq_true, Bool.not_eq_true', Bool.not_eq_false', Bool.and_eq_false_iff, Bool.or_eq_false_iff, decide_eq_true_eq, decide_eq_false_iff_not, Bool.not_eq_eq_eq_not, Bool.not_true, Bool.not_false] at hb
      obtain ⟨tt, htt⟩ : ∃ x, r.tuples[j]? = some x := ⟨_, List.getElem?_eq_getElem (by omega)⟩
      have htl := r3 tt (List.mem_of_getElem? htt)
      rw [drop_cons htt, inF, if_pos (by omega)] at hfin'
      repeat (first | refine nav ?_ | refine bo ?_)
      (refine wr fun K R hK hR => ?_; simp (maxSteps := 10000000) only [go_sem, h3', h4, h5', rels_get hr, tups_get htt]; (try go_ints); (try simp only [go_sem, h3', h4, h5', rels_get hr, tups_get htt]); (repeat refine And.intro side ?_); (first | refine hK _ ?_ | refine hR _ _ ?_); clear hK hR K R)
      repeat (first | refine nav ?_ | refine bo ?_)
      (refine wr fun K R hK hR => ?_; simp (maxSteps := 10000000) only [go_sem, h5']; (try go_ints); (try simp only [go_sem, h5']); (repeat refine And.intro side ?_); (first | refine hK _ ?_ | refine hR _ _ ?_); clear hK hR K R)
      refine forQ_normal (r.tuples.length - (j + 1)) (by omega) ⟨j + 1, c' + 1 + tt.length, rfl, ?_, ?_, rfl, by omega, by omega, by omega, hfin'⟩
      · simp only [go_sem]
      · simp only [go_sem]; simp
    · have hex : inF (r.tuples.drop j) c' = c' := by
        by_cases hjl : j < r.tuples.length
        · obtain ⟨tt, htt⟩ : ∃ x, r.tuples[j]? = some x := ⟨_, List.getElem?_eq_getElem hjl⟩
          rw [drop_cons htt, inF, if_neg]
          simp only [Bool.or_eq_true, Bool.and_eq_true, Bool.not_eq_true', Bool.not_eq_false', Bool.and_eq_false_iff, Bool.or_eq_false_iff, decide_eq_true_eq, decide_eq_false_iff_not, Bool.not_eq_eq_eq_not, Bool.not_true, Bool.not_false] at hb
          omega
        · rw [List.drop_eq_nil_of_le (by omega)]; rfl
      rw [hex] at hfin'
      rw [mix_mix rfl]
      repeat (first | refine nav ?_ | refine bo ?_)
      (refine wr fun K R hK hR => ?_; simp (maxSteps := 10000000) only [go_sem, h4]; (try go_ints); (try simp only [go_sem, h4]); (repeat refine And.intro side ?_); (first | refine hK _ ?_ | refine hR _ _ ?_); clear hK hR K R)
      refine forQ_normal (100 - (k + 1)) (by omega) ⟨k + 1, c', rfl, ?_, ?_, rfl, by omega, by omega, by omega, by omega, ?_⟩
      · simp only [go_sem, h3']
      · simp only [go_sem]; simp
      · rw [show 100 - (k + 1) = f by omega, hfin']; exact hfin
  · have hex : outF (100 - k) (s.rels.drop k) c = c := by
      by_cases hkl : k < s.rels.length
      · have : 100 - k = 0 := by
          simp only [Bool.or_eq_true, Bool.and_eq_true, Bool.not_eq_true', Bool.not_eq_false', Bool.and_eq_false_iff, Bool.or_eq_false_iff, decide_eq_true_eq, decide_eq_false_iff_not, Bool.not_eq_eq_eq_not, Bool.not_true, Bool.not_false] at hb
          omega
        rw [this]; rfl
      · rw [List.drop_eq_nil_of_le (by omega)]
        cases 100 - k <;> rfl
    rw [hex] at hfin
    repeat (first | refine nav ?_ | refine bo ?_)
    (refine wr fun K R hK hR => ?_; simp (maxSteps := 10000000) only [go_sem, h3]; (try go_ints); (try simp only [go_sem, h3]); (repeat refine And.intro side ?_); (first | refine hK _ ?_ | refine hR _ _ ?_); clear hK hR K R)
    repeat (first | refine nav ?_ | refine bo ?_)
    refine endQ_data (by simp only [go_sem] <;> exact rfl) (Le.of_eq ?_) rfl
    rw [broadF, ← hfin]
end Go.AW
/-
The law HardSound, over its contracts.
-/
namespace Go.AW
open Go Go.Proofs TyTry Go.IntWalk
set_option linter.unusedSimpArgs false
set_option linter.unusedVariables false
set_option maxRecDepth 10000

def Sub (a b : List Bool) : Prop := ∀ x : Nat, a.getD x false = true → b.getD x false = true
theorem isF_mono {may may' : Nat → Nat → Bool} (hm : ∀ x y, may x y = true → may' x y = true) {next : List (List Int)} {all a b : List Bool} (h : Sub a b) (x : Nat) (hx : isF may next all a x = true) : isF may' next all b x = true := by
  unfold isF at hx ⊢
  split
  · rename_i ha
    rw [if_pos ha] at hx
    rw [Bool.not_eq_true', List.any_eq_false] at hx ⊢
    intro y hy
    have := hx y hy
    have := h y.toNat
    cases h1 : a.getD y.toNat false <;> cases h2 : b.getD y.toNat false <;> simp_all
  · rename_i ha
    rw [if_neg ha] at hx
    rw [List.any_eq_true] at hx ⊢
    obtain ⟨y, hy, hz⟩ := hx
    simp only [Bool.and_eq_true] at hz
    exact ⟨y, hy, by rw [h _ hz.1, hm _ _ hz.2]; rfl⟩
theorem step_getD (may : Nat → Nat → Bool) (next : List (List Int)) (all was : List Bool) (x : Nat) : (stepI may next all was).getD x false = (decide (x < was.length) && (was.getD x false || isF may next all was x)) := by
  rw [List.getD_eq_getElem?_getD]
  by_cases h : x < was.length
  · rw [(step_get may next all was 0 [] x h).1]
    simp [h]
  · rw [List.getElem?_eq_none (by rw [(step_len may next all was 0 []).1]; omega)]
    simp [h]
theorem step_mono {may may' : Nat → Nat → Bool} (hm : ∀ x y, may x y = true → may' x y = true) {next : List (List Int)} {all a b : List Bool} (hl : a.length = b.length) (h : Sub a b) : Sub (stepI may next all a) (stepI may' next all b) := by
  intro x hx
  rw [step_getD] at hx ⊢
  simp only [Bool.and_eq_true, Bool.or_eq_true, decide_eq_true_eq] at hx ⊢
  refine ⟨by omega, ?_⟩
  rcases hx.2 with h1 | h1
  · exact .inl (h x h1)
  · exact .inr (isF_mono hm h x h1)
/-- What a state that is closed holds stays in it. -/
theorem won_sub {may may' : Nat → Nat → Bool} (hm : ∀ x y, may x y = true → may' x y = true) {next : List (List Int)} {all J : List Bool} (hJ : Sub (stepI may' next all J) J) :
    ∀ (f : Nat) (d : Int) (i : List Bool) (r : List Int), i.length = J.length → Sub i J → Sub (wonL may next all f d i r).1 J
  | 0, _, _, _, _, h => h
  | f + 1, d, i, r, hl, h => by
    have h1 : Sub (stepI may next all i) J := fun x hx => hJ x (step_mono hm hl h x hx)
    rw [wonL]
    split
    · exact won_sub hm hJ f _ _ _ (by rw [(step_len may next all i d r).1, hl]) h1
    · exact h1
theorem won_closed {may : Nat → Nat → Bool} {next : List (List Int)} {all : List Bool} :
    ∀ (f : Nat) (d : Int) (i : List Bool) (r : List Int), cntF i < f → Sub i (wonL may next all f d i r).1 ∧ Sub (stepI may next all (wonL may next all f d i r).1) (wonL may next all f d i r).1
  | 0, _, _, _, h => by omega
  | f + 1, d, i, r, h => by
    have hs : Sub i (stepI may next all i) := by
      intro x hx
      rw [step_getD, hx]
      have : x < i.length := by
        rw [List.getD_eq_getElem?_getD] at hx
        rcases Nat.lt_or_ge x i.length with h | h
        · exact h
        · rw [List.getElem?_eq_none h] at hx; simp at hx
      simp [this]
    rw [wonL]
    by_cases hM : stepM may next all i = true
    · rw [if_pos hM]
      obtain ⟨a, b⟩ := won_closed f (d + 1) (stepI may next all i) (stepR may next all i d r) (by have := stepM_cnt hM; omega)
      exact ⟨fun x hx => a x (hs x hx), b⟩
    · rw [if_neg hM]
      refine ⟨hs, ?_⟩
      have he : Sub (stepI may next all i) i := by
        intro x hx
        rw [step_getD] at hx
        simp only [Bool.and_eq_true, Bool.or_eq_true, decide_eq_true_eq] at hx
        rcases hx.2 with h1 | h1
        · exact h1
        · simp only [stepM, Bool.not_eq_true, List.any_eq_false, List.mem_range] at hM
          have := hM x hx.1
          rw [h1] at this
          simpa using this
      have hl := (step_len may next all i d r).1
      exact fun x hx => hs x (he x (by
        have := step_mono (may := may) (may' := may) (fun _ _ h => h) (next := next) (all := all) hl he x hx
        exact this))
theorem wonF_sub (may : Nat → Nat → Bool) (next : List (List Int)) (all : List Bool) (n : Nat) : Sub (wonF may next all n).1 (wonF (fun _ _ => true) next all n).1 := by
  unfold wonF
  obtain ⟨a, b⟩ := won_closed (may := fun _ _ => true) (next := next) (all := all) (n + 1) 1 ((List.replicate n false).set (n - 1) true) (List.replicate n 0) (by
    have := cntF_le ((List.replicate n false).set (n - 1) true)
    simp only [List.length_set, List.length_replicate] at this
    omega)
  exact won_sub (fun _ _ _ => rfl) b _ _ _ _ (by rw [wonL_len]) a

theorem sound_spec (hA : ACallsD Try.prog 9 [] (.b true)) (s : StrD) (hs : s.Wide) (ord : List Int) :
    ACallsD Try.prog 6 [.agg [.i .i64 s.size, .sl 3 (rels s.rels)], .sl 1 (ints ord)] (.b true) := by
  refine ACalls_of' (n := 58) (rs := [.tmp 4]) (show Try.prog.funcs[6]? = some Try.f6 by kernel_rfl) rfl rfl rfl (by simp) (by decide +kernel) ?_
  repeat (first | refine nav ?_ | refine bo ?_)
  (refine wr fun K R hK hR => ?_; simp (maxSteps := 10000000) only [go_sem]; (try go_ints); (repeat refine And.intro side ?_); (first | refine hK _ ?_ | refine hR _ _ ?_); clear hK hR K R)
  repeat (first | refine nav ?_ | refine bo ?_)
  (refine wr fun K R hK hR => ?_; simp (maxSteps := 10000000) only [go_sem]; (try go_ints); (repeat refine And.intro side ?_); (first | refine hK _ ?_ | refine hR _ _ ?_); clear hK hR K R)
  refine RL_callF (broad_spec s hs) rfl rfl rfl (by first | (simp only [go_sem] <;> first | exact LeA.refl _ | exact Le.refl _) | exact LeA.refl _) rfl rfl ?_
  (refine rr fun K R hK hR => ?_; simp (maxSteps := 10000000) only [go_sem]; (try go_ints); (repeat refine And.intro side ?_); (first | refine hK _ ?_ | refine hR _ _ ?_); clear hK hR K R)
  repeat (first | refine nav ?_ | refine bo ?_)
  refine W_cond (by simp only [go_sem] <;> exact rfl) (fun hb => ?_) (fun hb => ?_)
  · repeat (first | refine nav ?_ | refine bo ?_)
    (refine wr fun K R hK hR => ?_; simp (maxSteps := 10000000) only [go_sem]; (try go_ints); (repeat refine And.intro side ?_); (first | refine hK _ ?_ | refine hR _ _ ?_); clear hK hR K R)
    refine RL_callF (hA) rfl rfl rfl (by first | (simp only [go_sem] <;> first | exact LeA.refl _ | exact Le.refl _) | exact LeA.refl _) rfl rfl ?_
    (refine rr fun K R hK hR => ?_; simp (maxSteps := 10000000) only [go_sem]; (try go_ints); (repeat refine And.intro side ?_); (first | refine hK _ ?_ | refine hR _ _ ?_); clear hK hR K R)
    repeat (first | refine nav ?_ | refine bo ?_)
    refine endQ_data (by simp only [go_sem] <;> exact rfl) (Le.of_eq ?_) rfl
    rfl
  · simp only [Bool.or_eq_true, Bool.and_eq_true, Bool.not_eq_true', Bool.not_eq_false', Bool.and_eq_false_iff, Bool.or_eq_false_iff, decide_eq_true_eq, decide_eq_false_iff_not, Bool.not_eq_eq_eq_not, Bool.not_true, Bool.not_false] at hb
    obtain ⟨hbr, hol⟩ := hb
    obtain ⟨hok, htn⟩ := broad_ok hbr
    obtain ⟨w, code, hw, hc0, hc1⟩ : ∃ (w : Bool) (code : Int), winsA s ord = .tup [.b w, .i .i64 code] ∧ (code ≠ 0 → w = false) ∧ (code = 0 → w = true → ∃ l : List Bool, wonA s = .tup [.sl 1 (bools l), .i .i64 0] ∧ l[0]? = some true) := by
      unfold winsA wonA
      by_cases hv : validF s = false
      · rw [if_pos hv]; exact ⟨_, _, rfl, fun _ => rfl, fun h => by omega⟩
      · rw [if_neg hv, if_neg hv]
        by_cases hf : fitsF symG s = false
        · rw [if_pos hf]; exact ⟨_, _, rfl, fun _ => rfl, fun h => by omega⟩
        · rw [if_neg hf, if_neg hf]
          by_cases hb : badOrd s ord = true
          · rw [if_pos hb]; exact ⟨_, _, rfl, fun _ => rfl, fun h => by omega⟩
          · rw [if_neg hb]
            refine ⟨_, _, rfl, fun h => absurd rfl h, fun _ h => ⟨_, rfl, ?_⟩⟩
            have := wonF_sub (mayOrd ord) (graphD s).1 (graphD s).2 s.size.toNat 0 h
            rw [List.getD_eq_getElem?_getD] at this
            cases hq : (wonF (fun _ _ => true) (graphD s).1 (graphD s).2 s.size.toNat).1[0]? with
            | none => rw [hq] at this; simp at this
            | some b => rw [hq] at this; simpa using this
    have hW := wins_spec s hok (by omega) ord (by omega)
    rw [hw] at hW
    repeat (first | refine nav ?_ | refine bo ?_)
    (refine wr fun K R hK hR => ?_; simp (maxSteps := 10000000) only [go_sem]; (try go_ints); (repeat refine And.intro side ?_); (first | refine hK _ ?_ | refine hR _ _ ?_); clear hK hR K R)
    refine RL_callF (hW) rfl rfl rfl (by first | (simp only [go_sem] <;> first | exact LeA.refl _ | exact Le.refl _) | exact LeA.refl _) rfl rfl ?_
    (refine rr fun K R hK hR => ?_; simp (maxSteps := 10000000) only [go_sem]; (try go_ints); (repeat refine And.intro side ?_); (first | refine hK _ ?_ | refine hR _ _ ?_); clear hK hR K R)
    repeat (first | refine nav ?_ | refine bo ?_)
    (refine wr fun K R hK hR => ?_; simp (maxSteps := 10000000) only [go_sem]; (try go_ints); (repeat refine And.intro side ?_); (first | refine hK _ ?_ | refine hR _ _ ?_); clear hK hR K R)
    repeat (first | refine nav ?_ | refine bo ?_)
    refine W_cond (by simp only [go_sem] <;> exact rfl) (fun hb => ?_) (fun hb => ?_)
    · simp only [Bool.or_eq_true, Bool.and_eq_true, Bool.not_eq_true', Bool.not_eq_false', Bool.and_eq_false_iff, Bool.or_eq_false_iff, decide_eq_true_eq, decide_eq_false_iff_not, Bool.not_eq_eq_eq_not, Bool.not_true, Bool.not_false, bne_iff_ne, ne_eq] at hb
      have hwf : w = false := by
        rcases hb with hb | hb
        · exact hc0 hb
        · exact hb
      subst hwf
      repeat (first | refine nav ?_ | refine bo ?_)
      (refine wr fun K R hK hR => ?_; simp (maxSteps := 10000000) only [go_sem]; (try go_ints); (repeat refine And.intro side ?_); (first | refine hK _ ?_ | refine hR _ _ ?_); clear hK hR K R)
      refine RL_callDg rfl (by simp only [go_sem] <;> exact rfl) (fun e => hA) rfl rfl rfl (fun e => by (try simp only [go_sem] at e); simp only [go_sem, e] <;> (try simp only [go_sem]) <;> first | exact LeA.refl _ | exact Le.refl _) rfl rfl ?_
      (refine rr fun K R hK hR => ?_; simp (maxSteps := 10000000) only [go_sem]; (try go_ints); (repeat refine And.intro side ?_); (first | refine hK _ ?_ | refine hR _ _ ?_); clear hK hR K R)
      repeat (first | refine nav ?_ | refine bo ?_)
      refine endQ_data (by simp only [go_sem] <;> exact rfl) (Le.of_eq ?_) rfl
      simp
    · simp only [Bool.or_eq_true, Bool.and_eq_true, Bool.not_eq_true', Bool.not_eq_false', Bool.and_eq_false_iff, Bool.or_eq_false_iff, decide_eq_true_eq, decide_eq_false_iff_not, Bool.not_eq_eq_eq_not, Bool.not_true, Bool.not_false, bne_iff_ne, ne_eq, Decidable.not_not] at hb
      obtain ⟨hb1, hb2⟩ := hb
      have hb1 : code = 0 := by simpa using hb1
      obtain ⟨l, hl, hl0⟩ := hc1 hb1 hb2
      have hll : 0 < l.length := (List.getElem?_eq_some_iff.1 hl0).1
      have hWo := won_all_spec s hok (by omega)
      rw [hl] at hWo
      repeat (first | refine nav ?_ | refine bo ?_)
      (refine wr fun K R hK hR => ?_; simp (maxSteps := 10000000) only [go_sem]; (try go_ints); (repeat refine And.intro side ?_); (first | refine hK _ ?_ | refine hR _ _ ?_); clear hK hR K R)
      refine RL_callF (hWo) rfl rfl rfl (by first | (simp only [go_sem] <;> first | exact LeA.refl _ | exact Le.refl _) | exact LeA.refl _) rfl rfl ?_
      (refine rr fun K R hK hR => ?_; simp (maxSteps := 10000000) only [go_sem]; (try go_ints); (repeat refine And.intro side ?_); (first | refine hK _ ?_ | refine hR _ _ ?_); clear hK hR K R)
      repeat (first | refine nav ?_ | refine bo ?_)
      have hg0 : decide ((0 : Int) < (l.length : Int)) = true := by simp; omega
      have hg1 : decide ((l.length : Int) > 0) = true := by simp; omega
      (refine wr fun K R hK hR => ?_; simp (maxSteps := 10000000) only [go_sem, bools_get hl0, hg0, hg1]; (try go_ints); (try simp only [go_sem, bools_get hl0, hg0, hg1]); (repeat refine And.intro side ?_); (first | refine hK _ ?_ | refine hR _ _ ?_); clear hK hR K R)
      refine RL_callDg rfl (by simp only [go_sem] <;> exact rfl) (fun e => hA) rfl rfl rfl (fun e => by (try simp only [go_sem] at e); simp only [go_sem, e] <;> (try simp only [go_sem]) <;> first | exact LeA.refl _ | exact Le.refl _) rfl rfl ?_
      (refine rr fun K R hK hR => ?_; simp (maxSteps := 10000000) only [go_sem]; (try go_ints); (repeat refine And.intro side ?_); (first | refine hK _ ?_ | refine hR _ _ ?_); clear hK hR K R)
      repeat (first | refine nav ?_ | refine bo ?_)
      refine endQ_data (by simp only [go_sem] <;> exact rfl) (Le.of_eq ?_) rfl
      simp
end Go.AW
/-
The runs that the seat's laws ask last: what is known of them before they begin.
-/
namespace Go.AW
open Go Go.Proofs TyTry
set_option maxRecDepth 100000
/-- The graph of four places. -/
def fourD : StrD := ⟨4, [⟨⟨#[69]⟩, 2, [[0, 1], [0, 2], [0, 3], [1, 3], [2, 3]]⟩]⟩
def symE : List SymD := [⟨⟨#[69]⟩, 2⟩]
theorem fourD_ok : fourD.Ok := by
  refine ⟨by decide, fun r hr => ?_⟩
  simp only [fourD, List.mem_singleton] at hr
  subst hr
  refine ⟨by decide, by decide, fun t ht => ?_⟩
  simp only [List.mem_cons, List.not_mem_nil, or_false] at ht
  rcases ht with rfl | rfl | rfl | rfl | rfl <;> decide
def fourA : AV := .agg [.i .i64 fourD.size, .sl 3 (rels fourD.rels)]
def fourG : AV := .tup [.agg [.sl 1 (tups [[1, 2, 3], [3], [3], []]), .sl 1 (bools [false, false, false, false])], .i .i64 0]
theorem four_graph : graphR fourD symE = fourG := by
  have e : eqA (graphR fourD symE) fourG = true := by decide +kernel
  exact eqA_eq _ _ e
def envAw (f : FuncId) (ac : List AV) (oc : List Ob) : Option (AV × List Ob) := if f == 34 && eqAL ac [fourA, .sl 2 (syms symE)] then some (fourG, oc) else none
def flAw (f : FuncId) : Bool := f == 64 || f == 82 || f == 99 || f == 85
theorem envAw_ok : ∀ f ac oc r o', envAw f ac oc = some (r, o') → ACalls Try.prog f ac oc (fun r' o'' => r' = r ∧ o'' = o') ∧ oc.length ≤ o'.length := by
  intro f ac oc r o' h
  unfold envAw at h
  by_cases hc : (f == 34 && eqAL ac [fourA, .sl 2 (syms symE)]) = true
  · rw [if_pos hc] at h
    simp only [Bool.and_eq_true, beq_iff_eq] at hc
    obtain ⟨rfl, h2⟩ := hc
    obtain rfl := eqAL_eq _ _ h2
    simp only [Option.some.injEq, Prod.mk.injEq] at h
    obtain ⟨rfl, rfl⟩ := h
    have := graphOf_spec fourD fourD_ok symE (by decide)
    rw [four_graph] at this
    exact ⟨this.frame (by decide +kernel) (by decide +kernel) oc, Nat.le_refl _⟩
  · rw [if_neg hc] at h; cases h
theorem run_ok {k : Nat} {f : FuncId} {ac : List AV} {r : AV} (h : xCall Try.prog envAw flAw k f ac [] = some (r, [])) : ACallsD Try.prog f ac r :=
  ((x_sound envAw flAw (by decide +kernel) envAw_ok k).2.2.2.1 f ac [] r [] h).1
end Go.AW
