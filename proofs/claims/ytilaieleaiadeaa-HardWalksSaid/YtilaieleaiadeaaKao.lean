/-
Plain law: both first walks are one (WalkLaw).
-/
import Derived.Test.YtilaieleaiadeaaKan
namespace Go.AW
open Go Go.Proofs TyTry Go.IntWalk
set_option linter.unusedSimpArgs false
set_option linter.unusedVariables false

theorem sumN_pos {f : Nat → Nat} : ∀ {k : Nat}, 0 < sumN f k ↔ ∃ i < k, 0 < f i
  | 0 => by simp [sumN]
  | k + 1 => by
    rw [sumN]
    constructor
    · intro h
      by_cases h0 : 0 < f k
      · exact ⟨k, by omega, h0⟩
      · obtain ⟨i, hi, hp⟩ := sumN_pos.1 (show 0 < sumN f k by omega)
        exact ⟨i, by omega, hp⟩
    · rintro ⟨i, hi, hp⟩
      by_cases e : i = k
      · subst e; omega
      · have := sumN_pos.2 ⟨i, (show i < k by omega), hp⟩
        omega
theorem backN_pos {E : Nat → Nat → Bool} {n k x : Nat} : 0 < backN E n (k + 1) x ↔ ∃ y < n, E x y = true ∧ 0 < backN E n k y := by
  rw [backN, sumN_pos]
  constructor
  · rintro ⟨y, hy, h⟩
    split at h
    · exact ⟨y, hy, by assumption, h⟩
    · omega
  · rintro ⟨y, hy, he, h⟩
    exact ⟨y, hy, by rw [if_pos he]; exact h⟩
/-- The last is reached in k steps and not before. -/
def firstN (E : Nat → Nat → Bool) (n k x : Nat) : Prop := 0 < backN E n k x ∧ ∀ j < k, backN E n j x = 0
theorem firstN_uniq {E : Nat → Nat → Bool} {n k j x : Nat} (h : firstN E n k x) (h' : firstN E n j x) : k = j := by
  rcases Nat.lt_trichotomy k j with hl | hl | hl
  · have := h'.2 k hl; have := h.1; omega
  · exact hl
  · have := h.2 j hl; have := h'.1; omega
theorem firstN_pre {E : Nat → Nat → Bool} {n k x y : Nat} (h : firstN E n (k + 1) x) (hy : y < n) (he : E x y = true) (hp : 0 < backN E n k y) : firstN E n k y := by
  refine ⟨hp, fun j hj => ?_⟩
  have h1 := h.2 (j + 1) (by omega)
  by_cases hz : 0 < backN E n j y
  · have := backN_pos.2 ⟨y, hy, he, hz⟩
    omega
  · omega
theorem firstN_ex {E : Nat → Nat → Bool} {n x : Nat} (k : Nat) : 0 < backN E n k x → ∃ j ≤ k, firstN E n j x := by
  induction k using Nat.strongRecOn with
  | _ k ih =>
    intro h
    by_cases hz : ∀ j < k, backN E n j x = 0
    · exact ⟨k, Nat.le_refl _, h, hz⟩
    · simp only [Classical.not_forall] at hz
      obtain ⟨j, hj, hne⟩ := hz
      obtain ⟨i, hi, hf⟩ := ih j hj (by omega)
      exact ⟨i, by omega, hf⟩
theorem nodup_len : ∀ (n : Nat) (l : List Nat), l.Nodup → (∀ x ∈ l, x < n) → l.length ≤ n
  | 0, l, _, h => by
    cases l with
    | nil => simp
    | cons a l => have := h a (by simp); omega
  | n + 1, l, hd, h => by
    by_cases hn : n ∈ l
    · have h1 := nodup_len n (l.erase n) (hd.erase n) fun x hx => by
        rw [hd.mem_erase_iff] at hx
        have h2 := h x hx.2
        have h3 := hx.1
        omega
      rw [List.length_erase_of_mem hn] at h1
      omega
    · have := nodup_len n l hd fun x hx => by
        have h2 := h x hx
        have h3 : x ≠ n := fun e => hn (e ▸ hx)
        omega
      omega
theorem firstN_list {E : Nat → Nat → Bool} {n : Nat} : ∀ (k x : Nat), x < n → firstN E n k x → ∃ l : List Nat, l.Nodup ∧ (∀ y ∈ l, y < n) ∧ l.length = k + 1 ∧ ∀ y ∈ l, ∃ j ≤ k, firstN E n j y
  | 0, x, hx, h => ⟨[x], by simp, by simpa using hx, rfl, by simpa using h⟩
  | k + 1, x, hx, h => by
    obtain ⟨y, hy, he, hp⟩ := backN_pos.1 h.1
    obtain ⟨l, h1, h2, h3, h4⟩ := firstN_list k y hy (firstN_pre h hy he hp)
    refine ⟨x :: l, List.nodup_cons.2 ⟨fun hm => ?_, h1⟩, fun z hz => ?_, by simp [h3], fun z hz => ?_⟩
    · obtain ⟨j, hj, hfj⟩ := h4 x hm
      have e1 := h.2 j (by omega)
      have e2 := hfj.1
      omega
    · rcases List.mem_cons.1 hz with rfl | hz
      · exact hx
      · exact h2 z hz
    · rcases List.mem_cons.1 hz with rfl | hz
      · exact ⟨k + 1, Nat.le_refl _, h⟩
      · obtain ⟨j, hj, hf⟩ := h4 z hz
        exact ⟨j, by omega, hf⟩
theorem firstN_lt {E : Nat → Nat → Bool} {n k x : Nat} (hx : x < n) (h : firstN E n k x) : k < n := by
  obtain ⟨l, h1, h2, h3, _⟩ := firstN_list k x hx h
  have := nodup_len n l h1 h2
  omega
/-- What the rounds have found: the steps to the last, where there are so few. -/
theorem farN_is {next : List (List Int)} {E : Nat → Nat → Bool} {n : Nat} (hn : 1 ≤ n) (hnext : ∀ x < n, next.getD x [] = ((List.range n).filter fun y => E x y).map fun y : Nat => (y : Int)) (hb : ∀ l ∈ next, ∀ y ∈ l, 0 ≤ y ∧ y < (n : Int)) :
    ∀ (d x : Nat), x < n → ((farN next n d).getD x 0 = -1 ∧ ∀ k ≤ d, backN E n k x = 0) ∨ ∃ k ≤ d, (farN next n d).getD x 0 = (k : Int) ∧ firstN E n k x
  | 0, x, hx => by
    rw [farN, List.getD_eq_getElem?_getD, List.getElem?_set]
    by_cases h : n - 1 = x
    · rw [if_pos h, if_pos (by simp; omega)]
      exact .inr ⟨0, Nat.le_refl _, rfl, by rw [backN, if_pos h.symm]; omega, fun j hj => by omega⟩
    · rw [if_neg h]
      refine .inl ⟨by simp [hx], fun k hk => ?_⟩
      obtain rfl : k = 0 := by omega
      rw [backN, if_neg (fun e => h e.symm)]
  | d + 1, x, hx => by
    have ih := farN_is hn hnext hb d
    have hold : ∀ (x : Nat) (v : Int), (farN next n d)[x]? = some v → v < (d : Int) + 1 := fun x v hv => by
      have := ((farN_ok hn hb d).bd x v hv).2
      omega
    rw [farN, farP_get (by omega) hold n x (by rw [farN_len]; omega) (by rw [farN_len]; exact hx), if_pos hx, newF]
    rcases ih x hx with ⟨hm, hz⟩ | ⟨k, hk, hv, hf⟩
    · by_cases hc : ∃ y < n, E x y = true ∧ firstN E n d y
      · obtain ⟨y, hy, he, hf⟩ := hc
        rw [if_pos ?_]
        · exact .inr ⟨d + 1, Nat.le_refl _, by omega, backN_pos.2 ⟨y, hy, he, hf.1⟩, fun j hj => hz j (by omega)⟩
        · rw [Bool.and_eq_true, List.any_eq_true]
          refine ⟨by rw [hm]; decide, (y : Int), ?_, ?_⟩
          · rw [hnext x hx]; exact List.mem_map.2 ⟨y, List.mem_filter.2 ⟨List.mem_range.2 hy, he⟩, rfl⟩
          · rw [Int.toNat_natCast]
            have : (farN next n d).getD y 0 = (d : Int) := by
              rcases ih y hy with ⟨_, h2⟩ | ⟨k, hk, hv, hf'⟩
              · have e1 := h2 d (Nat.le_refl _); have e2 := hf.1; omega
              · rw [hv, firstN_uniq hf hf']
            rw [this]; simp only [beq_iff_eq]; omega
      · rw [if_neg ?_]
        · refine .inl ⟨hm, fun k hk => ?_⟩
          by_cases e : k = d + 1
          · subst e
            apply Classical.byContradiction
            intro hne
            obtain ⟨y, hy, he, hp⟩ := backN_pos.1 (Nat.pos_of_ne_zero hne)
            obtain ⟨j, hj, hf⟩ := firstN_ex d hp
            by_cases e : j = d
            · subst e; exact hc ⟨y, hy, he, hf⟩
            · have e1 := hz (j + 1) (by omega)
              have e2 := backN_pos.2 ⟨y, hy, he, hf.1⟩
              omega
          · exact hz k (by omega)
        · intro hcc
          rw [Bool.and_eq_true, List.any_eq_true] at hcc
          obtain ⟨_, y, hy, hyd⟩ := hcc
          rw [hnext x hx, List.mem_map] at hy
          obtain ⟨z, hz', rfl⟩ := hy
          rw [List.mem_filter, List.mem_range] at hz'
          rw [Int.toNat_natCast, beq_iff_eq] at hyd
          rcases ih z hz'.1 with ⟨h1, _⟩ | ⟨k, hk, hv, hf⟩
          · omega
          · have : k = d := by omega
            subst this
            exact hc ⟨z, hz'.1, hz'.2, hf⟩
    · rw [if_neg (by rw [hv]; simp only [Bool.and_eq_true, decide_eq_true_eq]; omega)]
      exact .inr ⟨k, by omega, hv, hf⟩
theorem idxI_find {p : Int → Bool} : ∀ (l : List Int) (k : Nat) (y : Int), l.find? p = some y → ∃ j : Nat, idxI p l (k : Int) = ((k + j : Nat) : Int) ∧ l[j]? = some y
  | [], _, _, h => by simp at h
  | x :: l, k, y, h => by
    rw [List.find?_cons] at h
    rw [idxI]
    by_cases hp : p x = true
    · rw [hp] at h
      simp only [Option.some.injEq] at h
      subst h
      exact ⟨0, by rw [if_pos hp]; rfl, rfl⟩
    · have hp' : p x = false := by simpa using hp
      rw [hp'] at h
      obtain ⟨j, h1, h2⟩ := idxI_find l (k + 1) y h
      refine ⟨j + 1, ?_, by simpa using h2⟩
      rw [if_neg hp, show ((k : Int) + 1) = ((k + 1 : Nat) : Int) by omega, h1]
      omega
theorem find_congr {α : Type} {p q : α → Bool} : ∀ {l : List α}, (∀ x ∈ l, p x = q x) → l.find? p = l.find? q
  | [], _ => rfl
  | x :: l, h => by rw [List.find?_cons, List.find?_cons, h x (by simp), find_congr fun y hy => h y (by simp [hy])]
theorem find_filter {α : Type} (p q : α → Bool) : ∀ (l : List α), (l.filter q).find? p = l.find? fun x => q x && p x
  | [] => rfl
  | x :: l => by
    rw [List.filter_cons]
    show _ = (match q x && p x with | true => some x | false => l.find? fun x => q x && p x)
    cases hq : q x with
    | false => simp [find_filter p q l]
    | true =>
      rw [if_pos rfl, List.find?_cons, find_filter p q l]; rfl
theorem find_map {p : Int → Bool} : ∀ (l : List Nat), (l.map fun y : Nat => (y : Int)).find? p = (l.find? fun y : Nat => p (y : Int)).map fun y : Nat => (y : Int)
  | [] => rfl
  | x :: l => by
    rw [List.map_cons, List.find?_cons, List.find?_cons, find_map l]
    cases p (x : Int) <;> rfl
theorem find_some {p : Nat → Bool} {n y : Nat} (hy : y < n) (h : p y = true) : ∃ z, (List.range n).find? p = some z := by
  cases hf : (List.range n).find? p with
  | some z => exact ⟨z, rfl⟩
  | none =>
    rw [List.find?_eq_none] at hf
    exact absurd h (hf y (List.mem_range.2 hy))
theorem path_eq (s : StrD) {next : List (List Int)} {n : Nat} (hn : 1 ≤ n) (hnext : ∀ x < n, next.getD x [] = ((List.range n).filter fun y => eB s x y).map fun y : Nat => (y : Int)) (hb : ∀ l ∈ next, ∀ y ∈ l, 0 ≤ y ∧ y < (n : Int)) :
    ∀ (k a f : Nat), a < n → firstN (eB s) n k a → k ≤ f → pathR (eMat s n) n k a = pathF next (farN next n (n - 1)) (n - 1) f a
  | 0, a, f, ha, h, hf => by
    have : a = n - 1 := by
      have := h.1
      rw [backN] at this
      split at this
      · assumption
      · omega
    rw [pathR]
    cases f with
    | zero => rfl
    | succ f => rw [pathF, if_pos this]
  | k + 1, a, f + 1, ha, h, hf => by
    have hne : a ≠ n - 1 := by
      intro e
      have := h.2 0 (by omega)
      rw [backN, if_pos e] at this
      omega
    have hkn := firstN_lt ha h
    have hfar : ∀ y < n, (farN next n (n - 1)).getD y 0 = (k : Int) ↔ firstN (eB s) n k y := by
      intro y hy
      rcases farN_is hn hnext hb (n - 1) y hy with ⟨h1, h2⟩ | ⟨j, hj, hv, hfj⟩
      · rw [h1]
        refine ⟨fun e => by omega, fun e => ?_⟩
        have := h2 k (by omega); have := e.1; omega
      · rw [hv]
        refine ⟨fun e => ?_, fun e => ?_⟩
        · have : j = k := by omega
          subst this; exact hfj
        · rw [firstN_uniq e hfj]
    have hfa : (farN next n (n - 1)).getD a 0 = ((k + 1 : Nat) : Int) := by
      rcases farN_is hn hnext hb (n - 1) a ha with ⟨h1, h2⟩ | ⟨j, hj, hv, hfj⟩
      · have := h2 (k + 1) (by omega); have := h.1; omega
      · rw [hv, firstN_uniq h hfj]
    obtain ⟨y0, hy0, he0, hp0⟩ := backN_pos.1 h.1
    obtain ⟨y, hy⟩ : ∃ y, (List.range n).find? (fun y => eB s a y && decide (0 < backN (eB s) n k y)) = some y := find_some hy0 (by simp [he0, hp0])
    have hyn : y < n := List.mem_range.1 (List.mem_of_find?_eq_some hy)
    have hyp := List.find?_some hy
    simp only [Bool.and_eq_true, decide_eq_true_eq] at hyp
    have hC : capC = 2199023255552 := rfl
    have e1 : nextR (eMat s n) n k a = y := by
      rw [nextR, find_congr (q := fun y => eB s a y && decide (0 < backN (eB s) n k y)) fun z hz => ?_, hy]; rfl
      have hz := List.mem_range.1 hz
      rw [goesR, eMat_getD s n a z ha hz, wk_exact s n hn k z hz]
      congr 1
      rw [decide_eq_decide]
      omega
    have e2 : stepF next (farN next n (n - 1)) a = (y : Int) := by
      have hfd : (next.getD a []).find? (fun z => (farN next n (n - 1)).getD z.toNat 0 == (farN next n (n - 1)).getD a 0 - 1) = some (y : Int) := by
        rw [hnext a ha, find_map, find_filter, find_congr (q := fun y => eB s a y && decide (0 < backN (eB s) n k y)) fun z hz => ?_, hy]; rfl
        have hz := List.mem_range.1 hz
        cases he : eB s a z with
        | false => rfl
        | true =>
          rw [Bool.true_and, Bool.true_and, Int.toNat_natCast, hfa, show ((k + 1 : Nat) : Int) - 1 = (k : Int) by omega]
          rw [Bool.eq_iff_iff, beq_iff_eq, decide_eq_true_eq, hfar z hz]
          exact ⟨fun e => e.1, fun e => firstN_pre h hz he e⟩
      obtain ⟨j, h1, h2⟩ := idxI_find _ 0 _ hfd
      rw [Nat.zero_add] at h1
      have h1' : idxI (fun z => (farN next n (n - 1)).getD z.toNat 0 == (farN next n (n - 1)).getD a 0 - 1) (next.getD a []) 0 = (j : Int) := h1
      rw [stepF, h1', Int.toNat_natCast, List.getD_eq_getElem?_getD, h2]; rfl
    rw [pathR, pathF, if_neg hne, e1, e2, Int.toNat_natCast]
    rw [path_eq s hn hnext hb k y f hyn (firstN_pre h hyn hyp.1 hyp.2) (by omega)]
theorem pathR_len (e : List (List Bool)) (n : Nat) : ∀ (k a : Nat), (pathR e n k a).length = k
  | 0, _ => rfl
  | k + 1, a => by rw [pathR, List.length_cons, pathR_len e n k]
theorem walkLaw : WalkLaw := by
  intro s hv hf hsz
  obtain ⟨z1, z2, z3⟩ := valid_size hv
  have hcode : codeF s false = 0 := codeF_ok hv (by rw [← fitsR_eq hv]; exact hf)
  have hg := graphD_ok hv
  obtain ⟨n, hnn⟩ : ∃ n, s.size.toNat = n := ⟨_, rfl⟩
  have hn : 1 ≤ n := by omega
  have hnext : ∀ x < n, (graphD s).1.getD x [] = ((List.range n).filter fun y => eB s x y).map fun y : Nat => (y : Int) := fun x hx => by
    have := row_eq hv hf x (by omega)
    rw [hnn] at this; exact this
  have hb : ∀ l ∈ (graphD s).1, ∀ y ∈ l, 0 ≤ y ∧ y < (n : Int) := fun l hl y hy => by
    have := (hg.el l hl).2 y hy
    omega
  rw [walkHA, if_neg (by simp [hcode]), hnn]
  have hC : capC = 2199023255552 := rfl
  rcases farN_is hn hnext hb (n - 1) 0 (by omega) with ⟨h1, h2⟩ | ⟨k, hk, hv0, hf0⟩
  · right
    rw [if_pos (by omega)]
    refine ⟨?_, rfl⟩
    have hno : ∀ i < n + 1, (!((wk (eMat s n) n i).getD 0 0 == 0)) = false := by
     intro i hi
     rw [wk_exact s n hn i 0 (by omega)]
     have : backN (eB s) n i 0 = 0 := by
      by_cases e : i ≤ n - 1
      · exact h2 i e
      · apply Classical.byContradiction
        intro hne
        obtain ⟨j, hj, hf⟩ := firstN_ex i (Nat.pos_of_ne_zero hne)
        have hlt := firstN_lt (by omega) hf
        have e1 := h2 j (by omega)
        have e2 := hf.1
        omega
     rw [this]; rfl
    rw [walkRA, find_range_none hno]
  · left
    refine ⟨0 :: pathR (eMat s n) n k 0, by simp only [List.length_cons, pathR_len]; omega, ?_, ?_⟩
    · rw [walkRA, find_range (k := k) (by omega) (fun i hi => ?_) ?_]
      · rw [wk_exact s n hn k 0 (by omega)]
        have := hf0.1
        simp only [Bool.not_eq_true', beq_eq_false_iff_ne, ne_eq]
        omega
      · rw [wk_exact s n hn i 0 (by omega), hf0.2 i hi]; rfl
    · rw [if_neg (by omega), ← path_eq s hn hnext hb k 0 n (by omega) hf0 (by omega)]
end Go.AW
