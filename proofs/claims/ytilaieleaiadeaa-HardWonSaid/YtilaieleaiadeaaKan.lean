/-
Contracts: the reference's game, second part.
-/
import Derived.Test.YtilaieleaiadeaaKam
import Derived.Test.YtilaieleaiadeaaKag
import Derived.Test.YtilaieleaiadeaaKah
namespace Go.AW
open Go Go.Proofs TyTry Go.IntWalk
set_option linter.unusedSimpArgs false
set_option linter.unusedVariables false
set_option maxRecDepth 10000

section
variable (E : Nat → Nat → Bool) (a : List Bool) (may : Nat → Nat → Bool) (n : Nat)
def someX (b : List Bool) (x j : Nat) : Bool := (List.range j).any fun y => E x y && (b.getD y false && may x y)
def allX (b : List Bool) (x j : Nat) : Bool := (List.range j).all fun y => !(E x y) || b.getD y false
def condX (b : List Bool) (x : Nat) : Bool := !(b.getD x false) && ((!(a.getD x false) && someX E may b x n) || (a.getD x false && allX E b x n))
def turnX (p : List Bool × Bool) (x : Nat) : List Bool × Bool := if condX E a may n p.1 x = true then (p.1.set x true, true) else p
def passX (b : List Bool) (k : Nat) : List Bool × Bool := (List.range k).foldl (turnX E a may n) (b, false)
def loopX : Nat → List Bool → List Bool
  | 0, b => b
  | f + 1, b => if (passX E a may n b n).2 = true then loopX f (passX E a may n b n).1 else (passX E a may n b n).1
def wonX : List Bool := loopX E a may n (n + 1) ((List.replicate n false).set (n - 1) true)
end
section
variable {E : Nat → Nat → Bool} {a : List Bool} {may : Nat → Nat → Bool} {n : Nat}
theorem someX_succ (b : List Bool) (x j : Nat) : someX E may b x (j + 1) = (someX E may b x j || (E x j && (b.getD j false && may x j))) := by
  simp [someX, List.range_succ]
theorem allX_succ (b : List Bool) (x j : Nat) : allX E b x (j + 1) = (allX E b x j && (!(E x j) || b.getD j false)) := by
  simp [allX, List.range_succ]
theorem passX_succ (b : List Bool) (k : Nat) : passX E a may n b (k + 1) = turnX E a may n (passX E a may n b k) k := by
  simp only [passX, List.range_succ, List.foldl_append, List.foldl_cons, List.foldl_nil]
theorem turnX_len (p : List Bool × Bool) (x : Nat) : (turnX E a may n p x).1.length = p.1.length := by
  unfold turnX; split <;> simp
theorem passX_len (b : List Bool) : ∀ k, (passX E a may n b k).1.length = b.length
  | 0 => rfl
  | k + 1 => by rw [passX_succ, turnX_len, passX_len b k]
theorem set_cnt {b : List Bool} {x : Nat} (hx : x < b.length) (h : b.getD x false = false) : cntF (b.set x true) < cntF b := by
  refine cntF_lt _ _ (by simp) (fun y hy => ?_) ⟨x, ?_, ?_⟩
  · rw [List.getElem?_set]
    split
    · rename_i e; subst e; simp [hx]
    · exact hy
  · rw [List.getD_eq_getElem?_getD, List.getElem?_eq_getElem hx] at h
    rw [List.getElem?_eq_getElem hx]; simpa using h
  · simp [hx]
theorem passX_cnt (b : List Bool) : ∀ k ≤ b.length, cntF (passX E a may n b k).1 ≤ cntF b ∧ ((passX E a may n b k).2 = true → cntF (passX E a may n b k).1 < cntF b)
  | 0, _ => ⟨Nat.le_refl _, fun h => by cases h⟩
  | k + 1, hk => by
    obtain ⟨h1, h2⟩ := passX_cnt b k (by omega)
    rw [passX_succ, turnX]
    split
    · rename_i hc
      simp only [condX, Bool.and_eq_true, Bool.not_eq_true'] at hc
      have := set_cnt (b := (passX E a may n b k).1) (x := k) (by rw [passX_len]; omega) hc.1
      simp only
      exact ⟨by omega, fun _ => by omega⟩
    · exact ⟨h1, h2⟩
theorem loopX_len : ∀ (f : Nat) (b : List Bool), (loopX E a may n f b).length = b.length
  | 0, _ => rfl
  | f + 1, b => by
    rw [loopX]
    split
    · rw [loopX_len, passX_len]
    · rw [passX_len]
end
theorem wonX_len (E : Nat → Nat → Bool) (a : List Bool) (may : Nat → Nat → Bool) (n : Nat) : (wonX E a may n).length = n := by
  rw [wonX, loopX_len]; simp
theorem inA_len (s : StrD) (n : Nat) : (inA s n).length = n := by simp [inA]
theorem rwon_spec (s : StrD) (hs : s.Ok) (hfE : fitsR symsE s = true) (hfA : fitsR symsA s = true) (n : Nat) (hn : s.size = n) (h1 : 1 ≤ n) (h2 : n ≤ 64) (st : AV) (may : Nat → Nat → Bool)
    (hst : (st = .nsl ∧ ∀ x y, may x y = true) ∨ ∃ l : List Int, st = .sl 1 (ints l) ∧ l.length = n ∧ ∀ x y : Nat, may x y = (l.getD x 0 == (y : Int))) :
    ACallsD Try.prog 29 [.agg [.i .i64 s.size, .sl 3 (rels s.rels)], st] (.sl 1 (bools (wonX (eB s) (inA s n) may n))) := by
  have hE := edgesM_spec s hs hfE n hn h1 h2
  have hA := inA_spec s hs hfA n hn h1 h2
  have hEl : ∀ x, x < n → (eMat s n)[x]? = some (eRow s n x) := fun x hx => by simp [eMat, hx]
  have hRl : ∀ x y, y < n → (eRow s n x)[y]? = some (eB s x y) := fun x y hy => by simp [eRow, hy]
  have hEn : (eMat s n).length = n := by simp [eMat]
  have hRn : ∀ x, (eRow s n x).length = n := fun x => by simp [eRow]
  have hAn := inA_len s n
  have hAg : ∀ x, x < n → (inA s n)[x]? = some ((inA s n).getD x false) := fun x hx => by simp [hAn, hx]
  have h0n : 0 < n := h1
  have hstd : st.dat = st := by
    rcases hst with ⟨rfl, _⟩ | ⟨l, rfl, _⟩
    · rfl
    · rfl
  generalize eB s = E at *
  refine ACalls_of' (n := 99) (rs := [.tmp 4]) (show Try.prog.funcs[29]? = some Try.f29 by kernel_rfl) rfl rfl rfl (by simp) (by decide +kernel) ?_
  repeat (first | refine nav ?_ | refine bo ?_)
  (refine wr fun K R hK hR => ?_; simp (maxSteps := 10000000) only [go_sem]; (try go_ints); (repeat refine And.intro side ?_); (first | refine hK _ ?_ | refine hR _ _ ?_); clear hK hR K R)
  repeat (first | refine nav ?_ | refine bo ?_)
  (refine W_dreg (by decide +kernel) [] [0, 1, 2, 3, 4, 5] [[], [0], [], [0, 1, 2], [2, 3, 0, 1], [4, 2, 1, 0, 3]] (by decide +kernel) rfl fun K R hK hR => ?_; simp only [List.filterMap_cons, List.filterMap_nil, List.getElem?_cons_zero, List.getElem?_cons_succ, List.cons_append, List.nil_append]; simp (maxSteps := 10000000) only [go_sem]; (try go_ints); (repeat refine And.intro side ?_); (first | refine hK _ ?_ | refine hR _ _ ?_); clear hK hR K R)
  refine D_callD (hE) rfl rfl rfl (by first | (simp only [go_sem] <;> first | exact LeA.refl _ | exact Le.refl _) | exact LeA.refl _) rfl rfl rfl rfl ?_
  (refine D_reg fun K R hK hR => ?_; simp (maxSteps := 10000000) only [go_sem]; (try go_ints); (repeat refine And.intro side ?_); (first | refine hK _ ?_ | refine hR _ _ ?_); clear hK hR K R)
  refine D_callD (hA) rfl rfl rfl (by first | (simp only [go_sem] <;> first | exact LeA.refl _ | exact Le.refl _) | exact LeA.refl _) rfl rfl rfl rfl ?_
  (refine D_reg fun K R hK hR => ?_; simp (maxSteps := 10000000) only [go_sem]; (try go_ints); (repeat refine And.intro side ?_); (first | refine hK _ ?_ | refine hR _ _ ?_); clear hK hR K R)
  repeat (first | refine nav ?_ | refine bo ?_)
  generalize inA s n = a at *
  (refine wr fun K R hK hR => ?_; simp (maxSteps := 10000000) only [go_sem, hn]; (try go_ints); (try simp only [go_sem, hn]); (repeat refine And.intro side ?_); (first | refine hK _ ?_ | refine hR _ _ ?_); clear hK hR K R)
  repeat (first | refine nav ?_ | refine bo ?_)
  have hg0 : (bools (List.replicate n false)).getD (n - 1) [] = [.b false] := bools_get (by rw [List.getElem?_replicate, if_pos (by omega)])
  have hi0 : List.replicate n [AV.b false] = bools (List.replicate n false) := by simp [bools]
  simp only [hi0]
  (refine wr fun K R hK hR => ?_; simp (maxSteps := 10000000) only [go_sem, hg0, bools_set, List.length_replicate]; (try go_ints); (try simp only [go_sem, hg0, bools_set, List.length_replicate]); (repeat refine And.intro side ?_); (first | refine hK _ ?_ | refine hR _ _ ?_); clear hK hR K R)
  repeat (first | refine nav ?_ | refine bo ?_)
  (refine wr fun K R hK hR => ?_; simp (maxSteps := 10000000) only [go_sem]; (try go_ints); (repeat refine And.intro side ?_); (first | refine hK _ ?_ | refine hR _ _ ?_); clear hK hR K R)
  repeat (first | refine nav ?_ | refine bo ?_)
  refine W_for 25 98 [8, 9, 10, 11, 12] (fun m t o => ∃ (f : Nat) (again : Bool) (b : List Bool), [Ob.cells 2 [[.i .i64 n, .sl 3 (rels s.rels)]], .cells 1 (bools b)] = o ∧ t 8 = .b again ∧ b.length = n ∧ m = (if again then f else 0) ∧ (again = true → cntF b < f) ∧ (if again then loopX E a may n f b else b) = wonX E a may n) (n + 1)
    ⟨n + 1, true, (List.replicate n false).set (n - 1) true, rfl, by simp only [go_sem] <;> rfl, by simp, rfl, fun _ => ?_, rfl⟩ ?_
  · have := cntF_le ((List.replicate n false).set (n - 1) true)
    simp only [List.length_set, List.length_replicate] at this
    omega
  rintro m t o ⟨f, again, b, rfl, h8, hbl, rfl, hcn, hfin⟩
  repeat (first | refine nav ?_ | refine bo ?_)
  (refine wr fun K R hK hR => ?_; simp (maxSteps := 10000000) only [go_sem, h8]; (try go_ints); (try simp only [go_sem, h8]); (repeat refine And.intro side ?_); (first | refine hK _ ?_ | refine hR _ _ ?_); clear hK hR K R)
  repeat (first | refine nav ?_ | refine bo ?_)
  cases again with
  | false =>
    refine W_cond (b := false) (by simp only [go_sem]) (fun hb => by cases hb) (fun _ => ?_)
    simp only [Bool.false_eq_true, if_false] at hfin
    rw [← hfin]
    repeat (first | refine nav ?_ | refine bo ?_)
    (refine wr fun K R hK hR => ?_; simp (maxSteps := 10000000) only [go_sem]; (try go_ints); (repeat refine And.intro side ?_); (first | refine hK _ ?_ | refine hR _ _ ?_); clear hK hR K R)
    refine seqQ_normal ?_
    refine W_freeze 1 (sz := 1) (rows := bools b) (by rfl) (by simp [bools, AV.dat, AV.ltk, AV.plain]) ?_
    have hlen : (bools b).length = n := by rw [bools_len, hbl]
    have htk : List.take n (bools b) = bools b := List.take_of_length_le (by omega)
    have hd0 : (bools b).map (fun r => r.map AV.dat) = bools b := by simp [bools, Function.comp_def, AV.dat]
    repeat (first | refine nav ?_ | refine bo ?_)
    refine endQ_data (by simp [resAV, resL, res1, frS, AV.unref, upd, mix_at, inL, hlen, htk, hd0, ung, AV.dat] <;> exact rfl) (Le.of_eq ?_) rfl
    rfl
  | true =>
    obtain ⟨f, rfl⟩ : ∃ f', f = f' + 1 := ⟨f - 1, by have := hcn rfl; omega⟩
    have hcn := hcn rfl
    simp only [if_true, loopX] at hfin
    refine W_cond (b := true) (by simp only [go_sem]) (fun _ => ?_) (fun hb => by cases hb)
    repeat (first | refine nav ?_ | refine bo ?_)
    (refine wr fun K R hK hR => ?_; simp (maxSteps := 10000000) only [go_sem]; (try go_ints); (repeat refine And.intro side ?_); (first | refine hK _ ?_ | refine hR _ _ ?_); clear hK hR K R)
    repeat (first | refine nav ?_ | refine bo ?_)
    (refine wr fun K R hK hR => ?_; simp (maxSteps := 10000000) only [go_sem]; (try go_ints); (repeat refine And.intro side ?_); (first | refine hK _ ?_ | refine hR _ _ ?_); clear hK hR K R)
    repeat (first | refine nav ?_ | refine bo ?_)
    refine W_for 26 98 [8, 9, 10, 11, 12] (fun m t o => ∃ x : Nat, [Ob.cells 2 [[.i .i64 n, .sl 3 (rels s.rels)]], .cells 1 (bools (passX E a may n b x).1)] = o ∧ t 8 = .b (passX E a may n b x).2 ∧ t 9 = .i .i64 x ∧ m = n - x ∧ x ≤ n) n ⟨0, rfl, by simp only [go_sem] <;> rfl, by simp only [go_sem] <;> rfl, by omega, Nat.zero_le _⟩ ?_
    rintro m t2 o ⟨x, rfl, h8', h9, rfl, hx⟩
    have hsucc : passX E a may n b (x + 1) = _ := passX_succ b x
    have hpl : (passX E a may n b x).1.length = n := by rw [passX_len, hbl]
    obtain ⟨c1, c2⟩ := passX_cnt (E := E) (a := a) (may := may) (n := n) b x (by omega)
    generalize hp : passX E a may n b x = p at h8' hsucc hpl c1 c2 ⊢
    obtain ⟨p, ch⟩ := p
    simp only at h8' hpl c1 c2
    repeat (first | refine nav ?_ | refine bo ?_)
    (refine wr fun K R hK hR => ?_; simp (maxSteps := 10000000) only [go_sem, h9]; (try go_ints); (try simp only [go_sem, h9]); (repeat refine And.intro side ?_); (first | refine hK _ ?_ | refine hR _ _ ?_); clear hK hR K R)
    repeat (first | refine nav ?_ | refine bo ?_)
    refine W_cond (by simp only [go_sem] <;> exact rfl) (fun hb => ?_) (fun hb => ?_)
    · simp at hb
      have hxn := hb
      repeat (first | refine nav ?_ | refine bo ?_)
      (refine wr fun K R hK hR => ?_; simp (maxSteps := 10000000) only [go_sem]; (try go_ints); (repeat refine And.intro side ?_); (first | refine hK _ ?_ | refine hR _ _ ?_); clear hK hR K R)
      repeat (first | refine nav ?_ | refine bo ?_)
      (refine wr fun K R hK hR => ?_; simp (maxSteps := 10000000) only [go_sem]; (try go_ints); (repeat refine And.intro side ?_); (first | refine hK _ ?_ | refine hR _ _ ?_); clear hK hR K R)
      repeat (first | refine nav ?_ | refine bo ?_)
      refine W_for 32 71 [10, 11, 12] (fun m t o => ∃ y : Nat, [Ob.cells 2 [[.i .i64 n, .sl 3 (rels s.rels)]], .cells 1 (bools p)] = o ∧ t 10 = .b (someX E may p x y) ∧ t 11 = .b (allX E p x y) ∧ t 12 = .i .i64 y ∧ m = n - y ∧ y ≤ n) n
        ⟨0, rfl, by simp only [go_sem] <;> rfl, by simp only [go_sem] <;> rfl, by simp only [go_sem] <;> rfl, by omega, Nat.zero_le _⟩ ?_
      rintro m t3 o ⟨y, rfl, h10, h11, h12, rfl, hy⟩
      repeat (first | refine nav ?_ | refine bo ?_)
      (refine wr fun K R hK hR => ?_; simp (maxSteps := 10000000) only [go_sem, h12]; (try go_ints); (try simp only [go_sem, h12]); (repeat refine And.intro side ?_); (first | refine hK _ ?_ | refine hR _ _ ?_); clear hK hR K R)
      repeat (first | refine nav ?_ | refine bo ?_)
      refine W_cond (by simp only [go_sem] <;> exact rfl) (fun hb => ?_) (fun hb => ?_)
      · simp at hb
        obtain ⟨pv, hpv⟩ : ∃ v, p[y]? = some v := ⟨_, List.getElem?_eq_getElem (by omega)⟩
        have hs1 := someX_succ (E := E) (may := may) p x y
        have ha1 := allX_succ (E := E) p x y
        rw [show p.getD y false = pv by simp [hpv]] at hs1 ha1
        repeat (first | refine nav ?_ | refine bo ?_)
        (refine wr fun K R hK hR => ?_; simp (maxSteps := 10000000) only [go_sem, h9, h12, mat_get (hEl x hxn), bools_get (hRl x y hb), hEn, hRn]; (try go_ints); (try simp only [go_sem, h9, h12, mat_get (hEl x hxn), bools_get (hRl x y hb), hEn, hRn]); (repeat refine And.intro side ?_); (first | refine hK _ ?_ | refine hR _ _ ?_); clear hK hR K R)
        repeat (first | refine nav ?_ | refine bo ?_)
        cases hev : E x y with
        | true =>
          rw [hev] at hs1 ha1
          refine W_cond (b := true) (by simp only [go_sem, hev]) (fun _ => ?_) (fun hb => by cases hb)
          rcases hst with ⟨rfl, hmay⟩ | ⟨l, rfl, hll, hmay⟩
          · repeat (first | refine nav ?_ | refine bo ?_)
            (refine W_reg [1000000] fun K R hK hR => ?_; simp (maxSteps := 10000000) only [go_sem, h9, h10, h12, bools_get hpv, hpl]; (try go_ints); (try simp only [go_sem, h9, h10, h12, bools_get hpv, hpl]); (repeat refine And.intro side ?_); (first | refine hK _ ?_ | refine hR _ _ ?_); clear hK hR K R)
            repeat (first | refine nav ?_ | refine bo ?_)
            (refine wr fun K R hK hR => ?_; simp (maxSteps := 10000000) only [go_sem, h11, h12, bools_get hpv, hpl]; (try go_ints); (try simp only [go_sem, h11, h12, bools_get hpv, hpl]); (repeat refine And.intro side ?_); (first | refine hK _ ?_ | refine hR _ _ ?_); clear hK hR K R)
            repeat (first | refine nav ?_ | refine bo ?_)
            (refine wr fun K R hK hR => ?_; simp (maxSteps := 10000000) only [go_sem, h12]; (try go_ints); (try simp only [go_sem, h12]); (repeat refine And.intro side ?_); (first | refine hK _ ?_ | refine hR _ _ ?_); clear hK hR K R)
            refine forQ_normal (n - (y + 1)) (by omega) ⟨y + 1, rfl, ?_⟩
            ((try simp only [go_sem, h10, h11, hs1, ha1, hmay]); (repeat' refine And.intro ?_ ?_) <;> (try first | with_reducible rfl | omega | with_reducible assumption | (simp; done)))
          · have hlv : ∃ v, l[x]? = some v := ⟨_, List.getElem?_eq_getElem (by omega)⟩
            obtain ⟨v, hlv⟩ := hlv
            rw [hmay, show l.getD x 0 = v by simp [hlv]] at hs1
            repeat (first | refine nav ?_ | refine bo ?_)
            (refine W_reg [1000000] fun K R hK hR => ?_; simp (maxSteps := 10000000) only [go_sem, h9, h10, h12, bools_get hpv, hpl, ints_get hlv, hll, h0n]; (try go_ints); (try simp only [go_sem, h9, h10, h12, bools_get hpv, hpl, ints_get hlv, hll, h0n]); (repeat refine And.intro side ?_); (first | refine hK _ ?_ | refine hR _ _ ?_); clear hK hR K R)
            repeat (first | refine nav ?_ | refine bo ?_)
            (refine wr fun K R hK hR => ?_; simp (maxSteps := 10000000) only [go_sem, h11, h12, bools_get hpv, hpl]; (try go_ints); (try simp only [go_sem, h11, h12, bools_get hpv, hpl]); (repeat refine And.intro side ?_); (first | refine hK _ ?_ | refine hR _ _ ?_); clear hK hR K R)
            repeat (first | refine nav ?_ | refine bo ?_)
            (refine wr fun K R hK hR => ?_; simp (maxSteps := 10000000) only [go_sem, h12]; (try go_ints); (try simp only [go_sem, h12]); (repeat refine And.intro side ?_); (first | refine hK _ ?_ | refine hR _ _ ?_); clear hK hR K R)
            refine forQ_normal (n - (y + 1)) (by omega) ⟨y + 1, rfl, ?_⟩
            ((try simp only [go_sem, h10, h11, hs1, ha1]); (repeat' refine And.intro ?_ ?_) <;> (try first | with_reducible rfl | omega | with_reducible assumption | (simp; done)))
        | false =>
          rw [hev] at hs1 ha1
          simp only [Bool.false_and, Bool.or_false, Bool.not_false, Bool.true_or, Bool.and_true] at hs1 ha1
          refine W_cond (b := false) (by simp only [go_sem, hev]) (fun hb => by cases hb) (fun _ => ?_)
          repeat (first | refine nav ?_ | refine bo ?_)
          (refine wr fun K R hK hR => ?_; simp (maxSteps := 10000000) only [go_sem, h12]; (try go_ints); (try simp only [go_sem, h12]); (repeat refine And.intro side ?_); (first | refine hK _ ?_ | refine hR _ _ ?_); clear hK hR K R)
          refine forQ_normal (n - (y + 1)) (by omega) ⟨y + 1, rfl, ?_⟩
          ((try simp only [go_sem, h10, h11, hs1, ha1]); (repeat' refine And.intro ?_ ?_) <;> (try first | with_reducible rfl | omega | with_reducible assumption | (simp; done)))
      · simp at hb
        obtain rfl : n = y := by omega
        obtain ⟨pv, hpv⟩ : ∃ v, p[x]? = some v := ⟨_, List.getElem?_eq_getElem (by omega)⟩
        obtain ⟨av, hav⟩ : ∃ v, a[x]? = some v := ⟨_, List.getElem?_eq_getElem (by omega)⟩
        have hcond : condX E a may n p x = (!pv && ((!av && someX E may p x n) || (av && allX E p x n))) := by simp [condX, hpv, hav]
        rw [turnX, hcond] at hsucc
        rw [mix_mix (lo := 32) rfl]
        repeat (first | refine nav ?_ | refine bo ?_)
        (refine wr fun K R hK hR => ?_; simp (maxSteps := 10000000) only [go_sem, h9, h10, h11, bools_get hpv, hpl, bools_get hav, hAn]; (try go_ints); (try simp only [go_sem, h9, h10, h11, bools_get hpv, hpl, bools_get hav, hAn]); (repeat refine And.intro side ?_); (first | refine hK _ ?_ | refine hR _ _ ?_); clear hK hR K R)
        repeat (first | refine nav ?_ | refine bo ?_)
        refine W_cond (by simp only [go_sem] <;> exact rfl) (fun hc => ?_) (fun hc => ?_)
        · rw [if_pos hc] at hsucc
          repeat (first | refine nav ?_ | refine bo ?_)
          (refine wr fun K R hK hR => ?_; simp (maxSteps := 10000000) only [go_sem, h9, bools_get hpv, hpl, bools_set]; (try go_ints); (try simp only [go_sem, h9, bools_get hpv, hpl, bools_set]); (repeat refine And.intro side ?_); (first | refine hK _ ?_ | refine hR _ _ ?_); clear hK hR K R)
          repeat (first | refine nav ?_ | refine bo ?_)
          (refine wr fun K R hK hR => ?_; simp (maxSteps := 10000000) only [go_sem]; (try go_ints); (repeat refine And.intro side ?_); (first | refine hK _ ?_ | refine hR _ _ ?_); clear hK hR K R)
          repeat (first | refine nav ?_ | refine bo ?_)
          (refine wr fun K R hK hR => ?_; simp (maxSteps := 10000000) only [go_sem, h9]; (try go_ints); (try simp only [go_sem, h9]); (repeat refine And.intro side ?_); (first | refine hK _ ?_ | refine hR _ _ ?_); clear hK hR K R)
          refine forQ_normal (n - (x + 1)) (by omega) ⟨x + 1, ?_⟩
          ((try simp only [go_sem, hsucc]); (repeat' refine And.intro ?_ ?_) <;> (try first | with_reducible rfl | omega | with_reducible assumption | (simp; done)))
        · rw [if_neg (by rw [hc]; simp)] at hsucc
          repeat (first | refine nav ?_ | refine bo ?_)
          (refine wr fun K R hK hR => ?_; simp (maxSteps := 10000000) only [go_sem, h9]; (try go_ints); (try simp only [go_sem, h9]); (repeat refine And.intro side ?_); (first | refine hK _ ?_ | refine hR _ _ ?_); clear hK hR K R)
          refine forQ_normal (n - (x + 1)) (by omega) ⟨x + 1, ?_⟩
          ((try simp only [go_sem, hsucc, h8']); (repeat' refine And.intro ?_ ?_) <;> (try first | with_reducible rfl | omega | with_reducible assumption | (simp; done)))
    · simp at hb
      obtain rfl : n = x := by omega
      rw [hp] at hfin
      simp only at hfin
      rw [mix_mix (lo := 26) rfl]
      repeat (first | refine nav ?_ | refine bo ?_)
      refine forQ_normal (if ch then f else 0) (by split <;> omega) ⟨f, ch, p, rfl, ?_, hpl, rfl, fun h => ?_, hfin⟩
      · simp only [go_sem, h8']
      · have := c2 h; omega
end Go.AW
/-
Contracts: strategies.
-/
namespace Go.AW
open Go Go.Proofs TyTry Go.IntWalk
set_option linter.unusedSimpArgs false
set_option linter.unusedVariables false
set_option maxRecDepth 10000

theorem strat1_spec {oc : List Ob} (ho : okO oc = true) {i j k : Nat} {I : List Bool} {R : List Int} (hi : oc[i]? = some (.cells 1 [[.sl 1 (bools I)]])) (hj : oc[j]? = some (.cells 1 [[.sl 1 (ints R)]])) {x : Nat} (hk : oc[k]? = some (.cells 1 [[.i .i64 x]]))
    (y : Nat) {iv : Bool} {ry rx : Int} (hiv : I[y]? = some iv) (hry : R[y]? = some ry) (hrx : R[x]? = some rx) (hl : I.length ≤ 1099511627776) (hl2 : R.length ≤ 1099511627776) :
    ACallsQ Try.prog 55 [.i .i64 y, .ptr i 0 0, .ptr j 0 0, .ptr k 0 0] oc (.b (iv && decide (ry < rx))) := by
  have h1 := (List.getElem?_eq_some_iff.1 hiv).1
  have h2 := (List.getElem?_eq_some_iff.1 hry).1
  have h3 := (List.getElem?_eq_some_iff.1 hrx).1
  refine ACalls_of' (n := 21) (rs := [.tmp 5]) (show Try.prog.funcs[55]? = some Try.f55 by kernel_rfl) rfl rfl rfl (by simp) (by decide +kernel) ?_
  repeat (first | refine nav ?_ | refine bo ?_)
  (refine wr fun K R hK hR => ?_; simp (maxSteps := 10000000) only [go_sem]; (try go_ints); (repeat refine And.intro side ?_); (first | refine hK _ ?_ | refine hR _ _ ?_); clear hK hR K R)
  repeat (first | refine nav ?_ | refine bo ?_)
  (refine W_dreg (by decide +kernel) [] [0, 1, 2, 3, 4, 5, 6, 7, 8, 9, 10, 11, 12, 13, 14, 15] [[], [], [1, 0], [0, 1, 2], [2, 1, 0, 3], [3, 0, 1, 2, 4], [3, 0, 1, 2, 4], [6, 4, 2, 1, 0, 3, 5], [5, 3, 0, 1, 2, 4, 6, 7], [3, 0, 1, 2, 4], [3, 0, 1, 2, 4], [10, 4, 2, 1, 0, 3, 9], [9, 3, 0, 1, 2, 4, 10, 11], [11, 10, 9, 12, 7, 6, 4, 2, 1, 0, 3, 5, 8], [8, 5, 6, 7, 12, 9, 10, 11, 13, 3, 0, 1, 2, 4], [4, 2, 1, 0, 3, 13, 11, 10, 9, 12, 7, 6, 5, 8, 14]] (by decide +kernel) rfl fun K R hK hR => ?_; simp only [List.filterMap_cons, List.filterMap_nil, List.getElem?_cons_zero, List.getElem?_cons_succ, List.cons_append, List.nil_append]; simp (maxSteps := 10000000) only [go_sem, hi, hj, hk, bools_get hiv, ints_get hry, ints_get hrx]; (try go_ints); (try simp only [go_sem, hi, hj, hk, bools_get hiv, ints_get hry, ints_get hrx]); (repeat refine And.intro side ?_); (first | refine hK _ ?_ | refine hR _ _ ?_); clear hK hR K R)
  repeat (first | refine nav ?_ | refine bo ?_)
  refine endQ_quiet0 (by simp only [go_sem] <;> exact rfl) (Le.of_eq ?_) (by assumption) rfl
  rfl
def goodP (I : List Bool) (R : List Int) (x : Nat) (y : Int) : Bool := I.getD y.toNat false && decide (R.getD y.toNat 0 < R.getD x 0)
def stratX (next : List (List Int)) (all I : List Bool) (R : List Int) (x : Nat) : Int :=
  if (!(all.getD x false) && I.getD x false && (next.getD x []).any (goodP I R x)) = true then (next.getD x []).getD (idxI (goodP I R x) (next.getD x []) 0).toNat 0 else -1
def stratP (next : List (List Int)) (all I : List Bool) (R : List Int) (n k : Nat) : List Int := (List.range n).map fun x => if x < k then stratX next all I R x else 0
def stratL (next : List (List Int)) (all I : List Bool) (R : List Int) (n : Nat) : List Int := (List.range n).map (stratX next all I R)
def stratA (s : StrD) : AV :=
  if validF s = false then .tup [.sl 1 [], .i .i64 1] else if fitsF symG s = false then .tup [.sl 1 [], .i .i64 4] else
    if (wonF (fun _ _ => true) (graphD s).1 (graphD s).2 s.size.toNat).1.getD 0 false = false then .tup [.sl 1 [], .i .i64 6] else
      .tup [.sl 1 (ints (stratL (graphD s).1 (graphD s).2 (wonF (fun _ _ => true) (graphD s).1 (graphD s).2 s.size.toNat).1 (wonF (fun _ _ => true) (graphD s).1 (graphD s).2 s.size.toNat).2 s.size.toNat)), .i .i64 0]
section
variable {next : List (List Int)} {all I : List Bool} {R : List Int} {n : Nat}
theorem stratP_zero : stratP next all I R n 0 = List.replicate n 0 := by
  apply List.ext_getElem?
  intro i
  by_cases h : i < n <;> simp [stratP, h, List.getElem?_replicate]
theorem stratP_full : stratP next all I R n n = stratL next all I R n := by
  unfold stratP stratL
  refine List.map_congr_left fun x hx => ?_
  simp [List.mem_range.1 hx]
theorem stratP_len (k : Nat) : (stratP next all I R n k).length = n := by simp [stratP]
theorem stratP_set (k : Nat) (hk : k < n) : (stratP next all I R n k).set k (stratX next all I R k) = stratP next all I R n (k + 1) := by
  apply List.ext_getElem?
  intro i
  rw [List.getElem?_set]
  by_cases hi : i < n
  · by_cases e : k = i
    · subst e; simp [stratP, hi]
    · have : (i < k + 1) = (i < k) := by apply propext; omega
      simp [stratP, hi, e, this]
  · have : k ≠ i := by omega
    simp [stratP, hi, this]
end
theorem wonL_len2 (may : Nat → Nat → Bool) (next : List (List Int)) (all : List Bool) : ∀ (f : Nat) (d : Int) (i : List Bool) (r : List Int), r.length = i.length → (wonL may next all f d i r).2.length = i.length
  | 0, _, _, _, h => h
  | f + 1, d, i, r, h => by
    obtain ⟨h1, h2⟩ := step_len may next all i d r
    rw [wonL]
    split
    · rw [wonL_len2 may next all f _ _ _ (by rw [h1, h2]), h1]
    · exact h2
theorem wonF_len2 (may : Nat → Nat → Bool) (next : List (List Int)) (all : List Bool) (n : Nat) : (wonF may next all n).2.length = n := by
  rw [wonF, wonL_len2 may next all _ _ _ _ (by simp)]; simp
theorem graphR_strat (s : StrD) (code : Int) (g : GD) (hg : graphR s symG = .tup [.agg [.sl 1 (tups g.1), .sl 1 (bools g.2)], .i .i64 code]) (h : code ≠ 0) : stratA s = .tup [.sl 1 [], .i .i64 code] := by
  rw [stratA]
  rw [graphR] at hg
  by_cases hv : validF s = false
  · rw [if_pos hv] at hg ⊢
    simp only [AV.tup.injEq, List.cons.injEq, AV.i.injEq, true_and, and_true] at hg
    rw [hg.2]
  · rw [if_neg hv] at hg ⊢
    by_cases hf : fitsF symG s = false
    · rw [if_pos hf] at hg ⊢
      simp only [AV.tup.injEq, List.cons.injEq, AV.i.injEq, true_and, and_true] at hg
      rw [hg.2]
    · rw [if_neg hf] at hg
      simp only [AV.tup.injEq, List.cons.injEq, AV.i.injEq, true_and, and_true] at hg
      exact absurd hg.2.symm h
theorem strat_spec (s : StrD) (hs : s.Ok) (ht : tupN s.rels ≤ 1099511627776) :
    ACallsD Try.prog 28 [.agg [.i .i64 s.size, .sl 3 (rels s.rels)]] (stratA s) := by
  obtain ⟨g, code, hg, hc0, hc1⟩ := graphR_cases s
  have hG := graphOf_spec s hs symG (by decide)
  have hw1 := graphR_strat s code g hg
  rw [hg] at hG
  refine ACalls_of' (n := 74) (rs := [.tmp 2, .tmp 3]) (show Try.prog.funcs[28]? = some Try.f28 by kernel_rfl) rfl rfl rfl (by simp) (by decide +kernel) ?_
  repeat (first | refine nav ?_ | refine bo ?_)
  (refine wr fun K R hK hR => ?_; simp (maxSteps := 10000000) only [go_sem]; (try go_ints); (repeat refine And.intro side ?_); (first | refine hK _ ?_ | refine hR _ _ ?_); clear hK hR K R)
  repeat (first | refine nav ?_ | refine bo ?_)
  (refine W_dreg (by decide +kernel) [] [0, 1, 2, 3, 4, 5, 6, 7, 8, 9, 10] [[], [], [1], [2, 1], [1, 2, 3, 0], [0, 3, 2, 1, 4], [4, 1, 2, 3, 0, 5], [4, 1, 2, 3, 0, 5], [], [5, 0, 3, 2, 1, 4, 6, 8], [8, 6, 9, 5, 0, 3, 2, 1, 4, 7]] (by decide +kernel) rfl fun K R hK hR => ?_; simp only [List.filterMap_cons, List.filterMap_nil, List.getElem?_cons_zero, List.getElem?_cons_succ, List.cons_append, List.nil_append]; simp (maxSteps := 10000000) only [go_sem]; (try go_ints); (repeat refine And.intro side ?_); (first | refine hK _ ?_ | refine hR _ _ ?_); clear hK hR K R)
  refine D_callD (edges_spec) rfl rfl rfl (by first | (simp only [go_sem] <;> first | exact LeA.refl _ | exact Le.refl _) | exact LeA.refl _) rfl rfl rfl rfl ?_
  (refine D_reg fun K R hK hR => ?_; simp (maxSteps := 10000000) only [go_sem]; (try go_ints); (repeat refine And.intro side ?_); (first | refine hK _ ?_ | refine hR _ _ ?_); clear hK hR K R)
  refine D_callD (universal_spec) rfl rfl rfl (by first | (simp only [go_sem] <;> first | exact LeA.refl _ | exact Le.refl _) | exact LeA.refl _) rfl rfl rfl rfl ?_
  (refine D_reg fun K R hK hR => ?_; simp (maxSteps := 10000000) only [go_sem]; (try go_ints); (repeat refine And.intro side ?_); (first | refine hK _ ?_ | refine hR _ _ ?_); clear hK hR K R)
  refine D_callD (hG) rfl rfl rfl (by first | (simp only [go_sem] <;> first | exact LeA.refl _ | exact Le.refl _) | exact LeA.refl _) rfl rfl rfl rfl ?_
  (refine D_reg fun K R hK hR => ?_; simp (maxSteps := 10000000) only [go_sem]; (try go_ints); (repeat refine And.intro side ?_); (first | refine hK _ ?_ | refine hR _ _ ?_); clear hK hR K R)
  repeat (first | refine nav ?_ | refine bo ?_)
  (refine wr fun K R hK hR => ?_; simp (maxSteps := 10000000) only [go_sem]; (try go_ints); (repeat refine And.intro side ?_); (first | refine hK _ ?_ | refine hR _ _ ?_); clear hK hR K R)
  repeat (first | refine nav ?_ | refine bo ?_)
  refine W_cond (by simp only [go_sem] <;> exact rfl) (fun hb => ?_) (fun hb => ?_)
  · have hb : code ≠ 0 := by simpa using hb
    rw [hw1 hb]
    repeat (first | refine nav ?_ | refine bo ?_)
    (refine wr fun K R hK hR => ?_; simp (maxSteps := 10000000) only [go_sem]; (try go_ints); (repeat refine And.intro side ?_); (first | refine hK _ ?_ | refine hR _ _ ?_); clear hK hR K R)
    repeat (first | refine nav ?_ | refine bo ?_)
    refine endQ_data (by simp only [go_sem] <;> exact rfl) (Le.of_eq ?_) rfl
    rfl
  · have hb : code = 0 := by simpa using hb
    obtain ⟨hv, hf, rfl⟩ := hc0 hb
    subst hb
    clear hc0 hc1 hw1
    obtain ⟨z1, z2, z3⟩ := valid_size hv
    obtain ⟨n, hn⟩ := Int.eq_ofNat_of_zero_le (show 0 ≤ s.size by omega)
    have hg := graphD_ok hv
    have hnn : s.size.toNat = n := by omega
    rw [hnn] at hg
    rw [stratA, if_neg (by simp [hv]), if_neg (by simp [hf]), hnn]
    have hWn := won_spec (oc := [.cells 2 [[.i .i64 s.size, .sl 3 (rels s.rels)]], .cells 2 [[.sl 1 (tups (graphD s).1), .sl 1 (bools (graphD s).2)]]]) rfl (graphD s).1 (graphD s).2 n (by omega) (by omega) hg.l1 hg.l2
      (fun l hl => ⟨by have := (hg.el l hl).1; omega, (hg.el l hl).2⟩) (fm := 54) (capsm := []) rfl rfl (fun _ _ => true) fun oc' hp hok x y hx hy => always_spec hok _ _
    have hIl := wonF_len (fun _ _ => true) (graphD s).1 (graphD s).2 n
    have hRl := wonF_len2 (fun _ _ => true) (graphD s).1 (graphD s).2 n
    generalize wonF (fun _ _ => true) (graphD s).1 (graphD s).2 n = IR at hWn hIl hRl ⊢
    obtain ⟨I, R⟩ := IR
    simp only at hWn hIl hRl ⊢
    generalize graphD s = gg at hg hWn ⊢
    obtain ⟨next, all⟩ := gg
    have hnl := hg.l1
    have hal := hg.l2
    have hge1 : ∀ l ∈ next, l.length ≤ 1099511627776 := fun l hl => by have := (hg.el l hl).1; omega
    have hge2 : ∀ l ∈ next, ∀ y ∈ l, 0 ≤ y ∧ y < (n : Int) := fun l hl => (hg.el l hl).2
    simp only at hWn hnl hal ⊢
    clear hg
    obtain ⟨b0, hb0⟩ : ∃ b, I[0]? = some b := ⟨_, List.getElem?_eq_getElem (by omega)⟩
    repeat (first | refine nav ?_ | refine bo ?_)
    (refine wr fun K R hK hR => ?_; simp (maxSteps := 10000000) only [go_sem]; (try go_ints); (repeat refine And.intro side ?_); (first | refine hK _ ?_ | refine hR _ _ ?_); clear hK hR K R)
    refine RL_callQ hWn (by simp only [go_sem] <;> exact rfl) rfl rfl (by simp) (by simp only [go_sem] <;> exact LeA.refl _) rfl rfl rfl ?_
    (refine rr fun K R hK hR => ?_; simp (maxSteps := 10000000) only [go_sem, List.modify_zero_cons, List.set_cons_zero]; (try go_ints); (try simp only [go_sem, List.modify_zero_cons, List.set_cons_zero]); (repeat refine And.intro side ?_); (first | refine hK _ ?_ | refine hR _ _ ?_); clear hK hR K R)
    repeat (first | refine nav ?_ | refine bo ?_)
    (refine wr fun K R hK hR => ?_; simp (maxSteps := 10000000) only [go_sem, bools_get hb0, hIl]; (try go_ints); (try simp only [go_sem, bools_get hb0, hIl]); (repeat refine And.intro side ?_); (first | refine hK _ ?_ | refine hR _ _ ?_); clear hK hR K R)
    repeat (first | refine nav ?_ | refine bo ?_)
    rw [show I.getD 0 false = b0 by simp [hb0]]
    cases b0 with
    | false =>
      refine W_cond (b := true) (by simp only [go_sem]) (fun _ => ?_) (fun hb => by cases hb)
      repeat (first | refine nav ?_ | refine bo ?_)
      (refine wr fun K R hK hR => ?_; simp (maxSteps := 10000000) only [go_sem]; (try go_ints); (repeat refine And.intro side ?_); (first | refine hK _ ?_ | refine hR _ _ ?_); clear hK hR K R)
      repeat (first | refine nav ?_ | refine bo ?_)
      refine endQ_data (by simp only [go_sem] <;> exact rfl) (Le.of_eq ?_) rfl
      rfl
    | true =>
      refine W_cond (b := false) (by simp only [go_sem]) (fun hb => by cases hb) (fun _ => ?_)
      simp only [Bool.true_eq_false, if_false]
      repeat (first | refine nav ?_ | refine bo ?_)
      (refine wr fun K R hK hR => ?_; simp (maxSteps := 10000000) only [go_sem, hn]; (try go_ints); (try simp only [go_sem, hn]); (repeat refine And.intro side ?_); (first | refine hK _ ?_ | refine hR _ _ ?_); clear hK hR K R)
      repeat (first | refine nav ?_ | refine bo ?_)
      (refine wr fun K R hK hR => ?_; simp (maxSteps := 10000000) only [go_sem, hnl]; (try go_ints); (try simp only [go_sem, hnl]); (repeat refine And.intro side ?_); (first | refine hK _ ?_ | refine hR _ _ ?_); clear hK hR K R)
      repeat (first | refine nav ?_ | refine bo ?_)
      have hi0 : List.replicate n [AV.i .i64 0] = ints (stratP next all I R n 0) := by rw [stratP_zero]; simp [ints]
      simp only [hi0]
      refine W_for 38 74 [9, 10, 11] (fun m t o => ∃ x : Nat, okO o = true ∧ o[1]? = some (.cells 2 [[.sl 1 (tups next), .sl 1 (bools all)]]) ∧ o[2]? = some (.cells 1 [[.sl 1 (bools I)]]) ∧ o[3]? = some (.cells 1 [[.sl 1 (ints R)]]) ∧ o[4]? = some (.cells 1 (ints (stratP next all I R n x))) ∧
        t 38 = .i .i64 x ∧ m = n - x ∧ x ≤ n) n ⟨0, by simp [okO, Ob.ltk, AV.ltk, ints], rfl, rfl, rfl, rfl, by simp only [go_sem] <;> rfl, by omega, Nat.zero_le _⟩ ?_
      rintro m t o ⟨x, hok, o1, o2, o3, o4, h38, rfl, hx⟩
      repeat (first | refine nav ?_ | refine bo ?_)
      (refine wr fun K R hK hR => ?_; simp (maxSteps := 10000000) only [go_sem, h38]; (try go_ints); (try simp only [go_sem, h38]); (repeat refine And.intro side ?_); (first | refine hK _ ?_ | refine hR _ _ ?_); clear hK hR K R)
      repeat (first | refine nav ?_ | refine bo ?_)
      refine W_cond (by simp only [go_sem] <;> exact rfl) (fun hb => ?_) (fun hb => ?_)
      · simp at hb
        obtain ⟨l, hl⟩ : ∃ r, next[x]? = some r := ⟨_, List.getElem?_eq_getElem (by omega)⟩
        have hll := hge1 l (List.mem_of_getElem? hl)
        have hlm := hge2 l (List.mem_of_getElem? hl)
        have hl0 : next.getD x [] = l := by simp [hl]
        obtain ⟨av, hav⟩ : ∃ b, all[x]? = some b := ⟨_, List.getElem?_eq_getElem (by omega)⟩
        obtain ⟨iv, hiv⟩ : ∃ b, I[x]? = some b := ⟨_, List.getElem?_eq_getElem (by omega)⟩
        obtain ⟨rv, hrv⟩ : ∃ b, R[x]? = some b := ⟨_, List.getElem?_eq_getElem (by omega)⟩
        obtain ⟨pv, hpv⟩ : ∃ b, (stratP next all I R n x)[x]? = some b := ⟨_, List.getElem?_eq_getElem (by rw [stratP_len]; omega)⟩
        have hol := (List.getElem?_eq_some_iff.1 o4).1
        have hpl := stratP_len (next := next) (all := all) (I := I) (R := R) (n := n) x
        have hany := idxI_any (goodP I R x) l 0 (by omega)
        have hset := stratP_set (next := next) (all := all) (I := I) (R := R) (n := n) x hb
        rw [stratX, hl0, show all.getD x false = av by simp [hav], show I.getD x false = iv by simp [hiv]] at hset
        generalize stratP next all I R n x = pp at o4 hpv hpl hset
        repeat (first | refine nav ?_ | refine bo ?_)
        (refine wr fun K R hK hR => ?_; simp (maxSteps := 10000000) only [go_sem, h38, tups_get hl, hnl, List.modify_zero_cons, List.set_cons_zero]; (try go_ints); (try simp only [go_sem, h38, tups_get hl, hnl, List.modify_zero_cons, List.set_cons_zero]); (repeat refine And.intro side ?_); (first | refine hK _ ?_ | refine hR _ _ ?_); clear hK hR K R)
        repeat (first | refine nav ?_ | refine bo ?_)
        have hne4 : o.length ≠ 4 := by omega
        have q1 := app_get [Ob.cells 1 [[.i .i64 x]]] o1
        have q2 := app_get [Ob.cells 1 [[.i .i64 x]]] o2
        have q3 := app_get [Ob.cells 1 [[.i .i64 x]]] o3
        have q4 := app_get [Ob.cells 1 [[.i .i64 x]]] o4
        have qx : (o ++ [Ob.cells 1 [[.i .i64 x]]])[o.length]? = some (.cells 1 [[.i .i64 x]]) := by simp
        have hok3 : okO (o ++ [Ob.cells 1 [[.i .i64 x]]]) = true := okO_app hok (by simp [Ob.ltk, AV.ltk])
        have hlen3 : (o ++ [Ob.cells 1 [[.i .i64 x]]]).length = o.length + 1 := by simp
        generalize hoo : o ++ [Ob.cells 1 [[.i .i64 x]]] = oo at q1 q2 q3 q4 qx hok3 hlen3 ⊢
        (refine wr fun K R hK hR => ?_; simp (maxSteps := 10000000) only [go_sem, qx, q4, ints_get hpv, hpl, ints_set]; (try go_ints); (try simp only [go_sem, qx, q4, ints_get hpv, hpl, ints_set]); (repeat refine And.intro side ?_); (first | refine hK _ ?_ | refine hR _ _ ?_); clear hK hR K R)
        repeat (first | refine nav ?_ | refine bo ?_)
        have hs4 : ∀ (X : Ob) (j : Nat), (oo.set 4 X)[j]? = if j = 4 then some X else oo[j]? := fun X j => set_get q4
        have r1 : (oo.set 4 (.cells 1 (ints (pp.set x (-1)))))[1]? = _ := (hs4 _ 1).trans (by rw [if_neg (by omega), q1])
        have r2 : (oo.set 4 (.cells 1 (ints (pp.set x (-1)))))[2]? = _ := (hs4 _ 2).trans (by rw [if_neg (by omega), q2])
        have r3 : (oo.set 4 (.cells 1 (ints (pp.set x (-1)))))[3]? = _ := (hs4 _ 3).trans (by rw [if_neg (by omega), q3])
        have r4 : (oo.set 4 (.cells 1 (ints (pp.set x (-1)))))[4]? = _ := (hs4 _ 4).trans (by rw [if_pos rfl])
        have rx : (oo.set 4 (.cells 1 (ints (pp.set x (-1)))))[o.length]? = _ := (hs4 _ _).trans (by rw [if_neg (by omega), qx])
        have hok4 : okO (oo.set 4 (.cells 1 (ints (pp.set x (-1))))) = true := okO_set hok3 (ints_ltk _ _)
        have hlen4 : (oo.set 4 (.cells 1 (ints (pp.set x (-1))))).length = o.length + 1 := by rw [List.length_set, hlen3]
        generalize oo.set 4 (.cells 1 (ints (pp.set x (-1)))) = ow at r1 r2 r3 r4 rx hok4 hlen4 ⊢
        have hspec := indexInt_spec (oc := ow) (f := 55) (caps := [.ptr 2 0 0, .ptr 3 0 0, .ptr o.length 0 0]) hok4 (by simp [AV.ltk]; omega) rfl (goodP I R x) l hll (fun y hy => by
          obtain ⟨y0, y1⟩ := hlm y hy
          obtain ⟨y, rfl⟩ := Int.eq_ofNat_of_zero_le y0
          obtain ⟨u, hu⟩ : ∃ u, I[y]? = some u := ⟨_, List.getElem?_eq_getElem (by omega)⟩
          obtain ⟨w, hw⟩ : ∃ u, R[y]? = some u := ⟨_, List.getElem?_eq_getElem (by omega)⟩
          have e : goodP I R x (y : Int) = (u && decide (w < rv)) := by simp [goodP, hu, hw, hrv]
          rw [e]
          exact strat1_spec hok4 r2 r3 rx y hu hw hrv (by omega) (by omega))
        generalize hid : idxI (goodP I R x) l 0 = id at hany hspec hset
        (refine wr fun K R hK hR => ?_; simp (maxSteps := 10000000) only [go_sem]; (try go_ints); (repeat refine And.intro side ?_); (first | refine hK _ ?_ | refine hR _ _ ?_); clear hK hR K R)
        refine RL_callQ hspec (by simp only [go_sem] <;> exact rfl) rfl rfl (by simp) (by simp only [go_sem] <;> exact LeA.refl _) hok4 (by simp [AV.ltk, AV.ltks]; omega) rfl ?_
        (refine rr fun K R hK hR => ?_; simp (maxSteps := 10000000) only [go_sem]; (try go_ints); (repeat refine And.intro side ?_); (first | refine hK _ ?_ | refine hR _ _ ?_); clear hK hR K R)
        repeat (first | refine nav ?_ | refine bo ?_)
        (refine wr fun K R hK hR => ?_; simp (maxSteps := 10000000) only [go_sem, r1, rx, r2, bools_get hav, bools_get hiv, hal, hIl]; (try go_ints); (try simp only [go_sem, r1, rx, r2, bools_get hav, bools_get hiv, hal, hIl]); (repeat refine And.intro side ?_); (first | refine hK _ ?_ | refine hR _ _ ?_); clear hK hR K R)
        repeat (first | refine nav ?_ | refine bo ?_)
        have hplen : (pp.set x (-1)).length = n := by rw [List.length_set, hpl]
        have hpx : (pp.set x (-1))[x]? = some (-1) := by rw [List.getElem?_set, if_pos rfl, if_pos (by omega)]
        refine W_cond (by simp only [go_sem] <;> exact rfl) (fun hc => ?_) (fun hc => ?_)
        · have hc : (!av && iv && decide (id ≥ 0)) = true := hc
          have hid0 : id ≥ 0 := by
            simp only [Bool.and_eq_true, decide_eq_true_eq] at hc
            exact hc.2
          obtain ⟨j, rfl⟩ := Int.eq_ofNat_of_zero_le hid0
          obtain ⟨_, z, hz, _⟩ := idxI_get (goodP I R x) l 0 j hid
          rw [Nat.sub_zero] at hz
          have hzl := (List.getElem?_eq_some_iff.1 hz).1
          rw [← hany, if_pos hc, Int.toNat_natCast, show l.getD j 0 = z by simp [hz]] at hset
          have hs5 : ∀ (X : Ob) (j : Nat), (ow.set 4 X)[j]? = if j = 4 then some X else ow[j]? := fun X j => set_get r4
          repeat (first | refine nav ?_ | refine bo ?_)
          (refine W_dreg (by decide +kernel) [] [0, 1, 2, 3, 4, 5, 6, 7] [[], [], [], [], [3, 2], [2, 3, 4], [5, 4, 3, 2, 1, 0], [0, 1, 2, 3, 4, 5, 6]] (by decide +kernel) rfl fun K R hK hR => ?_; simp only [List.filterMap_cons, List.filterMap_nil, List.getElem?_cons_zero, List.getElem?_cons_succ, List.cons_append, List.nil_append]; simp (maxSteps := 10000000) only [go_sem, rx, ints_get hz, r4, ints_get hpx, hplen, ints_set, List.set_set, hset]; (try go_ints); (try simp only [go_sem, rx, ints_get hz, r4, ints_get hpx, hplen, ints_set, List.set_set, hset]); (repeat refine And.intro side ?_); (first | refine hK _ ?_ | refine hR _ _ ?_); clear hK hR K R)
          repeat (first | refine nav ?_ | refine bo ?_)
          (refine wr fun K R hK hR => ?_; simp (maxSteps := 10000000) only [go_sem, h38]; (try go_ints); (try simp only [go_sem, h38]); (repeat refine And.intro side ?_); (first | refine hK _ ?_ | refine hR _ _ ?_); clear hK hR K R)
          refine forQ_normal (n - (x + 1)) (by omega) ⟨x + 1, okO_set hok4 (ints_ltk _ _), ?_⟩
          ((try simp only [go_sem, hs5, r1, r2, r3]); (repeat' refine And.intro ?_ ?_) <;> (try first | with_reducible rfl | omega | with_reducible assumption | (simp; done)))
        · have hc : (!av && iv && decide (id ≥ 0)) = false := hc
          rw [← hany, if_neg (by rw [hc]; simp)] at hset
          rw [hset] at r4
          repeat (first | refine nav ?_ | refine bo ?_)
          (refine wr fun K R hK hR => ?_; simp (maxSteps := 10000000) only [go_sem, h38]; (try go_ints); (try simp only [go_sem, h38]); (repeat refine And.intro side ?_); (first | refine hK _ ?_ | refine hR _ _ ?_); clear hK hR K R)
          refine forQ_normal (n - (x + 1)) (by omega) ⟨x + 1, hok4, r1, r2, r3, r4, ?_⟩
          ((try simp only [go_sem]); (repeat' refine And.intro ?_ ?_) <;> (try first | with_reducible rfl | omega | with_reducible assumption | (simp; done)))
      · simp at hb
        obtain rfl : n = x := by omega
        rw [stratP_full] at o4
        have hLl : (ints (stratL next all I R n)).length = n := by simp [ints, stratL]
        generalize stratL next all I R n = L at o4 hLl ⊢
        repeat (first | refine nav ?_ | refine bo ?_)
        (refine wr fun K R hK hR => ?_; simp (maxSteps := 10000000) only [go_sem]; (try go_ints); (repeat refine And.intro side ?_); (first | refine hK _ ?_ | refine hR _ _ ?_); clear hK hR K R)
        refine seqQ_normal ?_
        refine W_freeze 4 (sz := 1) (rows := ints L) (by exact o4) (by simp [ints, AV.dat, AV.ltk, AV.plain]) ?_
        have htk : List.take n (ints L) = ints L := List.take_of_length_le (by omega)
        have hd0 : (ints L).map (fun r => r.map AV.dat) = ints L := by simp [ints, Function.comp_def, AV.dat]
        repeat (first | refine nav ?_ | refine bo ?_)
        refine endQ_data (by simp [resAV, resL, res1, frS, AV.unref, upd, mix_at, inL, hLl, htk, hd0, ung, AV.dat] <;> exact rfl) (Le.of_eq ?_) rfl
        rfl
end Go.AW
/-
Plain law: the graph's rows are the edges.
-/
namespace Go.AW
open Go Go.Proofs TyTry Go.IntWalk
set_option linter.unusedSimpArgs false
set_option linter.unusedVariables false

/-- What a list of tuples adds to the rows of a graph, where their relation is E. -/
theorem gT_E {r : RelD} (hE : isE r = true) (g : GD) (t : List Int) : gT r g t = (g.1.modify (t.getD 0 0).toNat (· ++ [t.getD 1 0]), g.2) := by
  simp [gT, hE]
theorem gT_noE {r : RelD} (hE : isE r = false) (g : GD) (t : List Int) : (gT r g t).1 = g.1 := by
  unfold gT
  rw [if_neg (by simp [hE])]
  split <;> rfl
theorem gTs_noE {r : RelD} (hE : isE r = false) : ∀ (ts : List (List Int)) (g : GD), (ts.foldl (gT r) g).1 = g.1
  | [], _ => rfl
  | t :: ts, g => by rw [List.foldl_cons, gTs_noE hE ts, gT_noE hE]
/-- Rows after the tuples of E: what there was, and the second places of the tuples that begin so. -/
theorem gTs_E {r : RelD} (hE : isE r = true) : ∀ (ts : List (List Int)) (g : GD) (x : Nat), x < g.1.length →
    (ts.foldl (gT r) g).1.getD x [] = g.1.getD x [] ++ (ts.filter fun t => (t.getD 0 0).toNat == x).map fun t => t.getD 1 0
  | [], g, x, hx => by simp
  | t :: ts, g, x, hx => by
    have hl : x < (gT r g t).1.length := by rw [(gT_len r g t).1]; exact hx
    rw [List.foldl_cons, gTs_E hE ts (gT r g t) x hl, gT_E hE]
    simp only [List.filter_cons]
    by_cases h : (t.getD 0 0).toNat = x
    · rw [if_pos (by simpa using h), List.map_cons]
      have : (g.1.modify (t.getD 0 0).toNat (· ++ [t.getD 1 0])).getD x [] = g.1.getD x [] ++ [t.getD 1 0] := by
        rw [List.getD_eq_getElem?_getD, List.getElem?_modify, List.getD_eq_getElem?_getD, List.getElem?_eq_getElem hx]
        rw [List.getD_eq_getElem?_getD] at h
        simp [h, List.getElem?_eq_getElem hx]
      rw [this, List.append_assoc]; rfl
    · rw [if_neg (by simpa using h)]
      have : (g.1.modify (t.getD 0 0).toNat (· ++ [t.getD 1 0])).getD x [] = g.1.getD x [] := by
        rw [List.getD_eq_getElem?_getD, List.getElem?_modify, List.getD_eq_getElem?_getD, List.getElem?_eq_getElem hx]
        rw [List.getD_eq_getElem?_getD] at h
        simp [h, List.getElem?_eq_getElem hx]
      rw [this]
theorem gRs_noE : ∀ (rs : List RelD) (g : GD), (∀ r ∈ rs, isE r = false) → (rs.foldl gR g).1 = g.1
  | [], _, _ => rfl
  | r :: rs, g, h => by
    rw [List.foldl_cons, gRs_noE rs (gR g r) fun q hq => h q (by simp [hq])]
    exact gTs_noE (h r (by simp)) r.tuples g
theorem gR_len (g : GD) (r : RelD) : (gR g r).1.length = g.1.length := by
  have : ∀ (ts : List (List Int)) (g : GD), (ts.foldl (gT r) g).1.length = g.1.length := by
    intro ts
    induction ts with
    | nil => intro g; rfl
    | cons t ts ih => intro g; rw [List.foldl_cons, ih, (gT_len r g t).1]
  exact this r.tuples g
/-- Where one relation is E, the rows are its tuples' second places. -/
theorem gRs_E : ∀ (rs : List RelD) (g : GD) (j : Nat) (q : RelD), rs[j]? = some q → isE q = true → (∀ (i : Nat) r, rs[i]? = some r → i ≠ j → isE r = false) → ∀ x : Nat, x < g.1.length →
    (rs.foldl gR g).1.getD x [] = g.1.getD x [] ++ (q.tuples.filter fun t => (t.getD 0 0).toNat == x).map fun t => t.getD 1 0
  | [], _, j, q, h, _, _, _, _ => by simp at h
  | r :: rs, g, 0, q, h, hE, hno, x, hx => by
    simp only [List.getElem?_cons_zero, Option.some.injEq] at h
    subst h
    rw [List.foldl_cons, gRs_noE rs (gR g r) fun p hp => by
      obtain ⟨i, hi⟩ := List.getElem?_of_mem hp
      exact hno (i + 1) p (by simpa using hi) (by omega)]
    exact gTs_E hE r.tuples g x hx
  | r :: rs, g, j + 1, q, h, hE, hno, x, hx => by
    have hr : isE r = false := hno 0 r rfl (by omega)
    rw [List.foldl_cons, gRs_E rs (gR g r) j q (by simpa using h) hE (fun i p hi hne => hno (i + 1) p (by simpa using hi) (by omega)) x (by rw [gR_len]; exact hx)]
    rw [show (gR g r).1 = g.1 from gTs_noE hr r.tuples g]
theorem names_uniq {s : StrD} (hv : validF s = true) : ∀ (i j : Nat) (p q : RelD), i < j → s.rels[i]? = some p → s.rels[j]? = some q → (p.name.toList == q.name.toList) = false := by
  intro i j p q hij hp hq
  simp only [validF, Bool.and_eq_true, List.all_eq_true, List.mem_range] at hv
  have h1 := hv.2 j (List.getElem?_eq_some_iff.1 hq).1
  rw [hq] at h1
  simp only [Bool.and_eq_true, Bool.not_eq_true', List.any_eq_false] at h1
  have := h1.2 p (List.mem_of_getElem? (i := i) (by rw [List.getElem?_take, if_pos hij]; exact hp))
  simpa using this
/-- A row of the graph: the second places of the tuples of E that begin so. -/
theorem nextE {s : StrD} (hv : validF s = true) (hf : fitsR symsE s = true) (x : Nat) (hx : x < s.size.toNat) :
    (graphD s).1.getD x [] = ((tupsOf s ⟨#[69]⟩).filter fun t => (t.getD 0 0).toNat == x).map fun t => t.getD 1 0 := by
  obtain ⟨j, q, e1, e2, e3, e4, e5⟩ := fitsR_one hf
  simp only at e1 e3 e4 e5
  have hE : isE q = true := by
    rw [isE, e3, e4]; rfl
  rw [e5, graphD, gRs_E s.rels _ j q e2 hE (fun i r hi hne => ?_) x (by simpa using hx)]
  · have : (List.replicate s.size.toNat ([] : List Int)).getD x [] = [] := by
      rw [List.getD_eq_getElem?_getD, List.getElem?_replicate]
      split <;> rfl
    rw [this, List.nil_append]
  · cases hr : isE r with
    | false => rfl
    | true =>
      exfalso
      rw [isE, Bool.and_eq_true] at hr
      have hn1 : r.name.toList = (⟨#[69]⟩ : ByteArray).toList := by simpa using hr.1
      have hn2 : q.name.toList = (⟨#[69]⟩ : ByteArray).toList := by simpa using e3
      rcases Nat.lt_or_gt_of_ne hne with h | h
      · have := names_uniq hv i j r q h hi e2
        rw [hn1, hn2] at this
        simp at this
      · have := names_uniq hv j i q r h e2 hi
        rw [hn1, hn2] at this
        simp at this
/-- The tuples of E: pairs of places. -/
theorem tupsE {s : StrD} (hv : validF s = true) (hf : fitsR symsE s = true) : ∀ t ∈ tupsOf s ⟨#[69]⟩, ∃ x y : Nat, t = [(x : Int), (y : Int)] ∧ x < s.size.toNat ∧ y < s.size.toNat := by
  obtain ⟨j, q, e1, e2, e3, e4, e5⟩ := fitsR_one hf
  simp only at e4 e5
  rw [e5]
  intro t ht
  obtain ⟨h1, h2⟩ := valid_tuple hv (List.mem_of_getElem? e2) ht
  rw [e4] at h1
  match t, h1 with
  | [a, b], _ =>
    obtain ⟨a0, a1⟩ := h2 a (by simp)
    obtain ⟨b0, b1⟩ := h2 b (by simp)
    obtain ⟨a, rfl⟩ := Int.eq_ofNat_of_zero_le a0
    obtain ⟨b, rfl⟩ := Int.eq_ofNat_of_zero_le b0
    exact ⟨a, b, rfl, by omega, by omega⟩
  | [], h => simp at h
  | [_], h => simp at h
  | _ :: _ :: _ :: _, h => simp at h; omega
theorem row_mem {s : StrD} (hv : validF s = true) (hf : fitsR symsE s = true) (x : Nat) (hx : x < s.size.toNat) (y : Int) :
    y ∈ (graphD s).1.getD x [] ↔ [(x : Int), y] ∈ tupsOf s ⟨#[69]⟩ := by
  rw [nextE hv hf x hx, List.mem_map]
  constructor
  · rintro ⟨t, ht, rfl⟩
    rw [List.mem_filter] at ht
    obtain ⟨a, b, rfl, _, _⟩ := tupsE hv hf t ht.1
    have : a = x := by simpa using ht.2
    subst this
    exact ht.1
  · intro h
    exact ⟨_, List.mem_filter.2 ⟨h, by simp⟩, rfl⟩
/-- y is led to from x just where the matrix says so. -/
theorem row_eB {s : StrD} (hv : validF s = true) (hf : fitsR symsE s = true) (x y : Nat) (hx : x < s.size.toNat) : ((y : Int) ∈ (graphD s).1.getD x []) ↔ eB s x y = true := by
  rw [row_mem hv hf x hx, eB, decide_eq_true_eq]
def lexR (t u : List Int) : Prop := t.getD 0 0 < u.getD 0 0 ∨ (t.getD 0 0 = u.getD 0 0 ∧ t.getD 1 0 < u.getD 1 0)
theorem lexR_trans {a b c : List Int} (h : lexR a b) (k : lexR b c) : lexR a c := by
  unfold lexR at *
  omega
theorem cmp_lex {a b c d : Int} (h : cmpL [a, b] [c, d] < 0) : lexR [a, b] [c, d] := by
  simp only [cmpL, cmpF] at h
  simp only [lexR, List.getD_cons_zero, List.getD_cons_succ]
  by_cases h1 : a < c
  · exact .inl h1
  · by_cases h2 : a = c
    · subst h2
      simp at h
      right
      refine ⟨rfl, ?_⟩
      by_cases h3 : b < d
      · exact h3
      · exfalso
        by_cases h4 : b = d
        · simp [h4] at h
        · simp [h3, h4] at h; omega
    · exfalso
      simp [h1, h2] at h
      omega
theorem tups_sorted {s : StrD} (hv : validF s = true) (hf : fitsR symsE s = true) : (tupsOf s ⟨#[69]⟩).Pairwise lexR := by
  have hpair := tupsE hv hf
  obtain ⟨j, q, e1, e2, e3, e4, e5⟩ := fitsR_one hf
  simp only at e5
  rw [e5] at hpair ⊢
  have hadj : ∀ (i : Nat) (t u : List Int), q.tuples[i]? = some t → q.tuples[i + 1]? = some u → lexR t u := by
    intro i t u ht hu
    have hv' := hv
    simp only [validF, Bool.and_eq_true, List.all_eq_true, List.mem_range] at hv'
    have h1 := hv'.2 j (List.getElem?_eq_some_iff.1 e2).1
    rw [e2] at h1
    simp only [Bool.and_eq_true, relOk, tuplesF, List.all_eq_true, List.mem_range] at h1
    have h2 := h1.1.2 (i + 1) (List.getElem?_eq_some_iff.1 hu).1
    simp only [tupOk, List.getD_eq_getElem?_getD, Nat.add_sub_cancel, ht, hu, Option.getD_some, Bool.and_eq_true, Bool.or_eq_true, decide_eq_true_eq] at h2
    obtain ⟨a, b, rfl, _, _⟩ := hpair t (List.mem_of_getElem? ht)
    obtain ⟨c, d, rfl, _, _⟩ := hpair u (List.mem_of_getElem? hu)
    rcases h2.2 with h | h
    · omega
    · exact cmp_lex h
  rw [List.pairwise_iff_getElem]
  have key : ∀ (k i : Nat) (t u : List Int), q.tuples[i]? = some t → q.tuples[i + k + 1]? = some u → lexR t u := by
    intro k
    induction k with
    | zero => intro i t u ht hu; exact hadj i t u ht hu
    | succ k ih =>
      intro i t u ht hu
      have hlt := (List.getElem?_eq_some_iff.1 hu).1
      obtain ⟨w, hw⟩ : ∃ w, q.tuples[i + k + 1]? = some w := ⟨_, List.getElem?_eq_getElem (by omega)⟩
      exact lexR_trans (ih i t w ht hw) (hadj (i + k + 1) w u hw hu)
  intro i j hi hj hij
  exact key (j - i - 1) i _ _ (List.getElem?_eq_getElem hi) (by rw [show i + (j - i - 1) + 1 = j by omega]; exact List.getElem?_eq_getElem hj)
/-- A row rises. -/
theorem row_sorted {s : StrD} (hv : validF s = true) (hf : fitsR symsE s = true) (x : Nat) (hx : x < s.size.toNat) : ((graphD s).1.getD x []).Pairwise (· < ·) := by
  rw [nextE hv hf x hx, List.pairwise_map]
  refine List.Pairwise.imp_of_mem ?_ ((tups_sorted hv hf).filter _)
  intro t u ht hu h
  rw [List.mem_filter] at ht hu
  obtain ⟨a, b, rfl, _, _⟩ := tupsE hv hf t ht.1
  obtain ⟨c, d, rfl, _, _⟩ := tupsE hv hf u hu.1
  have h1 : a = x := by simpa using ht.2
  have h2 : c = x := by simpa using hu.2
  subst h1 h2
  simp only [lexR, List.getD_cons_zero, List.getD_cons_succ] at h ⊢
  omega
/-- Two rising lists of the same members are one. -/
theorem sorted_ext : ∀ {a b : List Int}, a.Pairwise (· < ·) → b.Pairwise (· < ·) → (∀ y, y ∈ a ↔ y ∈ b) → a = b
  | [], [], _, _, _ => rfl
  | [], y :: b, _, _, h => by have := (h y).2 (by simp); simp at this
  | x :: a, [], _, _, h => by have := (h x).1 (by simp); simp at this
  | x :: a, y :: b, ha, hb, h => by
    rw [List.pairwise_cons] at ha hb
    have hxy : x = y := by
      have h1 := (h x).1 (by simp)
      have h2 := (h y).2 (by simp)
      rcases List.mem_cons.1 h1 with e | e
      · exact e
      · rcases List.mem_cons.1 h2 with e' | e'
        · exact e'.symm
        · have := ha.1 y e'
          have := hb.1 x e
          omega
    subst hxy
    congr 1
    refine sorted_ext ha.2 hb.2 fun z => ?_
    have := h z
    simp only [List.mem_cons] at this
    constructor
    · intro hz
      rcases this.1 (.inr hz) with e | e
      · subst e; exact absurd (ha.1 z hz) (by omega)
      · exact e
    · intro hz
      rcases this.2 (.inr hz) with e | e
      · subst e; exact absurd (hb.1 z hz) (by omega)
      · exact e
/-- A row, by the matrix. -/
theorem row_eq {s : StrD} (hv : validF s = true) (hf : fitsR symsE s = true) (x : Nat) (hx : x < s.size.toNat) :
    (graphD s).1.getD x [] = ((List.range s.size.toNat).filter fun y => eB s x y).map fun y : Nat => (y : Int) := by
  refine sorted_ext (row_sorted hv hf x hx) ?_ fun y => ?_
  · rw [List.pairwise_map]
    refine List.Pairwise.imp ?_ ((List.pairwise_lt_range).filter _)
    intro a b h
    exact_mod_cast h
  · rw [List.mem_map]
    constructor
    · intro h
      rw [row_mem hv hf x hx] at h
      obtain ⟨a, b, e, ha, hb⟩ := tupsE hv hf _ h
      simp only [List.cons.injEq, and_true] at e
      obtain ⟨_, rfl⟩ := e
      exact ⟨b, List.mem_filter.2 ⟨List.mem_range.2 hb, decide_eq_true h⟩, rfl⟩
    · rintro ⟨b, hb, rfl⟩
      rw [List.mem_filter] at hb
      exact (row_eB hv hf x b hx).2 hb.2
end Go.AW
/-
Plain law: both games are one, and the strategy wins.
-/
namespace Go.AW
open Go Go.Proofs TyTry Go.IntWalk
set_option linter.unusedSimpArgs false
set_option linter.unusedVariables false

theorem gT_noA {r : RelD} (hA : isAr r = false) (g : GD) (t : List Int) : (gT r g t).2 = g.2 := by
  unfold gT
  split
  · rfl
  · rw [if_neg (by simp [hA])]
theorem gTs_noA {r : RelD} (hA : isAr r = false) : ∀ (ts : List (List Int)) (g : GD), (ts.foldl (gT r) g).2 = g.2
  | [], _ => rfl
  | t :: ts, g => by rw [List.foldl_cons, gTs_noA hA ts, gT_noA hA]
theorem gT_A {r : RelD} (hA : isAr r = true) (g : GD) (t : List Int) : (gT r g t).2 = g.2.set (t.getD 0 0).toNat true := by
  have hE : isE r = false := by
    rw [isAr, Bool.and_eq_true, beq_iff_eq] at hA
    rw [isE, hA.1, show ((⟨#[65]⟩ : ByteArray).toList == (⟨#[69]⟩ : ByteArray).toList) = false by decide +kernel]; rfl
  simp [gT, hE, hA]
theorem gTs_A {r : RelD} (hA : isAr r = true) : ∀ (ts : List (List Int)) (g : GD) (x : Nat), x < g.2.length →
    (ts.foldl (gT r) g).2.getD x false = (g.2.getD x false || ts.any fun t => (t.getD 0 0).toNat == x)
  | [], g, x, hx => by simp
  | t :: ts, g, x, hx => by
    rw [List.foldl_cons, gTs_A hA ts _ x (by rw [(gT_len r g t).2]; exact hx), gT_A hA, List.any_cons]
    have : (g.2.set (t.getD 0 0).toNat true).getD x false = (g.2.getD x false || ((t.getD 0 0).toNat == x)) := by
      rw [List.getD_eq_getElem?_getD, List.getElem?_set]
      by_cases h : (t.getD 0 0).toNat = x
      · rw [if_pos h, if_pos (by omega)]; simp only [h, beq_self_eq_true, Bool.or_true, Option.getD_some]
      · have h2 : ((t.getD 0 0).toNat == x) = false := by simpa using h
        rw [if_neg h, h2, Bool.or_false, List.getD_eq_getElem?_getD]
    rw [this, Bool.or_assoc]
theorem gRs_noA : ∀ (rs : List RelD) (g : GD), (∀ r ∈ rs, isAr r = false) → (rs.foldl gR g).2 = g.2
  | [], _, _ => rfl
  | r :: rs, g, h => by
    rw [List.foldl_cons, gRs_noA rs (gR g r) fun q hq => h q (by simp [hq])]
    exact gTs_noA (h r (by simp)) r.tuples g
theorem gR_len2 (g : GD) (r : RelD) : (gR g r).2.length = g.2.length := by
  have : ∀ (ts : List (List Int)) (g : GD), (ts.foldl (gT r) g).2.length = g.2.length := by
    intro ts
    induction ts with
    | nil => intro g; rfl
    | cons t ts ih => intro g; rw [List.foldl_cons, ih, (gT_len r g t).2]
  exact this r.tuples g
theorem gRs_A : ∀ (rs : List RelD) (g : GD) (j : Nat) (q : RelD), rs[j]? = some q → isAr q = true → (∀ (i : Nat) r, rs[i]? = some r → i ≠ j → isAr r = false) → ∀ x : Nat, x < g.2.length →
    (rs.foldl gR g).2.getD x false = (g.2.getD x false || q.tuples.any fun t => (t.getD 0 0).toNat == x)
  | [], _, j, q, h, _, _, _, _ => by simp at h
  | r :: rs, g, 0, q, h, hA, hno, x, hx => by
    simp only [List.getElem?_cons_zero, Option.some.injEq] at h
    subst h
    rw [List.foldl_cons, gRs_noA rs (gR g r) fun p hp => by
      obtain ⟨i, hi⟩ := List.getElem?_of_mem hp
      exact hno (i + 1) p (by simpa using hi) (by omega)]
    exact gTs_A hA r.tuples g x hx
  | r :: rs, g, j + 1, q, h, hA, hno, x, hx => by
    have hr : isAr r = false := hno 0 r rfl (by omega)
    rw [List.foldl_cons, gRs_A rs (gR g r) j q (by simpa using h) hA (fun i p hi hne => hno (i + 1) p (by simpa using hi) (by omega)) x (by rw [gR_len2]; exact hx)]
    rw [show (gR g r).2 = g.2 from gTs_noA hr r.tuples g]
/-- The marks of the graph are the members of A. -/
theorem all_eq {s : StrD} (hv : validF s = true) (hf : fitsR symsA s = true) (x : Nat) (hx : x < s.size.toNat) : (graphD s).2.getD x false = aB s x := by
  obtain ⟨j, q, e1, e2, e3, e4, e5⟩ := fitsR_one hf
  simp only at e1 e3 e4 e5
  have hA : isAr q = true := by
    rw [isAr, e3, e4]; rfl
  rw [graphD, gRs_A s.rels _ j q e2 hA (fun i r hi hne => ?_) x (by simpa using hx)]
  · have : (List.replicate s.size.toNat false).getD x false = false := by
      rw [List.getD_eq_getElem?_getD, List.getElem?_replicate]
      split <;> rfl
    rw [this, Bool.false_or, aB, e5, Bool.eq_iff_iff, List.any_eq_true, decide_eq_true_eq]
    constructor
    · rintro ⟨t, ht, h⟩
      obtain ⟨t1, t2⟩ := valid_tuple hv (List.mem_of_getElem? e2) ht
      rw [e4] at t1
      match t, t1 with
      | [a], _ =>
        obtain ⟨a0, a1⟩ := t2 a (by simp)
        have : a = (x : Int) := by
          simp at h; omega
        rw [← this]; exact ht
      | [], h => simp at h
      | _ :: _ :: _, h => simp at h; omega
    · intro h
      exact ⟨_, h, by simp⟩
  · cases hr : isAr r with
    | false => rfl
    | true =>
      exfalso
      rw [isAr, Bool.and_eq_true] at hr
      have hn1 : r.name.toList = (⟨#[65]⟩ : ByteArray).toList := by simpa using hr.1
      have hn2 : q.name.toList = (⟨#[65]⟩ : ByteArray).toList := by simpa using e3
      rcases Nat.lt_or_gt_of_ne hne with h | h
      · have := names_uniq hv i j r q h hi e2
        rw [hn1, hn2] at this
        simp at this
      · have := names_uniq hv j i q r h e2 hi
        rw [hn1, hn2] at this
        simp at this
section
variable {E : Nat → Nat → Bool} {n : Nat} {next : List (List Int)} {all a : List Bool} {may : Nat → Nat → Bool}
theorem any_row (hnext : ∀ x < n, next.getD x [] = ((List.range n).filter fun y => E x y).map fun y : Nat => (y : Int)) (x : Nat) (hx : x < n) (p : Nat → Bool) :
    ((next.getD x []).any fun y => p y.toNat) = (List.range n).any fun y => E x y && p y := by
  rw [hnext x hx, List.any_map, List.any_filter]
  rfl
theorem isF_eq (hnext : ∀ x < n, next.getD x [] = ((List.range n).filter fun y => E x y).map fun y : Nat => (y : Int)) (b : List Bool) (x : Nat) (hx : x < n) (hall : all.getD x false = a.getD x false) :
    isF may next all b x = ((!(a.getD x false) && someX E may b x n) || (a.getD x false && allX E b x n)) := by
  unfold isF someX allX
  rw [hall, any_row hnext x hx (fun y => !(b.getD y false)), any_row hnext x hx (fun y => b.getD y false && may x y)]
  cases a.getD x false with
  | false => simp
  | true =>
    simp only [if_true, Bool.not_true, Bool.false_and, Bool.false_or, Bool.true_and]
    rw [List.all_eq_not_any_not]
    congr 2
    funext y
    cases E x y <;> simp
theorem condX_le {b : List Bool} {x : Nat} : condX E a may n b x = (!(b.getD x false) && ((!(a.getD x false) && someX E may b x n) || (a.getD x false && allX E b x n))) := rfl
/-- A state that holds all that it leads to. -/
def ClosedX (may : Nat → Nat → Bool) (next : List (List Int)) (all : List Bool) (n : Nat) (b : List Bool) : Prop := ∀ x < n, isF may next all b x = true → b.getD x false = true
theorem closed_step {b : List Bool} (hl : b.length = n) (h : ClosedX may next all n b) : Sub (stepI may next all b) b := by
  intro x hx
  rw [step_getD, hl] at hx
  simp only [Bool.and_eq_true, Bool.or_eq_true, decide_eq_true_eq] at hx
  rcases hx.2 with h1 | h1
  · exact h1
  · exact h x hx.1 h1
theorem step_closed {b : List Bool} (hl : b.length = n) (h : Sub (stepI may next all b) b) : ClosedX may next all n b := by
  intro x hx hF
  refine h x ?_
  rw [step_getD, hl, hF]; simp [hx]
theorem wonF_closed : ClosedX may next all n (wonF may next all n).1 := by
  refine step_closed (wonF_len _ _ _ _) ?_
  have := cntF_le ((List.replicate n false).set (n - 1) true)
  simp only [List.length_set, List.length_replicate] at this
  exact (won_closed (n + 1) 1 ((List.replicate n false).set (n - 1) true) (List.replicate n 0) (by omega)).2
theorem wonF_init : Sub ((List.replicate n false).set (n - 1) true) (wonF may next all n).1 := by
  have := cntF_le ((List.replicate n false).set (n - 1) true)
  simp only [List.length_set, List.length_replicate] at this
  exact (won_closed (n + 1) 1 ((List.replicate n false).set (n - 1) true) (List.replicate n 0) (by omega)).1
theorem wonF_least {J : List Bool} (hl : J.length = n) (h0 : Sub ((List.replicate n false).set (n - 1) true) J) (h : ClosedX may next all n J) : Sub (wonF may next all n).1 J :=
  won_sub (may' := may) (fun _ _ h => h) (closed_step hl h) _ _ _ _ (by simp [hl]) h0
theorem someX_mono {b c : List Bool} (h : Sub b c) (x j : Nat) (hs : someX E may b x j = true) : someX E may c x j = true := by
  unfold someX at hs ⊢
  rw [List.any_eq_true] at hs ⊢
  obtain ⟨y, hy, hz⟩ := hs
  simp only [Bool.and_eq_true] at hz
  exact ⟨y, hy, by rw [hz.1, h y hz.2.1, hz.2.2]; rfl⟩
theorem allX_mono {b c : List Bool} (h : Sub b c) (x j : Nat) (hs : allX E b x j = true) : allX E c x j = true := by
  unfold allX at hs ⊢
  rw [List.all_eq_true] at hs ⊢
  intro y hy
  have := hs y hy
  simp only [Bool.or_eq_true, Bool.not_eq_true'] at this ⊢
  rcases this with h1 | h1
  · exact .inl h1
  · exact .inr (h y h1)
variable (hnext : ∀ x < n, next.getD x [] = ((List.range n).filter fun y => E x y).map fun y : Nat => (y : Int)) (hall : ∀ x < n, all.getD x false = a.getD x false)
include hnext hall
theorem turnX_sub {p : List Bool × Bool} {x : Nat} (hx : x < n) {J : List Bool} (h : ClosedX may next all n J) (hp : Sub p.1 J) : Sub (turnX E a may n p x).1 J := by
  unfold turnX
  split
  · rename_i hc
    simp only [condX, Bool.and_eq_true] at hc
    have hJ : J.getD x false = true := by
      refine h x hx ?_
      rw [isF_eq hnext J x hx (hall x hx)]
      have := hc.2
      simp only [Bool.or_eq_true, Bool.and_eq_true] at this ⊢
      rcases this with ⟨h1, h2⟩ | ⟨h1, h2⟩
      · exact .inl ⟨h1, someX_mono hp x n h2⟩
      · exact .inr ⟨h1, allX_mono hp x n h2⟩
    intro y hy
    rw [List.getD_eq_getElem?_getD, List.getElem?_set] at hy
    split at hy
    · rename_i e; rw [← e]; exact hJ
    · rw [← List.getD_eq_getElem?_getD] at hy; exact hp y hy
  · exact hp
theorem passX_sub {b J : List Bool} (h : ClosedX may next all n J) (hp : Sub b J) : ∀ k ≤ n, Sub (passX E a may n b k).1 J
  | 0, _ => hp
  | k + 1, hk => by
    rw [passX_succ]
    exact turnX_sub hnext hall (by omega) h (passX_sub h hp k (by omega))
theorem loopX_sub {J : List Bool} (h : ClosedX may next all n J) : ∀ (f : Nat) (b : List Bool), Sub b J → Sub (loopX E a may n f b) J
  | 0, _, hp => hp
  | f + 1, b, hp => by
    rw [loopX]
    have := passX_sub hnext hall h hp n (Nat.le_refl _)
    split
    · exact loopX_sub h f _ this
    · exact this
omit hnext hall in
theorem turnX_up (p : List Bool × Bool) (x : Nat) : Sub p.1 (turnX E a may n p x).1 := by
  unfold turnX
  split
  · intro y hy
    rw [List.getD_eq_getElem?_getD, List.getElem?_set]
    by_cases e : x = y
    · subst e
      rw [if_pos rfl]
      have : x < p.1.length := by
        rcases Nat.lt_or_ge x p.1.length with h | h
        · exact h
        · rw [List.getD_eq_getElem?_getD, List.getElem?_eq_none h] at hy; simp at hy
      simp [this]
    · rw [if_neg e, ← List.getD_eq_getElem?_getD]; exact hy
  · exact fun y hy => hy
omit hnext hall in
theorem passX_up (b : List Bool) : ∀ k, Sub b (passX E a may n b k).1
  | 0 => fun y hy => hy
  | k + 1 => by
    rw [passX_succ]
    exact fun y hy => turnX_up _ _ y (passX_up b k y hy)
omit hnext hall in
/-- A pass that turns nothing has left the state as it was, and nothing is open. -/
theorem passX_still (b : List Bool) : ∀ k, (passX E a may n b k).2 = false → (passX E a may n b k).1 = b ∧ ∀ x < k, condX E a may n b x = false
  | 0, _ => ⟨rfl, fun x hx => by omega⟩
  | k + 1, h => by
    rw [passX_succ, turnX] at h ⊢
    split at h
    · cases h
    · rename_i hc
      obtain ⟨h1, h2⟩ := passX_still b k h
      rw [if_neg hc]
      refine ⟨h1, fun x hx => ?_⟩
      rcases Nat.lt_succ_iff_lt_or_eq.1 hx with e | rfl
      · exact h2 x e
      · rw [h1] at hc; simpa using hc
theorem loopX_closed : ∀ (f : Nat) (b : List Bool), b.length = n → cntF b < f → Sub b (loopX E a may n f b) ∧ ClosedX may next all n (loopX E a may n f b)
  | 0, _, _, h => by omega
  | f + 1, b, hl, h => by
    rw [loopX]
    by_cases hM : (passX E a may n b n).2 = true
    · rw [if_pos hM]
      obtain ⟨c1, c2⟩ := passX_cnt (E := E) (a := a) (may := may) (n := n) b n (by omega)
      have := c2 hM
      obtain ⟨h1, h2⟩ := loopX_closed f (passX E a may n b n).1 (by rw [passX_len, hl]) (by omega)
      exact ⟨fun x hx => h1 x (passX_up b n x hx), h2⟩
    · rw [if_neg hM]
      obtain ⟨h1, h2⟩ := passX_still b n (by simpa using hM)
      rw [h1]
      refine ⟨fun x hx => hx, fun x hx hF => ?_⟩
      have := h2 x hx
      rw [condX_le, ← isF_eq hnext b x hx (hall x hx), hF] at this
      simpa using this
theorem wonX_closed : ClosedX may next all n (wonX E a may n) := by
  have := cntF_le ((List.replicate n false).set (n - 1) true)
  simp only [List.length_set, List.length_replicate] at this
  exact (loopX_closed hnext hall (n + 1) ((List.replicate n false).set (n - 1) true) (by simp) (by omega)).2
theorem wonX_init : Sub ((List.replicate n false).set (n - 1) true) (wonX E a may n) := by
  have := cntF_le ((List.replicate n false).set (n - 1) true)
  simp only [List.length_set, List.length_replicate] at this
  exact (loopX_closed (may := may) hnext hall (n + 1) ((List.replicate n false).set (n - 1) true) (by simp) (by omega)).1
/-- Both games are one. -/
theorem won_eq : (wonF may next all n).1 = wonX E a may n := by
  have h1 : Sub (wonF may next all n).1 (wonX E a may n) := wonF_least (wonX_len _ _ _ _) (wonX_init hnext hall) (wonX_closed hnext hall)
  have h2 : Sub (wonX E a may n) (wonF may next all n).1 := loopX_sub hnext hall wonF_closed _ _ wonF_init
  have l1 := wonF_len may next all n
  have l2 := wonX_len E a may n
  apply List.ext_getElem?
  intro i
  by_cases hi : i < n
  · have k1 := h1 i
    have k2 := h2 i
    simp only [List.getD_eq_getElem?_getD] at k1 k2
    rw [List.getElem?_eq_getElem (by omega), List.getElem?_eq_getElem (by omega)] at k1 k2 ⊢
    simp only [Option.getD_some] at k1 k2
    congr 1
    rw [Bool.eq_iff_iff]
    exact ⟨k1, k2⟩
  · rw [List.getElem?_eq_none (by omega), List.getElem?_eq_none (by omega)]
end
end Go.AW
/-
Plain law: the strategy wins.
-/
namespace Go.AW
open Go Go.Proofs TyTry Go.IntWalk
set_option linter.unusedSimpArgs false
set_option linter.unusedVariables false

theorem getD_of {α : Type} {l : List α} {j : Nat} {z d : α} (h : l[j]? = some z) : l.getD j d = z := by simp [h]
/-- Each one won, but the last, leads to ones that were won before it. -/
structure RankOk (next : List (List Int)) (all : List Bool) (n : Nat) (d : Int) (I : List Bool) (R : List Int) : Prop where
  lenI : I.length = n
  lenR : R.length = n
  bd : ∀ x < n, I.getD x false = true → 0 ≤ R.getD x 0 ∧ R.getD x 0 < d
  ok : ∀ x < n, I.getD x false = true → x = n - 1 ∨ (all.getD x false = true ∧ ∀ y ∈ next.getD x [], I.getD y.toNat false = true ∧ R.getD y.toNat 0 < R.getD x 0) ∨ (all.getD x false = false ∧ ∃ y ∈ next.getD x [], I.getD y.toNat false = true ∧ R.getD y.toNat 0 < R.getD x 0)
section
variable {next : List (List Int)} {all : List Bool} {n : Nat}
theorem getD_true_lt {I : List Bool} {x : Nat} (h : I.getD x false = true) : x < I.length := by
  rcases Nat.lt_or_ge x I.length with h' | h'
  · exact h'
  · rw [List.getD_eq_getElem?_getD, List.getElem?_eq_none h'] at h; simp at h
theorem RankOk.step {d : Int} {I : List Bool} {R : List Int} (hd : 1 ≤ d) (h : RankOk next all n d I R) : RankOk next all n (d + 1) (stepI (fun _ _ => true) next all I) (stepR (fun _ _ => true) next all I d R) := by
  obtain ⟨l1, l2⟩ := step_len (fun _ _ => true) next all I d R
  have gI : ∀ x, (stepI (fun _ _ => true) next all I).getD x false = (decide (x < I.length) && (I.getD x false || isF (fun _ _ => true) next all I x)) := step_getD _ _ _ _
  have gR : ∀ x < n, (stepR (fun _ _ => true) next all I d R).getD x 0 = if isF (fun _ _ => true) next all I x && !(I.getD x false) then d else R.getD x 0 := fun x hx => by
    rw [List.getD_eq_getElem?_getD, (step_get (fun _ _ => true) next all I d R x (by rw [h.lenI]; exact hx)).2]; rfl
  have old : ∀ x, I.getD x false = true → (stepI (fun _ _ => true) next all I).getD x false = true ∧ (stepR (fun _ _ => true) next all I d R).getD x 0 = R.getD x 0 := fun x hx => by
    have hlt := getD_true_lt hx
    rw [gI, gR x (by rw [← h.lenI]; exact hlt), hx]
    simp [hlt]
  refine ⟨by rw [l1, h.lenI], by rw [l2, h.lenI], fun x hx hI => ?_, fun x hx hI => ?_⟩
  · by_cases ho : I.getD x false = true
    · rw [(old x ho).2]
      have := h.bd x hx ho
      omega
    · rw [gI] at hI
      simp only [Bool.and_eq_true, Bool.or_eq_true, decide_eq_true_eq] at hI
      rw [gR x hx]
      rcases hI.2 with h1 | h1
      · exact absurd h1 ho
      · rw [if_pos (by rw [h1]; simpa using ho)]
        omega
  · by_cases ho : I.getD x false = true
    · rw [(old x ho).2]
      rcases h.ok x hx ho with h1 | ⟨h1, h2⟩ | ⟨h1, y, hy, h2, h3⟩
      · exact .inl h1
      · refine .inr (.inl ⟨h1, fun y hy => ?_⟩)
        obtain ⟨h3, h4⟩ := h2 y hy
        rw [(old y.toNat h3).2]
        exact ⟨(old y.toNat h3).1, h4⟩
      · refine .inr (.inr ⟨h1, y, hy, ?_⟩)
        rw [(old y.toNat h2).2]
        exact ⟨(old y.toNat h2).1, h3⟩
    · rw [gI] at hI
      simp only [Bool.and_eq_true, Bool.or_eq_true, decide_eq_true_eq] at hI
      have hF : isF (fun _ _ => true) next all I x = true := by
        rcases hI.2 with h1 | h1
        · exact absurd h1 ho
        · exact h1
      have hRx : (stepR (fun _ _ => true) next all I d R).getD x 0 = d := by
        rw [gR x hx, if_pos (by rw [hF]; simpa using ho)]
      rw [hRx]
      have key : ∀ y : Nat, I.getD y false = true → (stepI (fun _ _ => true) next all I).getD y false = true ∧ (stepR (fun _ _ => true) next all I d R).getD y 0 < d := fun y hy => by
        refine ⟨(old y hy).1, ?_⟩
        rw [(old y hy).2]
        exact (h.bd y (by rw [← h.lenI]; exact getD_true_lt hy) hy).2
      right
      unfold isF at hF
      by_cases ha : all.getD x false = true
      · rw [if_pos ha, Bool.not_eq_true', List.any_eq_false] at hF
        exact .inl ⟨ha, fun y hy => key _ (by simpa using hF y hy)⟩
      · rw [if_neg ha, List.any_eq_true] at hF
        obtain ⟨y, hy, hz⟩ := hF
        exact .inr ⟨by simpa using ha, y, hy, key _ (by simpa using hz)⟩
theorem RankOk.loop : ∀ (f : Nat) (d : Int) (I : List Bool) (R : List Int), 1 ≤ d → RankOk next all n d I R → ∃ d', RankOk next all n d' (wonL (fun _ _ => true) next all f d I R).1 (wonL (fun _ _ => true) next all f d I R).2
  | 0, d, _, _, _, h => ⟨d, h⟩
  | f + 1, d, I, R, hd, h => by
    rw [wonL]
    split
    · exact RankOk.loop f (d + 1) _ _ (by omega) (h.step hd)
    · exact ⟨d + 1, h.step hd⟩
theorem wonF_rank : ∃ d, RankOk next all n d (wonF (fun _ _ => true) next all n).1 (wonF (fun _ _ => true) next all n).2 := by
  refine RankOk.loop _ _ _ _ (by omega) ?_
  have h0 : ∀ x, ((List.replicate n false).set (n - 1) true).getD x false = true → x = n - 1 := by
    intro x hx
    rw [List.getD_eq_getElem?_getD, List.getElem?_set] at hx
    split at hx
    · rename_i e; exact e.symm
    · rw [List.getElem?_replicate] at hx
      split at hx <;> simp at hx
  refine ⟨by simp, by simp, fun x hx _ => ?_, fun x hx hI => .inl (h0 x hI)⟩
  have : (List.replicate n (0 : Int)).getD x 0 = 0 := by simp [hx]
  omega
variable {E : Nat → Nat → Bool} {a : List Bool}
theorem stratX_mem (I : List Bool) (R : List Int) (x : Nat) : stratX next all I R x = -1 ∨ stratX next all I R x ∈ next.getD x [] := by
  unfold stratX
  split
  · rename_i hc
    simp only [Bool.and_eq_true] at hc
    have hany := idxI_any (goodP I R x) (next.getD x []) 0 (by omega)
    rw [hc.2, decide_eq_true_eq] at hany
    obtain ⟨j, hj⟩ := Int.eq_ofNat_of_zero_le hany
    obtain ⟨_, z, hz, _⟩ := idxI_get (goodP I R x) (next.getD x []) 0 j hj
    rw [Nat.sub_zero] at hz
    right
    rw [hj, Int.toNat_natCast, show (next.getD x []).getD j 0 = z from getD_of hz]
    exact List.mem_of_getElem? hz
  · exact .inl rfl
theorem stratX_good (I : List Bool) (R : List Int) (x : Nat) (ha : all.getD x false = false) (hI : I.getD x false = true) (h : ∃ y ∈ next.getD x [], I.getD y.toNat false = true ∧ R.getD y.toNat 0 < R.getD x 0) :
    stratX next all I R x ∈ next.getD x [] ∧ I.getD (stratX next all I R x).toNat false = true ∧ R.getD (stratX next all I R x).toNat 0 < R.getD x 0 := by
  obtain ⟨y, hy, h1, h2⟩ := h
  have hsome : (next.getD x []).any (goodP I R x) = true := by
    rw [List.any_eq_true]
    exact ⟨y, hy, by simp only [goodP, h1, Bool.true_and, decide_eq_true_eq]; exact h2⟩
  unfold stratX
  rw [if_pos (by rw [ha, hI, hsome]; rfl)]
  have hany := idxI_any (goodP I R x) (next.getD x []) 0 (by omega)
  rw [hsome, decide_eq_true_eq] at hany
  obtain ⟨j, hj⟩ := Int.eq_ofNat_of_zero_le hany
  obtain ⟨_, z, hz, hzp⟩ := idxI_get (goodP I R x) (next.getD x []) 0 j hj
  rw [Nat.sub_zero] at hz
  rw [hj, Int.toNat_natCast, show (next.getD x []).getD j 0 = z from getD_of hz]
  simp only [goodP, Bool.and_eq_true, decide_eq_true_eq] at hzp
  exact ⟨List.mem_of_getElem? hz, hzp.1, hzp.2⟩
theorem strat_wins (hnext : ∀ x < n, next.getD x [] = ((List.range n).filter fun y => E x y).map fun y : Nat => (y : Int)) (hall : ∀ x < n, all.getD x false = a.getD x false) (h1 : 1 ≤ n)
    (h0 : (wonF (fun _ _ => true) next all n).1.getD 0 false = true) :
    (wonX E a (mayOrd (stratL next all (wonF (fun _ _ => true) next all n).1 (wonF (fun _ _ => true) next all n).2 n)) n).getD 0 false = true := by
  obtain ⟨d, hr⟩ := wonF_rank (next := next) (all := all) (n := n)
  generalize (wonF (fun _ _ => true) next all n).1 = I at hr h0 ⊢
  generalize (wonF (fun _ _ => true) next all n).2 = R at hr ⊢
  have hcl := wonX_closed (may := mayOrd (stratL next all I R n)) hnext hall
  have hin := wonX_init (may := mayOrd (stratL next all I R n)) hnext hall
  generalize wonX E a (mayOrd (stratL next all I R n)) n = J at hcl hin ⊢
  have hrow : ∀ x < n, ∀ y ∈ next.getD x [], 0 ≤ y ∧ y.toNat < n := fun x hx y hy => by
    rw [hnext x hx, List.mem_map] at hy
    obtain ⟨z, hz, rfl⟩ := hy
    rw [List.mem_filter, List.mem_range] at hz
    rw [Int.toNat_natCast]
    exact ⟨by omega, hz.1⟩
  have key : ∀ (k x : Nat), (R.getD x 0).toNat = k → x < n → I.getD x false = true → J.getD x false = true := by
    intro k
    induction k using Nat.strongRecOn with
    | _ k ih =>
      intro x hk hx hI
      have hb := hr.bd x hx hI
      rcases hr.ok x hx hI with rfl | ⟨ha, hy⟩ | ⟨ha, hy⟩
      · exact hin (n - 1) (by
          rw [List.getD_eq_getElem?_getD, List.getElem?_set, if_pos rfl, if_pos (by simpa using hx)]; rfl)
      · refine hcl x hx ?_
        unfold isF
        rw [if_pos ha, Bool.not_eq_true', List.any_eq_false]
        intro y hyy
        obtain ⟨y1, y2⟩ := hy y hyy
        obtain ⟨z1, z2⟩ := hrow x hx y hyy
        have := hr.bd y.toNat z2 y1
        have := ih (R.getD y.toNat 0).toNat (by omega) y.toNat rfl z2 y1
        rw [this]; simp
      · refine hcl x hx ?_
        unfold isF
        rw [if_neg (by rw [ha]; simp), List.any_eq_true]
        obtain ⟨s1, s2, s3⟩ := stratX_good I R x ha hI hy
        obtain ⟨z1, z2⟩ := hrow x hx _ s1
        refine ⟨_, s1, ?_⟩
        have := hr.bd _ z2 s2
        have hJ := ih (R.getD (stratX next all I R x).toNat 0).toNat (by omega) _ rfl z2 s2
        have hm : mayOrd (stratL next all I R n) x (stratX next all I R x).toNat = true := by
          have : (stratL next all I R n).getD x 0 = stratX next all I R x := by simp [stratL, hx]
          rw [mayOrd, this, beq_iff_eq]; omega
        rw [hJ, hm]; rfl
  exact key _ 0 rfl (by omega) h0
end
theorem strat_listed {s : StrD} {n : Nat} (hn : s.size = n) {next : List (List Int)} {all I : List Bool} {R : List Int} (hb : ∀ x < n, ∀ y ∈ next.getD x [], 0 ≤ y ∧ y < (n : Int)) : badOrd s (stratL next all I R n) = false := by
  have hl : (stratL next all I R n).length = n := by simp [stratL]
  have h0 : ((stratL next all I R n).any fun x => decide (x < -1) || decide (x ≥ s.size)) = false := by
    rw [List.any_eq_false]
    intro x hx
    simp only [stratL, List.mem_map, List.mem_range] at hx
    obtain ⟨i, hi, rfl⟩ := hx
    simp only [Bool.or_eq_true, decide_eq_true_eq]
    rcases stratX_mem (next := next) (all := all) I R i with h | h
    · rw [h]; omega
    · have := hb i hi _ h
      omega
  rw [badOrd, h0, hl, hn]
  simp
end Go.AW
/-
The law HardWon, over its contracts.
-/
namespace Go.AW
open Go Go.Proofs TyTry Go.IntWalk
set_option linter.unusedSimpArgs false
set_option linter.unusedVariables false
set_option maxRecDepth 10000
set_option maxHeartbeats 1000000

/-- Where ways meet, seen from the first part. -/
theorem W_joinS {P : Program} {n : Nat} {Q : Exit → St → Prop} {x y : Code} (lo hi : Nat) (L : List Nat) (I : (Nat → AV) → List Ob → Prop) {t0 : Nat → AV} {o0 : List Ob} (h : W P n x (joinQ lo hi L t0 I Q) ⟨mix lo hi L t0 t0, o0⟩)
    (h2 : ∀ t o, I t o → W P n y Q ⟨mix lo hi L t t0, o⟩) : W P n x (seqQ P n y Q) ⟨t0, o0⟩ := by
  rw [mix_self] at h
  refine h.mono ?_
  intro e s k
  cases e with
  | normal =>
    obtain ⟨t', h1, h3⟩ := k
    have := h2 t' s.o h3
    rw [← h1] at this
    exact this
  | _ => exact k
theorem fitsF_G (s : StrD) : fitsF symG s = (fitsF symsE s && fitsF symsA s) := by
  simp [fitsF, symG, symsE, symsA]
theorem codeT_zero {s : StrD} (h : codeF s true = 0) : validF s = true ∧ fitsR symsE s = true ∧ fitsR symsA s = true ∧ fitsF symG s = true := by
  rw [codeF] at h
  split at h
  · omega
  · rename_i hv
    have hv : validF s = true := by simpa using hv
    split at h
    · omega
    · rename_i hf
      simp only [Bool.true_and, Bool.or_eq_true, Bool.not_eq_true', not_or, Bool.not_eq_false] at hf
      refine ⟨hv, hf.1, hf.2, ?_⟩
      rw [fitsF_G, ← fitsR_eq hv, ← fitsR_eq hv, hf.1, hf.2]; rfl
theorem codeT_ne {s : StrD} (h : codeF s true ≠ 0) (l : List Int) : wonA s = .tup [.sl 1 [], .i .i64 (codeF s true)] ∧ stratA s = .tup [.sl 1 [], .i .i64 (codeF s true)] ∧ winsA s l = .tup [.b false, .i .i64 (codeF s true)] := by
  rw [codeF] at h ⊢
  rw [wonA, stratA, winsA]
  by_cases hv : validF s = false
  · simp only [if_pos hv]
    exact ⟨trivial, trivial, trivial⟩
  · rw [if_neg hv] at h ⊢
    have hv' : validF s = true := by simpa using hv
    split at h
    · rename_i hf
      have : fitsF symG s = false := by
        rw [fitsF_G, ← fitsR_eq hv', ← fitsR_eq hv']
        simp only [Bool.true_and, Bool.or_eq_true, Bool.not_eq_true'] at hf
        rcases hf with h | h <;> simp [h]
      rw [if_pos hf]
      simp only [if_neg hv, if_pos this]
      exact ⟨trivial, trivial, trivial⟩
    · omega
theorem hardWon_spec (s : StrD) (hs : s.Wide) (l : List Int) (hl : l.length ≤ 1125899906842624) :
    ACallsD Try.prog 7 [.agg [.i .i64 s.size, .sl 3 (rels s.rels)], .sl 1 (ints l)] (.b true) := by
  refine ACalls_of' (n := 155) (rs := [.tmp 4]) (show Try.prog.funcs[7]? = some Try.f7 by kernel_rfl) rfl rfl rfl (by simp) (by decide +kernel) ?_
  repeat (first | refine nav ?_ | refine bo ?_)
  (refine wr fun K R hK hR => ?_; simp (maxSteps := 10000000) only [go_sem]; (try go_ints); (repeat refine And.intro side ?_); (first | refine hK _ ?_ | refine hR _ _ ?_); clear hK hR K R)
  repeat (first | refine nav ?_ | refine bo ?_)
  (refine wr fun K R hK hR => ?_; simp (maxSteps := 10000000) only [go_sem]; (try go_ints); (repeat refine And.intro side ?_); (first | refine hK _ ?_ | refine hR _ _ ?_); clear hK hR K R)
  refine RL_callF (broad_spec s hs) rfl rfl rfl (by first | (simp only [go_sem] <;> first | exact LeA.refl _ | exact Le.refl _) | exact LeA.refl _) rfl rfl ?_
  (refine rr fun K R hK hR => ?_; simp (maxSteps := 10000000) only [go_sem]; (try go_ints); (repeat refine And.intro side ?_); (first | refine hK _ ?_ | refine hR _ _ ?_); clear hK hR K R)
  repeat (first | refine nav ?_ | refine bo ?_)
  refine W_cond (by simp only [go_sem] <;> exact rfl) (fun hb => ?_) (fun hb => ?_)
  · repeat (first | refine nav ?_ | refine bo ?_)
    (refine wr fun K R hK hR => ?_; simp (maxSteps := 10000000) only [go_sem]; (try go_ints); (repeat refine And.intro side ?_); (first | refine hK _ ?_ | refine hR _ _ ?_); clear hK hR K R)
    refine RL_callF (awake_spec) rfl rfl rfl (by first | (simp only [go_sem] <;> first | exact LeA.refl _ | exact Le.refl _) | exact LeA.refl _) rfl rfl ?_
    (refine rr fun K R hK hR => ?_; simp (maxSteps := 10000000) only [go_sem]; (try go_ints); (repeat refine And.intro side ?_); (first | refine hK _ ?_ | refine hR _ _ ?_); clear hK hR K R)
    repeat (first | refine nav ?_ | refine bo ?_)
    refine endQ_data (by simp only [go_sem] <;> exact rfl) (Le.of_eq ?_) rfl
    rfl
  · simp only [Bool.or_eq_true, Bool.and_eq_true, Bool.not_eq_true', Bool.not_eq_false', Bool.and_eq_false_iff, Bool.or_eq_false_iff, decide_eq_true_eq, decide_eq_false_iff_not, Bool.not_eq_eq_eq_not, Bool.not_true, Bool.not_false] at hb
    obtain ⟨⟨hbr, hsz⟩, hll⟩ := hb
    refine W_skip ?_
    refine seqQ_normal ?_
    refine W_weak (s' := ⟨tab [(1, .sl 1 (ints l)), (2, .ptr 0 0 0)], [Ob.cells 2 [[.i .i64 s.size, .sl 3 (rels s.rels)]]]⟩) (tab_le fun y hy => ?_) rfl ?_
    · simp only [List.mem_cons, List.not_mem_nil, or_false] at hy
      rcases hy with rfl | rfl <;> rfl
    obtain ⟨hok, htn⟩ := broad_ok hbr
    have hC := code_spec s hok true
    have hWo := won_all_spec s hok (by omega)
    have hSt := strat_spec s hok (by omega)
    have hWi := wins_spec s hok (by omega) l (by omega)
    by_cases hcode : codeF s true = 0
    · obtain ⟨hv, hfE, hfA, hfG⟩ := codeT_zero hcode
      obtain ⟨z1, z2, z3⟩ := valid_size hv
      rw [hcode] at hC
      obtain ⟨n, hn⟩ := Int.eq_ofNat_of_zero_le (show 0 ≤ s.size by omega)
      have hnn : s.size.toNat = n := by omega
      have hnext : ∀ x < n, (graphD s).1.getD x [] = ((List.range n).filter fun y => eB s x y).map fun y : Nat => (y : Int) := fun x hx => by
        have := row_eq hv hfE x (by omega)
        rw [hnn] at this; exact this
      have hall : ∀ x < n, (graphD s).2.getD x false = (inA s n).getD x false := fun x hx => by
        rw [all_eq hv hfA x (by omega)]; simp [inA, hx]
      have hb1 : ∀ x < n, ∀ y ∈ (graphD s).1.getD x [], 0 ≤ y ∧ y < (n : Int) := fun x hx y hy => by
        rw [hnext x hx, List.mem_map] at hy
        obtain ⟨z, hz, rfl⟩ := hy
        rw [List.mem_filter, List.mem_range] at hz
        omega
      have hWe := fun may => won_eq (may := may) hnext hall
      have hR0 := rwon_spec s hok hfE hfA n hn (by omega) (by omega) .nsl (fun _ _ => true) (.inl ⟨rfl, fun _ _ => rfl⟩)
      have hR1 := fun (q : List Int) (hq : q.length = n) => rwon_spec s hok hfE hfA n hn (by omega) (by omega) (.sl 1 (ints q)) (mayOrd q) (.inr ⟨q, rfl, hq, fun _ _ => rfl⟩)
      rw [← hWe] at hR0
      rw [wonA, if_neg (by simp [hv]), if_neg (by simp [hfG]), hnn] at hWo
      rw [stratA, if_neg (by simp [hv]), if_neg (by simp [hfG]), hnn] at hSt
      have hWl := wonF_len (fun _ _ => true) (graphD s).1 (graphD s).2 n
      have hsw := fun h => strat_wins hnext hall (by omega) h
      have hsl := strat_listed hn (all := (graphD s).2) (I := (wonF (fun _ _ => true) (graphD s).1 (graphD s).2 n).1) (R := (wonF (fun _ _ => true) (graphD s).1 (graphD s).2 n).2) hb1
      have hLl : (stratL (graphD s).1 (graphD s).2 (wonF (fun _ _ => true) (graphD s).1 (graphD s).2 n).1 (wonF (fun _ _ => true) (graphD s).1 (graphD s).2 n).2 n).length = n := by simp [stratL]
      generalize stratL (graphD s).1 (graphD s).2 (wonF (fun _ _ => true) (graphD s).1 (graphD s).2 n).1 (wonF (fun _ _ => true) (graphD s).1 (graphD s).2 n).2 n = L at hSt hsw hsl hLl
      generalize (wonF (fun _ _ => true) (graphD s).1 (graphD s).2 n).1 = W at hWo hSt hWl hsw hR0
      obtain ⟨w0, hw0⟩ : ∃ b, W[0]? = some b := ⟨_, List.getElem?_eq_getElem (by omega)⟩
      rw [show W.getD 0 false = w0 by simp [hw0]] at hSt hsw
      obtain ⟨L', ec, hSt', hL'⟩ : ∃ (L' : List Int) (ec : Int), ACallsD Try.prog 28 [.agg [.i .i64 s.size, .sl 3 (rels s.rels)]] (.tup [.sl 1 (ints L'), .i .i64 ec]) ∧ ((w0 = false ∧ L' = [] ∧ ec = 6) ∨ (w0 = true ∧ L' = L ∧ ec = 0)) := by
        cases w0 with
        | false =>
          rw [if_pos rfl] at hSt
          exact ⟨[], 6, hSt, .inl ⟨rfl, rfl, rfl⟩⟩
        | true =>
          rw [if_neg (by simp)] at hSt
          exact ⟨L, 0, hSt, .inr ⟨rfl, rfl, rfl⟩⟩
      obtain ⟨wi, wc, hWi', hwi⟩ : ∃ (wi : Bool) (wc : Int), ACallsD Try.prog 26 [.agg [.i .i64 s.size, .sl 3 (rels s.rels)], .sl 1 (ints l)] (.tup [.b wi, .i .i64 wc]) ∧ ((badOrd s l = true ∧ wi = false ∧ wc = 2) ∨ (badOrd s l = false ∧ wi = (wonX (eB s) (inA s n) (mayOrd l) n).getD 0 false ∧ wc = 0)) := by
        rw [winsA, if_neg (by simp [hv]), if_neg (by simp [hfG]), hnn] at hWi
        cases hbo : badOrd s l with
        | true =>
          rw [if_pos hbo] at hWi
          exact ⟨_, _, hWi, .inl ⟨rfl, rfl, rfl⟩⟩
        | false =>
          rw [if_neg (by simp [hbo]), hWe] at hWi
          exact ⟨_, _, hWi, .inr ⟨rfl, rfl, rfl⟩⟩
      clear hSt hWi
      have hlist := listed_spec s l (by omega)
      repeat (first | refine nav ?_ | refine bo ?_)
      (refine wr fun K R hK hR => ?_; simp (maxSteps := 10000000) only [go_sem]; (try go_ints); (repeat refine And.intro side ?_); (first | refine hK _ ?_ | refine hR _ _ ?_); clear hK hR K R)
      refine RL_callF (hC) rfl rfl rfl (by first | (simp only [go_sem] <;> first | exact LeA.refl _ | exact Le.refl _) | exact LeA.refl _) rfl rfl ?_
      (refine rr fun K R hK hR => ?_; simp (maxSteps := 10000000) only [go_sem]; (try go_ints); (repeat refine And.intro side ?_); (first | refine hK _ ?_ | refine hR _ _ ?_); clear hK hR K R)
      repeat (first | refine nav ?_ | refine bo ?_)
      (refine wr fun K R hK hR => ?_; simp (maxSteps := 10000000) only [go_sem]; (try go_ints); (repeat refine And.intro side ?_); (first | refine hK _ ?_ | refine hR _ _ ?_); clear hK hR K R)
      refine RL_callF (hWo) rfl rfl rfl (by first | (simp only [go_sem] <;> first | exact LeA.refl _ | exact Le.refl _) | exact LeA.refl _) rfl rfl ?_
      (refine rr fun K R hK hR => ?_; simp (maxSteps := 10000000) only [go_sem]; (try go_ints); (repeat refine And.intro side ?_); (first | refine hK _ ?_ | refine hR _ _ ?_); clear hK hR K R)
      repeat (first | refine nav ?_ | refine bo ?_)
      (refine wr fun K R hK hR => ?_; simp (maxSteps := 10000000) only [go_sem]; (try go_ints); (repeat refine And.intro side ?_); (first | refine hK _ ?_ | refine hR _ _ ?_); clear hK hR K R)
      refine RL_callF (hSt') rfl rfl rfl (by first | (simp only [go_sem] <;> first | exact LeA.refl _ | exact Le.refl _) | exact LeA.refl _) rfl rfl ?_
      (refine rr fun K R hK hR => ?_; simp (maxSteps := 10000000) only [go_sem]; (try go_ints); (repeat refine And.intro side ?_); (first | refine hK _ ?_ | refine hR _ _ ?_); clear hK hR K R)
      repeat (first | refine nav ?_ | refine bo ?_)
      (refine wr fun K R hK hR => ?_; simp (maxSteps := 10000000) only [go_sem]; (try go_ints); (repeat refine And.intro side ?_); (first | refine hK _ ?_ | refine hR _ _ ?_); clear hK hR K R)
      refine RL_callF (hWi') rfl rfl rfl (by first | (simp only [go_sem] <;> first | exact LeA.refl _ | exact Le.refl _) | exact LeA.refl _) rfl rfl ?_
      (refine rr fun K R hK hR => ?_; simp (maxSteps := 10000000) only [go_sem]; (try go_ints); (repeat refine And.intro side ?_); (first | refine hK _ ?_ | refine hR _ _ ?_); clear hK hR K R)
      repeat (first | refine nav ?_ | refine bo ?_)
      (refine wr fun K R hK hR => ?_; simp (maxSteps := 10000000) only [go_sem]; (try go_ints); (repeat refine And.intro side ?_); (first | refine hK _ ?_ | refine hR _ _ ?_); clear hK hR K R)
      repeat (first | refine nav ?_ | refine bo ?_)
      refine W_cond (b := false) (by simp only [go_sem]) (fun hb => by cases hb) (fun _ => ?_)
      repeat (first | refine nav ?_ | refine bo ?_)
      (refine wr fun K R hK hR => ?_; simp (maxSteps := 10000000) only [go_sem]; (try go_ints); (repeat refine And.intro side ?_); (first | refine hK _ ?_ | refine hR _ _ ?_); clear hK hR K R)
      refine RL_callF (hR0) rfl rfl rfl (by first | (simp only [go_sem] <;> first | exact LeA.refl _ | exact Le.refl _) | exact LeA.refl _) rfl rfl ?_
      (refine rr fun K R hK hR => ?_; simp (maxSteps := 10000000) only [go_sem]; (try go_ints); (repeat refine And.intro side ?_); (first | refine hK _ ?_ | refine hR _ _ ?_); clear hK hR K R)
      repeat (first | refine nav ?_ | refine bo ?_)
      (refine wr fun K R hK hR => ?_; simp (maxSteps := 10000000) only [go_sem, hWl]; (try go_ints); (try simp only [go_sem, hWl]); (repeat refine And.intro side ?_); (first | refine hK _ ?_ | refine hR _ _ ?_); clear hK hR K R)
      repeat (first | refine nav ?_ | refine bo ?_)
      refine W_cond (b := false) (by simp only [go_sem] <;> first | rfl | simp) (fun hb => by cases hb) (fun _ => ?_)
      repeat (first | refine nav ?_ | refine bo ?_)
      (refine wr fun K R hK hR => ?_; simp (maxSteps := 10000000) only [go_sem]; (try go_ints); (repeat refine And.intro side ?_); (first | refine hK _ ?_ | refine hR _ _ ?_); clear hK hR K R)
      repeat (first | refine nav ?_ | refine bo ?_)
      refine W_for 86 101 [13] (fun m t o => ∃ k : Nat, [Ob.cells 2 [[.i .i64 s.size, .sl 3 (rels s.rels)]]] = o ∧ t 13 = .i .i64 k ∧ m = n - k ∧ k ≤ n) n ⟨0, rfl, by simp only [go_sem] <;> rfl, by omega, Nat.zero_le _⟩ ?_
      rintro m t o ⟨k, rfl, h13, rfl, hk⟩
      repeat (first | refine nav ?_ | refine bo ?_)
      (refine wr fun K R hK hR => ?_; simp (maxSteps := 10000000) only [go_sem, h13, hWl]; (try go_ints); (try simp only [go_sem, h13, hWl]); (repeat refine And.intro side ?_); (first | refine hK _ ?_ | refine hR _ _ ?_); clear hK hR K R)
      repeat (first | refine nav ?_ | refine bo ?_)
      refine W_cond (by simp only [go_sem] <;> exact rfl) (fun hb => ?_) (fun hb => ?_)
      · simp at hb
        obtain ⟨v, hv⟩ : ∃ v, W[k]? = some v := ⟨_, List.getElem?_eq_getElem (by omega)⟩
        repeat (first | refine nav ?_ | refine bo ?_)
        (refine W_dreg (by decide +kernel) [] [0, 1, 2, 3, 4, 5, 6, 7, 8] [[], [], [1, 0], [0, 1, 2], [], [], [5, 4], [4, 5, 6], [6, 5, 4, 7, 2, 1, 0, 3]] (by decide +kernel) rfl fun K R hK hR => ?_; simp only [List.filterMap_cons, List.filterMap_nil, List.getElem?_cons_zero, List.getElem?_cons_succ, List.cons_append, List.nil_append]; simp (maxSteps := 10000000) only [go_sem, h13, bools_get hv, hWl]; (try go_ints); (try simp only [go_sem, h13, bools_get hv, hWl]); (repeat refine And.intro side ?_); (first | refine hK _ ?_ | refine hR _ _ ?_); clear hK hR K R)
        repeat (first | refine nav ?_ | refine bo ?_)
        refine W_cond (b := false) (by simp only [go_sem] <;> first | rfl | simp) (fun hb => by cases hb) (fun _ => ?_)
        repeat (first | refine nav ?_ | refine bo ?_)
        (refine wr fun K R hK hR => ?_; simp (maxSteps := 10000000) only [go_sem, h13]; (try go_ints); (try simp only [go_sem, h13]); (repeat refine And.intro side ?_); (first | refine hK _ ?_ | refine hR _ _ ?_); clear hK hR K R)
        refine forQ_normal (n - (k + 1)) (by omega) ⟨k + 1, rfl, ?_⟩
        ((try simp only [go_sem]); (repeat' refine And.intro ?_ ?_) <;> (try first | with_reducible rfl | omega | with_reducible assumption | (simp; done)))
      · simp at hb
        repeat (first | refine nav ?_ | refine bo ?_)
        (refine wr fun K R hK hR => ?_; simp (maxSteps := 10000000) only [go_sem, bools_get hw0, hWl]; (try go_ints); (try simp only [go_sem, bools_get hw0, hWl]); (repeat refine And.intro side ?_); (first | refine hK _ ?_ | refine hR _ _ ?_); clear hK hR K R)
        refine seqQ_normal ?_
        refine W_joinS 105 128 [] (fun t o => o = [Ob.cells 2 [[.i .i64 s.size, .sl 3 (rels s.rels)]]]) ?_ ?_
        · rcases hL' with ⟨rfl, rfl, rfl⟩ | ⟨rfl, hLL, rfl⟩
          · refine W_cond (b := true) (by simp only [go_sem] <;> first | rfl | simp) (fun _ => ?_) (fun hb => by cases hb)
            repeat (first | refine nav ?_ | refine bo ?_)
            (refine wr fun K R hK hR => ?_; simp (maxSteps := 10000000) only [go_sem]; (try go_ints); (repeat refine And.intro side ?_); (first | refine hK _ ?_ | refine hR _ _ ?_); clear hK hR K R)
            repeat (first | refine nav ?_ | refine bo ?_)
            refine W_cond (b := false) (by simp only [go_sem] <;> first | rfl | simp) (fun hb => by cases hb) (fun _ => ?_)
            repeat (first | refine nav ?_ | refine bo ?_)
            exact ⟨_, rfl, rfl⟩
          · subst L'
            have hsw := hsw rfl
            obtain ⟨u, hu⟩ : ∃ b, (wonX (eB s) (inA s n) (mayOrd L) n)[0]? = some b := ⟨_, List.getElem?_eq_getElem (by rw [wonX_len]; omega)⟩
            rw [getD_of hu] at hsw
            subst hsw
            have hLi := listed_spec s L (by omega)
            rw [hsl] at hLi
            have hRL := hR1 L hLl
            have hXl := wonX_len (eB s) (inA s n) (mayOrd L) n
            generalize wonX (eB s) (inA s n) (mayOrd L) n = X at hu hRL hXl
            refine W_cond (b := false) (by simp only [go_sem] <;> first | rfl | simp) (fun hb => by cases hb) (fun _ => ?_)
            repeat (first | refine nav ?_ | refine bo ?_)
            (refine wr fun K R hK hR => ?_; simp (maxSteps := 10000000) only [go_sem]; (try go_ints); (repeat refine And.intro side ?_); (first | refine hK _ ?_ | refine hR _ _ ?_); clear hK hR K R)
            refine RL_callDg rfl (by simp only [go_sem] <;> exact rfl) (fun e => hLi) rfl rfl rfl (fun e => by (try simp only [go_sem] at e); simp only [go_sem, e] <;> (try simp only [go_sem]) <;> first | exact LeA.refl _ | exact Le.refl _) rfl rfl ?_
            (refine rr fun K R hK hR => ?_; simp (maxSteps := 10000000) only [go_sem]; (try go_ints); (repeat refine And.intro side ?_); (first | refine hK _ ?_ | refine hR _ _ ?_); clear hK hR K R)
            refine RL_callDg rfl (by simp only [go_sem] <;> exact rfl) (fun e => hRL) rfl rfl rfl (fun e => by (try simp only [go_sem] at e); simp only [go_sem, e] <;> (try simp only [go_sem]) <;> first | exact LeA.refl _ | exact Le.refl _) rfl rfl ?_
            (refine rr fun K R hK hR => ?_; simp (maxSteps := 10000000) only [go_sem, bools_get hu, hXl]; (try go_ints); (try simp only [go_sem, bools_get hu, hXl]); (repeat refine And.intro side ?_); (first | refine hK _ ?_ | refine hR _ _ ?_); clear hK hR K R)
            repeat (first | refine nav ?_ | refine bo ?_)
            refine W_cond (b := false) (by simp only [go_sem] <;> first | rfl | simp) (fun hb => by cases hb) (fun _ => ?_)
            repeat (first | refine nav ?_ | refine bo ?_)
            exact ⟨_, rfl, rfl⟩
        · rintro t2 o rfl
          repeat (first | refine nav ?_ | refine bo ?_)
          (refine wr fun K R hK hR => ?_; simp (maxSteps := 10000000) only [go_sem]; (try go_ints); (repeat refine And.intro side ?_); (first | refine hK _ ?_ | refine hR _ _ ?_); clear hK hR K R)
          refine RL_callF (hlist) rfl rfl rfl (by first | (simp only [go_sem] <;> first | exact LeA.refl _ | exact Le.refl _) | exact LeA.refl _) rfl rfl ?_
          (refine rr fun K R hK hR => ?_; simp (maxSteps := 10000000) only [go_sem]; (try go_ints); (repeat refine And.intro side ?_); (first | refine hK _ ?_ | refine hR _ _ ?_); clear hK hR K R)
          repeat (first | refine nav ?_ | refine bo ?_)
          rcases hwi with ⟨hbo, rfl, rfl⟩ | ⟨hbo, hwi, rfl⟩
          · refine W_cond (b := true) (by simp only [go_sem, hbo] <;> first | rfl | simp) (fun _ => ?_) (fun hb => by cases hb)
            repeat (first | refine nav ?_ | refine bo ?_)
            (refine wr fun K R hK hR => ?_; simp (maxSteps := 10000000) only [go_sem]; (try go_ints); (repeat refine And.intro side ?_); (first | refine hK _ ?_ | refine hR _ _ ?_); clear hK hR K R)
            refine RL_callDg rfl (by simp only [go_sem] <;> exact rfl) (fun e => awake_spec) rfl rfl rfl (fun e => by (try simp only [go_sem] at e); simp only [go_sem, e] <;> (try simp only [go_sem]) <;> first | exact LeA.refl _ | exact Le.refl _) rfl rfl ?_
            (refine rr fun K R hK hR => ?_; simp (maxSteps := 10000000) only [go_sem]; (try go_ints); (repeat refine And.intro side ?_); (first | refine hK _ ?_ | refine hR _ _ ?_); clear hK hR K R)
            repeat (first | refine nav ?_ | refine bo ?_)
            refine endQ_data (by simp only [go_sem] <;> exact rfl) (Le.of_eq ?_) rfl
            simp
          · refine W_cond (b := false) (by simp only [go_sem, hbo] <;> first | rfl | simp) (fun hb => by cases hb) (fun _ => ?_)
            have hll2 : l.length = n := by
              rw [badOrd, Bool.or_eq_false_iff, Bool.not_eq_false', beq_iff_eq] at hbo
              omega
            obtain ⟨u, hu⟩ : ∃ b, (wonX (eB s) (inA s n) (mayOrd l) n)[0]? = some b := ⟨_, List.getElem?_eq_getElem (by rw [wonX_len]; omega)⟩
            rw [getD_of hu] at hwi
            subst hwi
            have hRL := hR1 l hll2
            have hXl := wonX_len (eB s) (inA s n) (mayOrd l) n
            generalize wonX (eB s) (inA s n) (mayOrd l) n = X at hu hRL hXl
            repeat (first | refine nav ?_ | refine bo ?_)
            (refine wr fun K R hK hR => ?_; simp (maxSteps := 10000000) only [go_sem]; (try go_ints); (repeat refine And.intro side ?_); (first | refine hK _ ?_ | refine hR _ _ ?_); clear hK hR K R)
            refine RL_callDg rfl (by simp only [go_sem] <;> exact rfl) (fun e => hRL) rfl rfl rfl (fun e => by (try simp only [go_sem] at e); simp only [go_sem, e] <;> (try simp only [go_sem]) <;> first | exact LeA.refl _ | exact Le.refl _) rfl rfl ?_
            (refine rr fun K R hK hR => ?_; simp (maxSteps := 10000000) only [go_sem, bools_get hu, hXl]; (try go_ints); (try simp only [go_sem, bools_get hu, hXl]); (repeat refine And.intro side ?_); (first | refine hK _ ?_ | refine hR _ _ ?_); clear hK hR K R)
            refine RL_callDg rfl (by simp only [go_sem] <;> exact rfl) (fun e => awake_spec) rfl rfl rfl (fun e => by (try simp only [go_sem] at e); simp only [go_sem, e] <;> (try simp only [go_sem]) <;> first | exact LeA.refl _ | exact Le.refl _) rfl rfl ?_
            (refine rr fun K R hK hR => ?_; simp (maxSteps := 10000000) only [go_sem]; (try go_ints); (repeat refine And.intro side ?_); (first | refine hK _ ?_ | refine hR _ _ ?_); clear hK hR K R)
            repeat (first | refine nav ?_ | refine bo ?_)
            refine endQ_data (by simp only [go_sem] <;> exact rfl) (Le.of_eq ?_) rfl
            simp
    · obtain ⟨e1, e2, e3⟩ := codeT_ne hcode l
      rw [e1] at hWo
      rw [e2] at hSt
      rw [e3] at hWi
      repeat (first | refine nav ?_ | refine bo ?_)
      (refine wr fun K R hK hR => ?_; simp (maxSteps := 10000000) only [go_sem]; (try go_ints); (repeat refine And.intro side ?_); (first | refine hK _ ?_ | refine hR _ _ ?_); clear hK hR K R)
      refine RL_callF (hC) rfl rfl rfl (by first | (simp only [go_sem] <;> first | exact LeA.refl _ | exact Le.refl _) | exact LeA.refl _) rfl rfl ?_
      (refine rr fun K R hK hR => ?_; simp (maxSteps := 10000000) only [go_sem]; (try go_ints); (repeat refine And.intro side ?_); (first | refine hK _ ?_ | refine hR _ _ ?_); clear hK hR K R)
      repeat (first | refine nav ?_ | refine bo ?_)
      (refine wr fun K R hK hR => ?_; simp (maxSteps := 10000000) only [go_sem]; (try go_ints); (repeat refine And.intro side ?_); (first | refine hK _ ?_ | refine hR _ _ ?_); clear hK hR K R)
      refine RL_callF (hWo) rfl rfl rfl (by first | (simp only [go_sem] <;> first | exact LeA.refl _ | exact Le.refl _) | exact LeA.refl _) rfl rfl ?_
      (refine rr fun K R hK hR => ?_; simp (maxSteps := 10000000) only [go_sem]; (try go_ints); (repeat refine And.intro side ?_); (first | refine hK _ ?_ | refine hR _ _ ?_); clear hK hR K R)
      repeat (first | refine nav ?_ | refine bo ?_)
      (refine wr fun K R hK hR => ?_; simp (maxSteps := 10000000) only [go_sem]; (try go_ints); (repeat refine And.intro side ?_); (first | refine hK _ ?_ | refine hR _ _ ?_); clear hK hR K R)
      refine RL_callF (hSt) rfl rfl rfl (by first | (simp only [go_sem] <;> first | exact LeA.refl _ | exact Le.refl _) | exact LeA.refl _) rfl rfl ?_
      (refine rr fun K R hK hR => ?_; simp (maxSteps := 10000000) only [go_sem]; (try go_ints); (repeat refine And.intro side ?_); (first | refine hK _ ?_ | refine hR _ _ ?_); clear hK hR K R)
      repeat (first | refine nav ?_ | refine bo ?_)
      (refine wr fun K R hK hR => ?_; simp (maxSteps := 10000000) only [go_sem]; (try go_ints); (repeat refine And.intro side ?_); (first | refine hK _ ?_ | refine hR _ _ ?_); clear hK hR K R)
      refine RL_callF (hWi) rfl rfl rfl (by first | (simp only [go_sem] <;> first | exact LeA.refl _ | exact Le.refl _) | exact LeA.refl _) rfl rfl ?_
      (refine rr fun K R hK hR => ?_; simp (maxSteps := 10000000) only [go_sem]; (try go_ints); (repeat refine And.intro side ?_); (first | refine hK _ ?_ | refine hR _ _ ?_); clear hK hR K R)
      repeat (first | refine nav ?_ | refine bo ?_)
      (refine wr fun K R hK hR => ?_; simp (maxSteps := 10000000) only [go_sem]; (try go_ints); (repeat refine And.intro side ?_); (first | refine hK _ ?_ | refine hR _ _ ?_); clear hK hR K R)
      repeat (first | refine nav ?_ | refine bo ?_)
      refine W_cond (b := true) (by simp only [go_sem]; simpa using hcode) (fun _ => ?_) (fun hb => by cases hb)
      repeat (first | refine nav ?_ | refine bo ?_)
      (refine wr fun K R hK hR => ?_; simp (maxSteps := 10000000) only [go_sem]; (try go_ints); (repeat refine And.intro side ?_); (first | refine hK _ ?_ | refine hR _ _ ?_); clear hK hR K R)
      refine RL_callDg rfl (by simp only [go_sem] <;> exact rfl) (fun e => awake_spec) rfl rfl rfl (fun e => by (try simp only [go_sem] at e); simp only [go_sem, e] <;> (try simp only [go_sem]) <;> first | exact LeA.refl _ | exact Le.refl _) rfl rfl ?_
      (refine rr fun K R hK hR => ?_; simp (maxSteps := 10000000) only [go_sem]; (try go_ints); (repeat refine And.intro side ?_); (first | refine hK _ ?_ | refine hR _ _ ?_); clear hK hR K R)
      repeat (first | refine nav ?_ | refine bo ?_)
      refine endQ_data (by simp only [go_sem] <;> exact rfl) (Le.of_eq ?_) rfl
      simp
end Go.AW
