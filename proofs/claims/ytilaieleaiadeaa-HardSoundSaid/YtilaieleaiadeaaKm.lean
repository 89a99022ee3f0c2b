/-
The runs that the seat's laws ask last: what is known of them before they begin.
-/
import Derived.Test.YtilaieleaiadeaaKl
import Derived.Test.YtilaieleaiadeaaKf
namespace Go.AW
open Go Go.Proofs TyTry
set_option maxRecDepth 100000
/-- The graph of four places. -/
def fourD : StrD := ⟨4, [⟨⟨#[69]⟩, 2, [[0, 1], [0, 2], [0, 3], [1, 3], [2, 3]]⟩]⟩
def symE : List SymD := [⟨⟨#[69]⟩, 2⟩]
theorem fourD_ok : fourD.Ok := by
  refine ⟨by decide, fun r hr => ?_⟩
  simp only [fourD, List.mem_singleton] at hr
  subst hr
  refine ⟨by decide, by decide, fun t ht => ?_⟩
  simp only [List.mem_cons, List.not_mem_nil, or_false] at ht
  rcases ht with rfl | rfl | rfl | rfl | rfl <;> decide
def fourA : AV := .agg [.i .i64 fourD.size, .sl 3 (rels fourD.rels)]
def fourG : AV := .tup [.agg [.sl 1 (tups [[1, 2, 3], [3], [3], []]), .sl 1 (bools [false, false, false, false])], .i .i64 0]
theorem four_graph : graphR fourD symE = fourG := by
  have e : eqA (graphR fourD symE) fourG = true := by decide +kernel
  exact eqA_eq _ _ e
def envAw (f : FuncId) (ac : List AV) (oc : List Ob) : Option (AV × List Ob) := if f == 34 && eqAL ac [fourA, .sl 2 (syms symE)] then some (fourG, oc) else none
def flAw (f : FuncId) : Bool := f == 64 || f == 82 || f == 99 || f == 85
theorem envAw_ok : ∀ f ac oc r o', envAw f ac oc = some (r, o') → ACalls Try.prog f ac oc (fun r' o'' => r' = r ∧ o'' = o') ∧ oc.length ≤ o'.length := by
  intro f ac oc r o' h
  unfold envAw at h
  by_cases hc : (f == 34 && eqAL ac [fourA, .sl 2 (syms symE)]) = true
  · rw [if_pos hc] at h
    simp only [Bool.and_eq_true, beq_iff_eq] at hc
    obtain ⟨rfl, h2⟩ := hc
    obtain rfl := eqAL_eq _ _ h2
    simp only [Option.some.injEq, Prod.mk.injEq] at h
    obtain ⟨rfl, rfl⟩ := h
    have := graphOf_spec fourD fourD_ok symE (by decide)
    rw [four_graph] at this
    exact ⟨this.frame (by decide +kernel) (by decide +kernel) oc, Nat.le_refl _⟩
  · rw [if_neg hc] at h; cases h
theorem run_ok {k : Nat} {f : FuncId} {ac : List AV} {r : AV} (h : xCall Try.prog envAw flAw k f ac [] = some (r, [])) : ACallsD Try.prog f ac r :=
  ((x_sound envAw flAw (by decide +kernel) envAw_ok k).2.2.2.1 f ac [] r [] h).1
end Go.AW
