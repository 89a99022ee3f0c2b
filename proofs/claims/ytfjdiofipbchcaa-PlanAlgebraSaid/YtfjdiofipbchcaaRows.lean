/-
  NARROWER THAN 'FOR EVERY INPUT', by the rows' own cells (each row's printed sentence says how): PlanAlgebra: loops · PlanValid: loops.
  DERIVED. THE GIVEN ROWS OF THIS SEAT. 2 by the template 'for every input the law returns true; each argument reads behind the call as it read before'; 0 by the template 'total and deterministic' (their statements: YtfjdiofipbchcaaTotals.lean).
  GIVEN WITH THE SEED: the statements are not yours to turn. If you find one false, say at which input.
  Laid BY PROGRAM, IN A SANDBOX (cutbox-rows.mjs): the forced cells as the released guide's own fill.sh prints them over the translation 13e2b3ca8711f208… (all of the seat's roots in one cut). By AI agents, Wed Nov 11 2026. No macro, syntax, notation, axiom, sorry.
-/
import Derived.Test.YtfjdiofipbchcaaChecked
import GoSem.Claim
import GoSem.ClaimJoined
import GoSem.ClaimMapViews
import Derived.JoinedTies
import Derived.KernelRfl
namespace Go.Proofs.Ytfjdiofipbchcaa
/- THE CELL 'sum', in the pinned program and in every row, IS THE sha256 OF THE DUMP (.gsa) THAT YtfjdiofipbchcaaProg.lean LOADS. Nothing in Lean hashes anything: it is a label: what it is worth is what the hold of that sum in a sandbox is worth. -/
noncomputable def Try.pinned : Pinned := { name := "ytfjdiofipbchcaa", sum := "13e2b3ca8711f20816f0f464c36341166978ad7a500dc528fefa29eecf10a291", checked := Try.checked }
namespace Rows
def none {H : Type} : Left H := { results := [], args := [] }

/-- 'paraphrastlaw05.PlanAlgebra': WHATEVER THE INPUT: true; the input reads as it did. -/
def planAlgebraSpec : ChangeSpec := { name := "planAlgebra", fn := fun _ => fun
  | [d1, d2, d3] => { results := [.lit (.bool true)], args := [d1, d2, d3] }
  | _ => none }
def planAlgebraRow : OpenClaim := { program := "ytfjdiofipbchcaa", sum := "13e2b3ca8711f20816f0f464c36341166978ad7a500dc528fefa29eecf10a291", func := "paraphrast/paraphrastlaw05.PlanAlgebra", spec := "planAlgebra", unfollowed := true, recurses := true, loops := true, apart := false }
def PlanAlgebraSaid : Prop := planAlgebraRow.holds Try.pinned (OpenSpec.ofChange planAlgebraSpec)

/-- ITS FALSE NEIGHBOUR: 'it returns false'. Refute it at one input. -/
def planAlgebraWrong : ChangeSpec := { name := "planAlgebra", fn := fun _ => fun
  | [d1, d2, d3] => { results := [.lit (.bool false)], args := [d1, d2, d3] }
  | _ => none }
def PlanAlgebraWrongFalsely : Prop := planAlgebraRow.holds Try.pinned (OpenSpec.ofChange planAlgebraWrong)

/-- 'paraphrastlaw05.PlanValid': WHATEVER THE INPUT: true; the input reads as it did. -/
def planValidSpec : ChangeSpec := { name := "planValid", fn := fun _ => fun
  | [d] => { results := [.lit (.bool true)], args := [d] }
  | _ => none }
def planValidRow : OpenClaim := { program := "ytfjdiofipbchcaa", sum := "13e2b3ca8711f20816f0f464c36341166978ad7a500dc528fefa29eecf10a291", func := "paraphrast/paraphrastlaw05.PlanValid", spec := "planValid", unfollowed := true, recurses := true, loops := true, apart := false }
def PlanValidSaid : Prop := planValidRow.holds Try.pinned (OpenSpec.ofChange planValidSpec)

/-- ITS FALSE NEIGHBOUR: 'it returns false'. Refute it at one input. -/
def planValidWrong : ChangeSpec := { name := "planValid", fn := fun _ => fun
  | [d] => { results := [.lit (.bool false)], args := [d] }
  | _ => none }
def PlanValidWrongFalsely : Prop := planValidRow.holds Try.pinned (OpenSpec.ofChange planValidWrong)

/- THE SECOND FORM. 'bulk': how many values and letters a reading holds, each counted each time it is reached (what is shared counts as often as it is met; a slice's spare places count too). A statement '..UptoSaid' is the law's where the arguments, and the package variables that the reading takes, are together of bulk at most 1048576: NARROWER than '..Said'. Prove '..Said' where nothing that the law and all that it calls make is longer than what came in: it says more and counts as full. Else prove '..UptoSaid'. A law counts once. -/
mutual
def uptoBulk {H : Type} : DataW H → Nat
  | .lit (.string bytes) => bytes.length + 1
  | .lit _ => 1
  | .nil => 1
  | .ptr d => uptoBulk d + 1
  | .slice elems spare => uptoBulkAll elems + uptoBulkAll spare + 1
  | .agg parts => uptoBulkAll parts + 1
  | .iface _ d => uptoBulk d + 1
  | .map entries => uptoBulkEntries entries + 1
  | .held _ => 1
def uptoBulkAll {H : Type} : List (DataW H) → Nat
  | [] => 0
  | d :: r => uptoBulk d + uptoBulkAll r
def uptoBulkEntries {H : Type} : List (Lit × DataW H) → Nat
  | [] => 0
  | x :: r => uptoBulkEntry x + uptoBulkEntries r
def uptoBulkEntry {H : Type} : Lit × DataW H → Nat
  | (.string bytes, d) => bytes.length + uptoBulk d + 1
  | (_, d) => uptoBulk d + 1
 end
def uptoSmall : (H : Type) → List (DataW H) → Bool := fun _ ds => decide (uptoBulkAll ds ≤ 1048576)
def OpenSpec.upto (s : _root_.Go.ChangeSpec) : _root_.Go.OpenSpec := { _root_.Go.OpenSpec.ofChange s with cond := some uptoSmall }

/-- 'paraphrastlaw05.PlanAlgebra', WHERE WHAT IT READS IS OF BULK AT MOST 1048576: true; the input reads as it did. -/
def planAlgebraUptoRow : OpenClaim := { program := "ytfjdiofipbchcaa", sum := "13e2b3ca8711f20816f0f464c36341166978ad7a500dc528fefa29eecf10a291", func := "paraphrast/paraphrastlaw05.PlanAlgebra", spec := "planAlgebra", unfollowed := true, recurses := true, loops := true, apart := false, narrowed := true }
def PlanAlgebraUptoSaid : Prop := planAlgebraUptoRow.holds Try.pinned (OpenSpec.upto planAlgebraSpec)

/-- 'paraphrastlaw05.PlanValid', WHERE WHAT IT READS IS OF BULK AT MOST 1048576: true; the input reads as it did. -/
def planValidUptoRow : OpenClaim := { program := "ytfjdiofipbchcaa", sum := "13e2b3ca8711f20816f0f464c36341166978ad7a500dc528fefa29eecf10a291", func := "paraphrast/paraphrastlaw05.PlanValid", spec := "planValid", unfollowed := true, recurses := true, loops := true, apart := false, narrowed := true }
def PlanValidUptoSaid : Prop := planValidUptoRow.holds Try.pinned (OpenSpec.upto planValidSpec)

end Rows
end Go.Proofs.Ytfjdiofipbchcaa
