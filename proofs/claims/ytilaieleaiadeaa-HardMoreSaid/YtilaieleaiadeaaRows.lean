/-
  No cell of these rows narrows 'for every input' (looked for: loops, veiled, ifaces, maps, wideKeys, modest, calm, conditions, laid).
  DERIVED. THE GIVEN ROWS OF THIS SEAT. 5 by the template 'for every input the law returns true; each argument reads behind the call as it read before'; 0 by the template 'total and deterministic' (their statements: YtilaieleaiadeaaTotals.lean).
  GIVEN WITH THE SEED: the statements are not yours to turn. If you find one false, say at which input.
  Laid BY PROGRAM, IN A SANDBOX (cutbox-rows.mjs): the forced cells as the released guide's own fill.sh prints them over the translation 1817ef1b3dd8b6f1… (all of the seat's roots in one cut). By AI agents, Wed Nov 11 2026. No macro, syntax, notation, axiom, sorry.
-/
import Derived.Test.YtilaieleaiadeaaChecked
import GoSem.Claim
import GoSem.ClaimJoined
import GoSem.ClaimMapViews
import Derived.JoinedTies
import Derived.KernelRfl
namespace Go.Proofs.Ytilaieleaiadeaa
/- THE CELL 'sum', in the pinned program and in every row, IS THE sha256 OF THE DUMP (.gsa) THAT YtilaieleaiadeaaProg.lean LOADS. Nothing in Lean hashes anything: it is a label: what it is worth is what the hold of that sum in a sandbox is worth. -/
noncomputable def Try.pinned : Pinned := { name := "ytilaieleaiadeaa", sum := "1817ef1b3dd8b6f1ba2e180bd14878e1690343fac42d9c464d21cb28931a5799", checked := Try.checked }
namespace Rows
def none {H : Type} : Left H := { results := [], args := [] }

/-- 'paraphrastlaw21.HardWalks': WHATEVER THE INPUT: true; the input reads as it did. -/
def hardWalksSpec : ChangeSpec := { name := "hardWalks", fn := fun _ => fun
  | [d1, d2] => { results := [.lit (.bool true)], args := [d1, d2] }
  | _ => none }
def hardWalksRow : OpenClaim := { program := "ytilaieleaiadeaa", sum := "1817ef1b3dd8b6f1ba2e180bd14878e1690343fac42d9c464d21cb28931a5799", func := "paraphrast/paraphrastlaw21.HardWalks", spec := "hardWalks", unfollowed := true, recurses := true, apart := false }
def HardWalksSaid : Prop := hardWalksRow.holds Try.pinned (OpenSpec.ofChange hardWalksSpec)

/-- ITS FALSE NEIGHBOUR: 'it returns false'. Refute it at one input. -/
def hardWalksWrong : ChangeSpec := { name := "hardWalks", fn := fun _ => fun
  | [d1, d2] => { results := [.lit (.bool false)], args := [d1, d2] }
  | _ => none }
def HardWalksWrongFalsely : Prop := hardWalksRow.holds Try.pinned (OpenSpec.ofChange hardWalksWrong)

/-- 'paraphrastlaw21.HardMore': WHATEVER THE INPUT: true; the input reads as it did. -/
def hardMoreSpec : ChangeSpec := { name := "hardMore", fn := fun _ => fun
  | [d1, d2, d3] => { results := [.lit (.bool true)], args := [d1, d2, d3] }
  | _ => none }
def hardMoreRow : OpenClaim := { program := "ytilaieleaiadeaa", sum := "1817ef1b3dd8b6f1ba2e180bd14878e1690343fac42d9c464d21cb28931a5799", func := "paraphrast/paraphrastlaw21.HardMore", spec := "hardMore", unfollowed := true, recurses := true, apart := false }
def HardMoreSaid : Prop := hardMoreRow.holds Try.pinned (OpenSpec.ofChange hardMoreSpec)

/-- ITS FALSE NEIGHBOUR: 'it returns false'. Refute it at one input. -/
def hardMoreWrong : ChangeSpec := { name := "hardMore", fn := fun _ => fun
  | [d1, d2, d3] => { results := [.lit (.bool false)], args := [d1, d2, d3] }
  | _ => none }
def HardMoreWrongFalsely : Prop := hardMoreRow.holds Try.pinned (OpenSpec.ofChange hardMoreWrong)

/-- 'paraphrastlaw21.HardClauses': WHATEVER THE INPUT: true; the input reads as it did. -/
def hardClausesSpec : ChangeSpec := { name := "hardClauses", fn := fun _ => fun
  | [d1, d2] => { results := [.lit (.bool true)], args := [d1, d2] }
  | _ => none }
def hardClausesRow : OpenClaim := { program := "ytilaieleaiadeaa", sum := "1817ef1b3dd8b6f1ba2e180bd14878e1690343fac42d9c464d21cb28931a5799", func := "paraphrast/paraphrastlaw21.HardClauses", spec := "hardClauses", unfollowed := true, recurses := true, apart := false }
def HardClausesSaid : Prop := hardClausesRow.holds Try.pinned (OpenSpec.ofChange hardClausesSpec)

/-- ITS FALSE NEIGHBOUR: 'it returns false'. Refute it at one input. -/
def hardClausesWrong : ChangeSpec := { name := "hardClauses", fn := fun _ => fun
  | [d1, d2] => { results := [.lit (.bool false)], args := [d1, d2] }
  | _ => none }
def HardClausesWrongFalsely : Prop := hardClausesRow.holds Try.pinned (OpenSpec.ofChange hardClausesWrong)

/-- 'paraphrastlaw21.HardSound': WHATEVER THE INPUT: true; the input reads as it did. -/
def hardSoundSpec : ChangeSpec := { name := "hardSound", fn := fun _ => fun
  | [d1, d2] => { results := [.lit (.bool true)], args := [d1, d2] }
  | _ => none }
def hardSoundRow : OpenClaim := { program := "ytilaieleaiadeaa", sum := "1817ef1b3dd8b6f1ba2e180bd14878e1690343fac42d9c464d21cb28931a5799", func := "paraphrast/paraphrastlaw21.HardSound", spec := "hardSound", unfollowed := true, recurses := true, apart := false }
def HardSoundSaid : Prop := hardSoundRow.holds Try.pinned (OpenSpec.ofChange hardSoundSpec)

/-- ITS FALSE NEIGHBOUR: 'it returns false'. Refute it at one input. -/
def hardSoundWrong : ChangeSpec := { name := "hardSound", fn := fun _ => fun
  | [d1, d2] => { results := [.lit (.bool false)], args := [d1, d2] }
  | _ => none }
def HardSoundWrongFalsely : Prop := hardSoundRow.holds Try.pinned (OpenSpec.ofChange hardSoundWrong)

/-- 'paraphrastlaw21.HardWon': WHATEVER THE INPUT: true; the input reads as it did. -/
def hardWonSpec : ChangeSpec := { name := "hardWon", fn := fun _ => fun
  | [d1, d2] => { results := [.lit (.bool true)], args := [d1, d2] }
  | _ => none }
def hardWonRow : OpenClaim := { program := "ytilaieleaiadeaa", sum := "1817ef1b3dd8b6f1ba2e180bd14878e1690343fac42d9c464d21cb28931a5799", func := "paraphrast/paraphrastlaw21.HardWon", spec := "hardWon", unfollowed := true, recurses := true, apart := false }
def HardWonSaid : Prop := hardWonRow.holds Try.pinned (OpenSpec.ofChange hardWonSpec)

/-- ITS FALSE NEIGHBOUR: 'it returns false'. Refute it at one input. -/
def hardWonWrong : ChangeSpec := { name := "hardWon", fn := fun _ => fun
  | [d1, d2] => { results := [.lit (.bool false)], args := [d1, d2] }
  | _ => none }
def HardWonWrongFalsely : Prop := hardWonRow.holds Try.pinned (OpenSpec.ofChange hardWonWrong)

/- THE SECOND FORM. 'bulk': how many values and letters a reading holds, each counted each time it is reached (what is shared counts as often as it is met; a slice's spare places count too). A statement '..UptoSaid' is the law's where the arguments, and the package variables that the reading takes, are together of bulk at most 1048576: NARROWER than '..Said'. Prove '..Said' where nothing that the law and all that it calls make is longer than what came in: it says more and counts as full. Else prove '..UptoSaid'. A law counts once. -/
mutual
def uptoBulk {H : Type} : DataW H → Nat
  | .lit (.string bytes) => bytes.length + 1
  | .lit _ => 1
  | .nil => 1
  | .ptr d => uptoBulk d + 1
  | .slice elems spare => uptoBulkAll elems + uptoBulkAll spare + 1
  | .agg parts => uptoBulkAll parts + 1
  | .iface _ d => uptoBulk d + 1
  | .map entries => uptoBulkEntries entries + 1
  | .held _ => 1
def uptoBulkAll {H : Type} : List (DataW H) → Nat
  | [] => 0
  | d :: r => uptoBulk d + uptoBulkAll r
def uptoBulkEntries {H : Type} : List (Lit × DataW H) → Nat
  | [] => 0
  | x :: r => uptoBulkEntry x + uptoBulkEntries r
def uptoBulkEntry {H : Type} : Lit × DataW H → Nat
  | (.string bytes, d) => bytes.length + uptoBulk d + 1
  | (_, d) => uptoBulk d + 1
 end
def uptoSmall : (H : Type) → List (DataW H) → Bool := fun _ ds => decide (uptoBulkAll ds ≤ 1048576)
def OpenSpec.upto (s : _root_.Go.ChangeSpec) : _root_.Go.OpenSpec := { _root_.Go.OpenSpec.ofChange s with cond := some uptoSmall }

/-- 'paraphrastlaw21.HardWalks', WHERE WHAT IT READS IS OF BULK AT MOST 1048576: true; the input reads as it did. -/
def hardWalksUptoRow : OpenClaim := { program := "ytilaieleaiadeaa", sum := "1817ef1b3dd8b6f1ba2e180bd14878e1690343fac42d9c464d21cb28931a5799", func := "paraphrast/paraphrastlaw21.HardWalks", spec := "hardWalks", unfollowed := true, recurses := true, apart := false, narrowed := true }
def HardWalksUptoSaid : Prop := hardWalksUptoRow.holds Try.pinned (OpenSpec.upto hardWalksSpec)

/-- 'paraphrastlaw21.HardMore', WHERE WHAT IT READS IS OF BULK AT MOST 1048576: true; the input reads as it did. -/
def hardMoreUptoRow : OpenClaim := { program := "ytilaieleaiadeaa", sum := "1817ef1b3dd8b6f1ba2e180bd14878e1690343fac42d9c464d21cb28931a5799", func := "paraphrast/paraphrastlaw21.HardMore", spec := "hardMore", unfollowed := true, recurses := true, apart := false, narrowed := true }
def HardMoreUptoSaid : Prop := hardMoreUptoRow.holds Try.pinned (OpenSpec.upto hardMoreSpec)

/-- 'paraphrastlaw21.HardClauses', WHERE WHAT IT READS IS OF BULK AT MOST 1048576: true; the input reads as it did. -/
def hardClausesUptoRow : OpenClaim := { program := "ytilaieleaiadeaa", sum := "1817ef1b3dd8b6f1ba2e180bd14878e1690343fac42d9c464d21cb28931a5799", func := "paraphrast/paraphrastlaw21.HardClauses", spec := "hardClauses", unfollowed := true, recurses := true, apart := false, narrowed := true }
def HardClausesUptoSaid : Prop := hardClausesUptoRow.holds Try.pinned (OpenSpec.upto hardClausesSpec)

/-- 'paraphrastlaw21.HardSound', WHERE WHAT IT READS IS OF BULK AT MOST 1048576: true; the input reads as it did. -/
def hardSoundUptoRow : OpenClaim := { program := "ytilaieleaiadeaa", sum := "1817ef1b3dd8b6f1ba2e180bd14878e1690343fac42d9c464d21cb28931a5799", func := "paraphrast/paraphrastlaw21.HardSound", spec := "hardSound", unfollowed := true, recurses := true, apart := false, narrowed := true }
def HardSoundUptoSaid : Prop := hardSoundUptoRow.holds Try.pinned (OpenSpec.upto hardSoundSpec)

/-- 'paraphrastlaw21.HardWon', WHERE WHAT IT READS IS OF BULK AT MOST 1048576: true; the input reads as it did. -/
def hardWonUptoRow : OpenClaim := { program := "ytilaieleaiadeaa", sum := "1817ef1b3dd8b6f1ba2e180bd14878e1690343fac42d9c464d21cb28931a5799", func := "paraphrast/paraphrastlaw21.HardWon", spec := "hardWon", unfollowed := true, recurses := true, apart := false, narrowed := true }
def HardWonUptoSaid : Prop := hardWonUptoRow.holds Try.pinned (OpenSpec.upto hardWonSpec)

end Rows
end Go.Proofs.Ytilaieleaiadeaa
