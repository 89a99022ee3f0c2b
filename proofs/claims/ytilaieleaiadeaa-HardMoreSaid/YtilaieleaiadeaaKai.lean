/-
A run: the count of paths.
-/
import Derived.Test.YtilaieleaiadeaaKag
namespace Go.AW
open Go Go.Proofs TyTry
set_option maxRecDepth 100000
theorem walks_run : ACallsD Try.prog 12 [fourA, .i .i64 2] (.tup [.i .i64 3, .i .i64 0]) := run_ok (k := 2000) (by kernel_rfl)
end Go.AW
