/-
A run: the first path.
-/
import Derived.Test.YtilaieleaiadeaaKag
namespace Go.AW
open Go Go.Proofs TyTry
set_option maxRecDepth 100000
theorem walk_run : ACallsD Try.prog 11 [fourA] (.tup [.sl 1 (ints [0, 3]), .i .i64 0]) := run_ok (k := 2000) (by kernel_rfl)
end Go.AW
