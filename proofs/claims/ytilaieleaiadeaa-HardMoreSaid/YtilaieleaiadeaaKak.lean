/-
A run: the count of states.
-/
import Derived.Test.YtilaieleaiadeaaKag
namespace Go.AW
open Go Go.Proofs TyTry
set_option maxRecDepth 100000
theorem models_run : ACallsD Try.prog 20 [.agg [.i .i64 2, .sl 1 [[.sl 1 [[.i .i64 1], [.i .i64 2]]]]]] (.tup [.i .i64 3, .i .i64 0]) := run_ok (k := 2000) (by kernel_rfl)
end Go.AW
