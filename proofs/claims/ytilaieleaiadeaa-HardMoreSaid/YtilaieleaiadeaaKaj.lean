/-
A run: no state fits.
-/
import Derived.Test.YtilaieleaiadeaaKag
namespace Go.AW
open Go Go.Proofs TyTry
set_option maxRecDepth 100000
theorem solve_run : ACallsD Try.prog 22 [.agg [.i .i64 1, .sl 1 [[.sl 1 [[.i .i64 1]]], [.sl 1 [[.i .i64 (-1)]]]]]] (.tup [.sl 1 [], .i .i64 6]) := run_ok (k := 2000) (by kernel_rfl)
end Go.AW
