/- Contracts of allWithin, isStrict, put, sorted and OrderOk; no condition beyond lengths. -/
import Derived.Test.YtkpgfmkmbgapmaaSort
import Derived.Test.YtkpgfmkmbgapmaaIn
import Derived.Test.YtkpgfmkmbgapmaaKit2
namespace Go.Proofs.Ytkpgfmkmbgapmaa
open Go.ChangeShapes Go.WideShapes Go.ChangeAt Go.RowKit Go.Deep Go.Joins
set_option maxRecDepth 100000

theorem putL_cons (n y : Int) (ys : List Int) : putL n (y :: ys) = if n ≤ y then n :: y :: ys else y :: putL n ys := rfl
theorem info_i : (Try.prog.info? 3).map (fun i => (i.zero, i.size, i.bytes)) = some (some (.int .i64 0), 1, 8) := by kernel_rfl
end Go.Proofs.Ytkpgfmkmbgapmaa
