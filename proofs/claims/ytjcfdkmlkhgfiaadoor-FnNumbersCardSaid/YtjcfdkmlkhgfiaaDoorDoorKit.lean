/- What the laid table gives: the program's table of powers of ten reads as its initialiser lays it; no condition beyond the row's. -/
import Derived.Test.YtjcfdkmlkhgfiaaDoorItoa
import Derived.Test.YtjcfdkmlkhgfiaaDoorTie
import Derived.Test.YtjcfdkmlkhgfiaaDoorCards
import Derived.LaidMore
import Derived.Stop.LaidErr
import Derived.Stop.Joined
import Derived.SevenTiedAt
import Derived.MakeChecks
namespace Go.Proofs.YtjcfdkmlkhgfiaaDoor
open Go.ChangeShapes Go.WideShapes Go.ChangeAt Go.RowKit Go.Deep Go.Joins
set_option maxRecDepth 100000

theorem gPow : Tryd.prog.globalNamed "internal/strconv.uint64pow10" = some 3 := by kernel_rfl
theorem tPow : (Tryd.prog.globals[3]?).map (·.type) = some 79 := by kernel_rfl
theorem laidTab {W : World} {a b : String × DataW Unit} {rest : List (String × DataW Unit)} (h : laidMet Tryd.prog (a :: b :: ("internal/strconv.uint64pow10", Rows.laid_internal_strconv_uint64pow10) :: rest) W) : Tab W :=
  Lib.tabIs_of_head gPow tPow Tryd.underlying79 Tryd.underlying66 (by kernel_rfl) (by kernel_rfl) (show laidMet Tryd.prog (("internal/strconv.uint64pow10", Lib.tabData .u64 Lib.pow10Tab) :: rest) W from h.tail.tail)
end Go.Proofs.YtjcfdkmlkhgfiaaDoor
