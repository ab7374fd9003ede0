/- Contracts of the laws' own helpers sameInts (on equal lists), has and btoi; lengths at most 2^20. -/
import Derived.Test.YtnghfocboodkhaaInts
import Derived.Lib.QuietBelow
namespace Go.Proofs.Ytnghfocboodkhaa
open Go.ChangeShapes Go.WideShapes Go.ChangeAt Go.RowKit Go.Deep Go.Joins
set_option maxRecDepth 100000
end Go.Proofs.Ytnghfocboodkhaa
