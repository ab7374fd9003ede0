/- Contracts of Clamp of both sides; no condition. -/
import Derived.Test.YtcdachkaalkjlaaKit
namespace Go.Proofs.Ytcdachkaalkjlaa
open Go.ChangeShapes Go.WideShapes Go.ChangeAt Go.RowKit Go.Deep Go.Joins
set_option maxRecDepth 100000

def clampS (n lo hi : Int) : Int := if hi < lo ∨ n < lo then lo else if hi < n then hi else n

theorem impl_clamp (n lo hi : Int) (w : World) :
    Calls Try.prog 57 #[.int .i64 n, .int .i64 lo, .int .i64 hi] w fun e w' => e = .returned (.int .i64 (clampS n lo hi)) ∧ w = w' := by
  go_enter Try.func57, Try.ntmps57
  go_wp2
  all_goals
    go_ret
    refine ⟨ret_int ?_, rfl⟩
    unfold clampS
    omega
end Go.Proofs.Ytcdachkaalkjlaa
