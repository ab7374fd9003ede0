/- Contracts of Clamp of both sides; no condition. -/
import Derived.Test.YtjcfdkmlkhgfiaaKit
namespace Go.Proofs.Ytjcfdkmlkhgfiaa
open Go.ChangeShapes Go.WideShapes Go.ChangeAt Go.RowKit Go.Deep Go.Joins
set_option maxRecDepth 100000

def clampS (n lo hi : Int) : Int := if hi < lo ∨ n < lo then lo else if hi < n then hi else n

theorem spec_clamp (n lo hi : Int) (w : World) :
    Calls Try.prog 9 #[.int .i64 n, .int .i64 lo, .int .i64 hi] w fun e w' => e = .returned (.int .i64 (clampS n lo hi)) ∧ w = w' := by
  by_cases h1 : hi < lo
  · go_enter Try.func9, Try.ntmps9
    go_wp2
    go_ret
    exact ⟨ret_int (by unfold clampS; omega), rfl⟩
  · by_cases h2 : n < lo
    · go_enter Try.func9, Try.ntmps9
      go_wp2
      go_ret
      exact ⟨ret_int (by unfold clampS; omega), rfl⟩
    · by_cases h3 : hi < n
      · go_enter Try.func9, Try.ntmps9
        go_wp2
        go_ret
        exact ⟨ret_int (by unfold clampS; omega), rfl⟩
      · go_enter Try.func9, Try.ntmps9
        go_wp2
        go_ret
        exact ⟨ret_int (by unfold clampS; omega), rfl⟩

theorem impl_clamp (n lo hi : Int) (w : World) :
    Calls Try.prog 10 #[.int .i64 n, .int .i64 lo, .int .i64 hi] w fun e w' => e = .returned (.int .i64 (clampS n lo hi)) ∧ w = w' := by
  go_enter Try.func10, Try.ntmps10
  go_wp2
  all_goals
    go_ret
    refine ⟨ret_int ?_, rfl⟩
    unfold clampS
    omega
end Go.Proofs.Ytjcfdkmlkhgfiaa
