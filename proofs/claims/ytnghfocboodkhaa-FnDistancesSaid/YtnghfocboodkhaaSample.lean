/- The given law FnExactSampleBody: the program's and the reference's SampleBody return equal bodies in new memory, so the law returns true; no condition. -/
import Derived.Test.YtnghfocboodkhaaLimb
namespace Go.Proofs.Ytnghfocboodkhaa
open Go.ChangeShapes Go.WideShapes Go.ChangeAt Go.RowKit Go.Deep Go.Joins
set_option maxRecDepth 100000

def sampleLbs : List Lb := [⟨0, 1, 4⟩, ⟨0, 2, 6⟩, ⟨1, 3, 3⟩, ⟨1, 4, 3⟩, ⟨2, 5, 5⟩, ⟨2, 6, 5⟩]

theorem impl_SampleBody {w : World} :
    Calls Try.prog 16 #[] w fun e w' => ∃ g, e = .returned (.agg #[.int .i64 7, .slice (some ⟨g, 0, none⟩) 6 6]) ∧ w'.ownsRow w.heap.size 52 3 (.slice (some ⟨g, 0, none⟩) 6 6) 6 (lbs sampleLbs) ∧ Below w.heap.size w w' := by
  go_enter Try.func16, Try.ntmps16
  go_wp2
  go_returns
  have h := Row.own (base := w.heap.size) (n := 6) (size := 3) (xs := lbs sampleLbs) (Row.new (w.alloc (Obj.cells #[.int .i64 7, .slice (some ⟨w.heap.size + 1, 0, none⟩) 6 6] 24)) 52 (lbs sampleLbs)) (by simp) (Nat.le_refl 6) (by unfold maxLen; omega) rfl rfl
  rw [World.size_alloc] at h
  exact ⟨_, rfl, h, by go_grown⟩

theorem spec_SampleBody {w : World} :
    Calls Try.prog 15 #[] w fun e w' => ∃ g, e = .returned (.agg #[.int .i64 7, .slice (some ⟨g, 0, none⟩) 6 6]) ∧ w'.ownsRow w.heap.size 52 3 (.slice (some ⟨g, 0, none⟩) 6 6) 6 (lbs sampleLbs) ∧ Below w.heap.size w w' := by
  go_enter Try.func15, Try.ntmps15
  go_wp2
  go_returns
  have h := Row.own (base := w.heap.size) (n := 6) (size := 3) (xs := lbs sampleLbs) (Row.new (w.alloc (Obj.cells #[.int .i64 7, .slice (some ⟨w.heap.size + 1, 0, none⟩) 6 6] 24)) 52 (lbs sampleLbs)) (by simp) (Nat.le_refl 6) (by unfold maxLen; omega) rfl rfl
  rw [World.size_alloc] at h
  exact ⟨_, rfl, h, by go_grown⟩

end Go.Proofs.Ytnghfocboodkhaa
