/- Small words for the law of crossings; no condition. -/
import Derived.Test.YtkpgfmkmbgapmaaCount
import Derived.Test.YtkpgfmkmbgapmaaDrawCross
import Derived.Test.YtkpgfmkmbgapmaaSame
namespace Go.Proofs.Ytkpgfmkmbgapmaa
open Go.ChangeShapes Go.WideShapes Go.ChangeAt Go.RowKit Go.Deep Go.Joins
set_option maxRecDepth 100000

theorem sumN_le {f : Nat → Nat} {b : Nat} (h : ∀ k, f k ≤ b) : ∀ n, sumN f n ≤ b * n := by
  intro n
  induction n with
  | zero => simp [sumN]
  | succ n ih => rw [sumN, Nat.mul_succ]; have := h n; omega
theorem red_next {n : Int} {ls : List Cr} (h : Red (reduced n ls)) {k : Nat} {x y : Cr} (hx : (reduced n ls)[k]? = some x) (hy : (reduced n ls)[k + 1]? = some y) (ha : y.at_ = x.at_) : y.front = x.front := by
  have := h k x y hx hy
  obtain ⟨xa, xf⟩ := x
  obtain ⟨ya, yf⟩ := y
  simp only at ha
  subst ha
  cases xf <;> cases yf <;> first | rfl | exact absurd rfl this
end Go.Proofs.Ytkpgfmkmbgapmaa
