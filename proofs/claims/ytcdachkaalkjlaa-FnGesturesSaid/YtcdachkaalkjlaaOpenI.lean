/- The argument of integers, opened; no condition. -/
import Derived.Test.YtcdachkaalkjlaaInts
namespace Go.Proofs.Ytcdachkaalkjlaa
open Go.ChangeShapes Go.WideShapes Go.ChangeAt Go.RowKit Go.Deep Go.Joins
set_option maxRecDepth 100000

theorem cells_i : Try.prog.cellsOf 3 = 1 := by kernel_rfl
theorem open_intA {H : Type} {enc : TypeId × Value → H} {w : World} {base : Nat} {r : Reach} {b0 : Nat} {v : Value} {d : DataW H} {p : List MemPlace} (hv : Value.okWide Try.prog w r b0 22 v) (h : DataW.Trod enc Try.prog w base (fun _ => true) true 22 v d p) :
    ∃ (A : Option Addr) (n c : Nat) (xs : List Int), v = .slice A n c ∧ Reads w 1 A n (ints xs) ∧ n ≤ 9223372036854775807 := by
  obtain ⟨A, n, c, xs, h1, h2, h3, _⟩ := open_intS Try.underlying22 Try.underlying3 cells_i hv h
  exact ⟨A, n, c, xs, h1, h2, h3⟩
end Go.Proofs.Ytcdachkaalkjlaa
