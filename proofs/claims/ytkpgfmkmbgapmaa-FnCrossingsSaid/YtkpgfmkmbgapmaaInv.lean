/- Contracts of CountInversions of both sides; no condition beyond the slice's length. -/
import Derived.Test.YtkpgfmkmbgapmaaOrdS
namespace Go.Proofs.Ytkpgfmkmbgapmaa
open Go.ChangeShapes Go.WideShapes Go.ChangeAt Go.RowKit Go.Deep Go.Joins
set_option maxRecDepth 100000

def invIn (xs : List Int) (z : Int) : Nat → Int
  | 0 => 0
  | i + 1 => invIn xs z i + match xs[i]? with | some y => if z < y then 1 else 0 | none => 0
def invTo (xs : List Int) : Nat → Int
  | 0 => 0
  | k + 1 => invTo xs k + match xs[k]? with | some z => invIn xs z k | none => 0
theorem invIn_step {xs : List Int} {z y : Int} {i : Nat} (hy : xs[i]? = some y) : invIn xs z (i + 1) = invIn xs z i + if z < y then 1 else 0 := by rw [invIn, hy]
theorem invTo_step {xs : List Int} {z : Int} {k : Nat} (hz : xs[k]? = some z) : invTo xs (k + 1) = invTo xs k + invIn xs z k := by rw [invTo, hz]
theorem invIn_bd (xs : List Int) (z : Int) (i : Nat) : 0 ≤ invIn xs z i ∧ invIn xs z i ≤ i := by
  induction i with
  | zero => simp [invIn]
  | succ i ih =>
    rw [invIn]
    split
    · split <;> omega
    · omega
theorem invTo_bd (xs : List Int) {k : Nat} (hk : k ≤ 8) : 0 ≤ invTo xs k ∧ invTo xs k ≤ 8 * k := by
  induction k with
  | zero => simp [invTo]
  | succ k ih =>
    have := ih (by omega)
    rw [invTo]
    split
    · rename_i z _
      have := invIn_bd xs z k
      omega
    · omega
def countInv (xs : List Int) : Int := if orderOk xs then invTo xs xs.length else -1
theorem countInv_yes {xs : List Int} (h : orderOk xs = true) : countInv xs = invTo xs xs.length := by simp [countInv, h]
theorem countInv_no {xs : List Int} (h : orderOk xs = false) : countInv xs = -1 := by simp [countInv, h]
theorem orderOk_short {xs : List Int} (h : orderOk xs = true) : 1 ≤ xs.length ∧ xs.length ≤ 7 := by
  obtain ⟨h1, h2, _⟩ := of_decide_eq_true h
  exact ⟨h1, h2⟩
end Go.Proofs.Ytkpgfmkmbgapmaa
