/- Contracts of StepSize of both sides; no condition beyond the slices' lengths. -/
import Derived.Test.YtbgdnlcjliaigaaOrd
namespace Go.Proofs.Ytbgdnlcjliaigaa
open Go.ChangeShapes Go.WideShapes Go.ChangeAt Go.RowKit Go.Deep Go.Joins
set_option maxRecDepth 100000

def stepTo (p q : List Int) : Nat → Int
  | 0 => 0
  | k + 1 => max (stepTo p q k) (match p[k]?, q[k]? with | some a, some b => max (a - b) (b - a) | _, _ => 0)
theorem stepTo_step {p q : List Int} {k : Nat} {a b : Int} (ha : p[k]? = some a) (hb : q[k]? = some b) : stepTo p q (k + 1) = max (stepTo p q k) (max (a - b) (b - a)) := by rw [stepTo, ha, hb]
def stepOk (p q : List Int) : Bool := decide (p.length = q.length ∧ p.length ≤ 12) && (inAll p (-2000) 2000 && inAll q (-2000) 2000)
def stepSize (p q : List Int) : Int := if stepOk p q then stepTo p q p.length else -1
theorem stepSize_yes {p q : List Int} (h : stepOk p q = true) : stepSize p q = stepTo p q p.length := by simp [stepSize, h]
theorem stepSize_no {p q : List Int} (h : stepOk p q = false) : stepSize p q = -1 := by simp [stepSize, h]
theorem stepOk_len {p q : List Int} (h : p.length ≠ q.length ∨ 12 < p.length) : stepOk p q = false := by
  have : decide (p.length = q.length ∧ p.length ≤ 12) = false := decide_eq_false (by omega)
  simp [stepOk, this]
theorem stepOk_in {p q : List Int} (h1 : p.length = q.length) (h2 : p.length ≤ 12) : stepOk p q = (inAll p (-2000) 2000 && inAll q (-2000) 2000) := by
  have : decide (p.length = q.length ∧ p.length ≤ 12) = true := decide_eq_true ⟨h1, h2⟩
  simp [stepOk, this]
theorem stepTo_bd {p q : List Int} (hp : inAll p (-2000) 2000 = true) (hq : inAll q (-2000) 2000 = true) (k : Nat) : 0 ≤ stepTo p q k ∧ stepTo p q k ≤ 4000 := by
  induction k with
  | zero => simp [stepTo]
  | succ k ih =>
    rw [stepTo]
    split
    · rename_i a b ha hb
      have := inAll_at hp ha
      have := inAll_at hq hb
      omega
    · omega

theorem impl_size {n : Int} {w : World} (h : -9223372036854775807 ≤ n) (h2 : n ≤ 9223372036854775807) : Calls Try.prog 54 #[.int .i64 n] w fun e w' => e = .returned (.int .i64 (max n (-n))) ∧ w = w' := by
  go_enter Try.func54, Try.ntmps54
  go_wp2
  all_goals
    go_ret
    exact ⟨ret_int (by omega), rfl⟩

theorem stepTo_bdU {p q : List Int} {k : Nat} (hp : InUpTo p (-2000) 2000 k) (hq : InUpTo q (-2000) 2000 k) : 0 ≤ stepTo p q k ∧ stepTo p q k ≤ 4000 := by
  induction k with
  | zero => simp [stepTo]
  | succ k ih =>
    have := ih (fun i x hi => hp i x (by omega)) (fun i x hi => hq i x (by omega))
    rw [stepTo]
    split
    · rename_i a b ha hb
      have := hp k a (by omega) ha
      have := hq k b (by omega) hb
      omega
    · omega
theorem stepSize_no1 {p q : List Int} {k : Nat} {x : Int} (hx : p[k]? = some x) (h : x < -2000 ∨ 2000 < x) : stepSize p q = -1 := stepSize_no (by simp [stepOk, inAll_no hx h])
theorem stepSize_no2 {p q : List Int} {k : Nat} {x : Int} (hx : q[k]? = some x) (h : x < -2000 ∨ 2000 < x) : stepSize p q = -1 := stepSize_no (by simp [stepOk, inAll_no hx h])
end Go.Proofs.Ytbgdnlcjliaigaa
