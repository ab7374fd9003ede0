/- Contracts of the laws' own helpers sameInts (on equal lists), has and btoi; lengths at most 2^20. -/
import Derived.Test.YtcdachkaalkjlaaInts
import Derived.Lib.QuietBelow
namespace Go.Proofs.Ytcdachkaalkjlaa
open Go.ChangeShapes Go.WideShapes Go.ChangeAt Go.RowKit Go.Deep Go.Joins
set_option maxRecDepth 100000

theorem laws_sameInts_t {A B : Option Addr} {n m c d : Nat} {xs : List Int} {w : World} (ha : Reads w 1 A n (ints xs)) (hb : Reads w 1 B m (ints xs)) (hn : n ≤ 1048576) :
    Calls Try.prog 38 #[.slice A n c, .slice B m d] w fun e w' => e = .returned (.bool true) ∧ Below w.heap.size w w' := by
  have e1 := ha.len
  have e2 := hb.len
  obtain rfl : n = m := by omega
  clear e1 e2
  go_enter Try.func38, Try.ntmps38
  go_wp2
  go_loopw [5] (fun i wr => ∃ k q : Nat, k ≤ n ∧ i = .int .i64 k ∧ wr = w.drewN q) (fun i _ => n - (intOf i).toNat)
  case atStart => exact ⟨0, 0, Nat.zero_le _, rfl, rfl⟩
  case round =>
    obtain ⟨k, q, hk, rfl, rfl⟩ := hrel
    by_cases hlt : k < n
    · obtain ⟨b, o, x, rfl, hbB, hx, c0⟩ := ha.int hlt
      obtain ⟨b', o', x', rfl, hbB', hx', c1⟩ := hb.int hlt
      obtain rfl : x = x' := by rw [hx] at hx'; exact Option.some.inj hx'
      clear hx hx'
      have l1 : (k : Int) < (n : Int) := by omega
      go_wp2
      go_quiet (fail)
      go_wp2
      go_roundw
      case rel => exact ⟨k + 1, _, by omega, by go_num, rfl⟩
      case measure => simp [intOf]; omega
    · go_wp2
      go_ret
      exact ⟨rfl, below_drewN (Below.refl _ _) _⟩
end Go.Proofs.Ytcdachkaalkjlaa
