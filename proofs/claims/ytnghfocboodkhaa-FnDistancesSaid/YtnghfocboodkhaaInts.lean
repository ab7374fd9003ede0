/- Contracts of the helpers that copy, compare, mark and hold slices of integers; lengths at most 2^20. -/
import Derived.Test.YtnghfocboodkhaaKit
namespace Go.Proofs.Ytnghfocboodkhaa
open Go.ChangeShapes Go.WideShapes Go.ChangeAt Go.RowKit Go.Deep Go.Joins
set_option maxRecDepth 100000

def upFrom (k : Int) (n : Nat) : List Int := (List.range n).map fun i : Nat => k + (i : Int)
theorem upFrom_length (k : Int) (n : Nat) : (upFrom k n).length = n := by simp [upFrom]
theorem upFrom_get (k : Int) (n i : Nat) (h : i < n) : (upFrom k n)[i]? = some (k + (i : Int)) := by simp [upFrom, List.getElem?_map, List.getElem?_range h]
theorem upFrom_snoc (k : Int) (n : Nat) : upFrom k (n + 1) = upFrom k n ++ [k + (n : Int)] := by simp [upFrom, List.range_succ]

theorem eqIntS_t (A B : Option Addr) (n c d : Nat) (xs : List Int) (w : World) (ha : Reads w 1 A n (ints xs)) (hb : Reads w 1 B n (ints xs)) (hn : n ≤ 9223372036854775807) :
    Calls Try.prog 30 #[.slice A n c, .slice B n d] w fun e w' => e = .returned (.bool true) ∧ ∃ q, w' = w.drewN q := by
  go_enter Try.func30, Try.ntmps30
  go_wp2
  go_loopw [5] (fun i wr => ∃ k q : Nat, k ≤ n ∧ i = .int .i64 k ∧ wr = w.drewN q) (fun i _ => n - (intOf i).toNat)
  case atStart => exact ⟨0, 0, Nat.zero_le _, rfl, rfl⟩
  case round =>
    obtain ⟨k, q, hk, rfl, rfl⟩ := hrel
    by_cases hlt : k < n
    · obtain ⟨b, o, x, rfl, hbB, hx, c0⟩ := ha.int hlt
      obtain ⟨b', o', x', rfl, hbB', hx', c1⟩ := hb.int hlt
      obtain rfl : x = x' := by rw [hx] at hx'; exact Option.some.inj hx'
      clear hx hx'
      have l1 : (k : Int) < (n : Int) := by omega
      go_wp2
      go_quiet (fail)
      go_wp2
      go_roundw
      case rel => exact ⟨k + 1, _, by omega, by go_num, rfl⟩
      case measure => simp [intOf]; omega
    · go_wp2
      go_ret
      exact ⟨rfl, _, rfl⟩

theorem markIntS_any (base : Nat) (A : Option Addr) (n c : Nat) (xs : List Int) (k : Int) (w : World) (ho : w.ownsRow base 3 1 (.slice A n c) n (ints xs)) (hn : n ≤ 1048576) (hk0 : 0 ≤ k) (hk : k ≤ 1099511627776) :
    Calls Try.prog 31 #[.slice A n c, .int .i64 k] w fun e w' => e = .returned (.int .i64 (k + n)) ∧ w'.ownsRow base 3 1 (.slice A n c) n (ints (upFrom k n)) ∧ w.grownBy w' (Value.slice A n c).ownBlock := by
  have hlen : xs.length = n := by have := ho.1; rw [ints_length] at this; omega
  go_enter Try.func31, Try.ntmps31
  go_wp2
  go_loopw [1, 5] (fun q i wr => ∃ j : Nat, j ≤ n ∧ i = .int .i64 j ∧ q = .int .i64 (k + j) ∧ wr.ownsRow base 3 1 (.slice A n c) n (ints (upFrom k j) ++ ints (xs.drop j)) ∧ w.grownBy wr (Value.slice A n c).ownBlock) (fun _ i _ => n - (intOf i).toNat)
  case atStart => exact ⟨0, Nat.zero_le _, rfl, by simp, by simpa [upFrom, ints] using ho, World.grownBy.refl w _⟩
  case round =>
    obtain ⟨j, hj, rfl, rfl, hrow, hg⟩ := hrel
    by_cases hlt : j < n
    · have hx : xs[j]? = some (xs[j]'(by omega)) := List.getElem?_eq_getElem (by omega)
      generalize xs[j]'(by omega) = x at hx
      rw [drop_cons hx] at hrow
      obtain ⟨g, rfl, hbg, hgl, c0, f0⟩ := own_at (post := ints (xs.drop (j + 1))) hrow (m := j) (by simp [ints, upFrom])
      have HR := Lib.hid (own_set (post := ints (xs.drop (j + 1))) hrow (m := j) (by simp [ints, upFrom]) (.int .i64 (k + j)))
      have HG := Lib.hid (grown_setCell hg (p := ⟨g, j, none⟩) (.inl rfl) (.int .i64 (k + j)))
      clear hx hrow hg ho hlen
      go_wp2
      go_roundw
      case rel => exact ⟨j + 1, by omega, by go_num, by go_num, by rw [upFrom_snoc, ints_append]; simpa [ints] using HR.out, HG.out⟩
      case measure => simp [intOf]; omega
    · go_wp2
      go_ret
      obtain rfl : j = n := by omega
      exact ⟨rfl, by rw [List.drop_eq_nil_of_le (by omega)] at hrow; simpa [ints] using hrow, hg⟩

theorem heldIntS_any (A : Option Addr) (n c : Nat) (k : Int) (w : World) (hr : Reads w 1 A n (ints (upFrom k n))) (hn : n ≤ 1048576) (hk0 : 0 ≤ k) (hk : k ≤ 1099511627776) :
    Calls Try.prog 32 #[.slice A n c, .int .i64 k] w fun e w' => e = .returned (.int .i64 (k + n)) ∧ w = w' := by
  go_enter Try.func32, Try.ntmps32
  go_wp2
  go_loop [1, 5] (fun q i => ∃ j : Nat, j ≤ n ∧ i = .int .i64 j ∧ q = .int .i64 (k + j)) (fun _ i => n - (intOf i).toNat)
  case atStart => exact ⟨0, Nat.zero_le _, rfl, by simp⟩
  case round =>
    obtain ⟨j, hj, rfl, rfl⟩ := hrel
    by_cases hlt : j < n
    · obtain ⟨b, o, x, rfl, hbB, hx, c0⟩ := hr.int hlt
      rw [upFrom_get k n j hlt] at hx
      obtain rfl := Option.some.inj hx
      clear hx
      go_wp2
      go_round
      case rel => exact ⟨j + 1, by omega, by go_num, by go_num⟩
      case measure => simp [intOf]; omega
    · go_wp2
      go_ret
      obtain rfl : j = n := by omega
      exact ⟨rfl, rfl⟩

theorem eqIntS_b {A B : Option Addr} {n m c d : Nat} {xs : List Int} {w : World} (ha : Reads w 1 A n (ints xs)) (hb : Reads w 1 B m (ints xs)) (hn : n ≤ 1048576) :
    Calls Try.prog 30 #[.slice A n c, .slice B m d] w fun e w' => e = .returned (.bool true) ∧ Below w.heap.size w w' := by
  have e1 := ha.len
  have e2 := hb.len
  obtain rfl : n = m := by omega
  refine (eqIntS_t A B n c d xs w ha hb (by omega)).mono ?_
  rintro e w' ⟨rfl, q, rfl⟩
  exact ⟨rfl, below_drewN (Below.refl _ _) _⟩

theorem toIntS_info : (Try.prog.info? 3).map (fun i => (i.zero, i.size, i.bytes)) = some (some (.int .i64 0), 1, 8) := by kernel_rfl
end Go.Proofs.Ytnghfocboodkhaa
