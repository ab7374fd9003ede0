/- The contract of the program's sameInts; lengths at most 2^20. -/
import Derived.Test.YtnghfocboodkhaaInts
namespace Go.Proofs.Ytnghfocboodkhaa
open Go.ChangeShapes Go.WideShapes Go.ChangeAt Go.RowKit Go.Deep Go.Joins
set_option maxRecDepth 100000

theorem take_eq_next {xs ys : List Int} {k : Nat} {x : Int} (h : xs.take k = ys.take k) (hx : xs[k]? = some x) (hy : ys[k]? = some x) : xs.take (k + 1) = ys.take (k + 1) := by rw [take_snoc hx, take_snoc hy, h]

set_option maxHeartbeats 1000000 in
theorem impl_sameInts {A B : Option Addr} {m n c d : Nat} {xs ys : List Int} {w : World} (ha : Reads w 1 A m (ints xs)) (hb : Reads w 1 B n (ints ys)) (hm : m ≤ 1048576) (hn : n ≤ 1048576) :
    Calls Try.prog 61 #[.slice A m c, .slice B n d] w fun e w' => e = .returned (.bool (decide (xs = ys))) ∧ ∃ q, w' = w.drewN q := by
  have l1 := ha.len
  have l2 := hb.len
  by_cases hmn : m = n
  rotate_left
  · have S := Lib.hid (show decide (xs = ys) = false from decide_eq_false (by rintro rfl; omega))
    have e1 : ((m : Int) == (n : Int)) = false := by simp; omega
    have e2 : ((m : Int) != (n : Int)) = true := by simp; omega
    clear l1 l2 hmn
    go_enter Try.func61, Try.ntmps61
    go_wp2
    go_ret
    exact ⟨ret_bool S.out.symm, 0, rfl⟩
  subst hmn
  have HL := Lib.hid (And.intro l1 l2)
  clear l1 l2
  go_enter Try.func61, Try.ntmps61
  go_wp2
  go_loopw [13] (fun i wr => ∃ k q : Nat, k ≤ m ∧ i = .int .i64 k ∧ wr = w.drewN q ∧ xs.take k = ys.take k) (fun i _ => m - (intOf i).toNat)
  case atStart => exact ⟨0, 0, Nat.zero_le _, rfl, rfl, rfl⟩
  case round =>
    obtain ⟨k, q, hk, rfl, rfl, hall⟩ := hrel
    by_cases hlt : k < m
    · obtain ⟨b, o, x, rfl, hbB, hx, c0⟩ := ha.int hlt
      obtain ⟨b', o', y, rfl, hbB', hy, c1⟩ := hb.int hlt
      have l1 : (k : Int) < (m : Int) := by omega
      by_cases hxy : x = y
      · subst hxy
        have HN := Lib.hid (take_eq_next hall hx hy)
        clear hx hy hall
        go_wp2
        go_quiet (fail)
        go_wp2
        go_roundw
        case rel => exact ⟨k + 1, _, by omega, by go_num, rfl, HN.out⟩
        case measure => simp [intOf]; omega
      · have e1 : (x == y) = false := by simp [hxy]
        have e2 : (x != y) = true := by simp [hxy]
        have S := Lib.hid (show decide (xs = ys) = false from decide_eq_false (by rintro rfl; rw [hx] at hy; exact hxy (Option.some.inj hy)))
        clear hx hy hall hxy
        go_wp2
        go_quiet (fail)
        go_wp2
        go_ret
        exact ⟨ret_bool S.out.symm, _, World.drewN_drewN _ _ _⟩
    · obtain rfl : k = m := by omega
      have S := Lib.hid (show decide (xs = ys) = true from decide_eq_true (by have h1 := HL.out.1; have h2 := HL.out.2; rwa [List.take_of_length_le (by omega), List.take_of_length_le (by omega)] at hall))
      clear hall
      go_wp2
      go_ret
      exact ⟨ret_bool S.out.symm, _, rfl⟩
end Go.Proofs.Ytnghfocboodkhaa
