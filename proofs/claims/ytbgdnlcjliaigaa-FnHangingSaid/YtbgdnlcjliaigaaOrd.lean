/- Contracts of allWithin, isStrict, put, sorted and OrderOk; no condition beyond lengths. -/
import Derived.Test.YtbgdnlcjliaigaaSort
import Derived.Test.YtbgdnlcjliaigaaIn
import Derived.Test.YtbgdnlcjliaigaaKit2
namespace Go.Proofs.Ytbgdnlcjliaigaa
open Go.ChangeShapes Go.WideShapes Go.ChangeAt Go.RowKit Go.Deep Go.Joins
set_option maxRecDepth 100000

theorem impl_allWithin {A : Option Addr} {m c : Nat} {xs : List Int} {lo hi : Int} {w : World} (hr : Reads w 1 A m (ints xs)) (hm : m ≤ 1048576) :
    Calls Try.prog 51 #[.slice A m c, .int .i64 lo, .int .i64 hi] w fun e w' => e = .returned (.bool (inAll xs lo hi)) ∧ w = w' := by
  have hl := hr.len
  go_enter Try.func51, Try.ntmps51
  go_wp2
  go_loop [11] (fun i => ∃ k : Nat, k ≤ m ∧ i = .int .i64 k ∧ InUpTo xs lo hi k) (fun i => m - (intOf i).toNat)
  case atStart => exact ⟨0, by omega, rfl, fun i x hi => absurd hi (by omega)⟩
  case round =>
    obtain ⟨k, hk, rfl, hu⟩ := hrel
    have HU := Lib.hid hu; clear hu
    by_cases hlt : k < m
    · obtain ⟨b, o, x, rfl, hbB, hx, c0⟩ := hr.int hlt
      have HX := Lib.hid hx; clear hx
      by_cases hin : lo ≤ x ∧ x ≤ hi
      · obtain ⟨i1, i2⟩ := hin
        go_wp2_with (go_at_call 65; refine (within_t _ _ _ _ i1 i2).mono ?_; rintro e w1 ⟨rfl, rfl⟩)
        go_round
        case rel => exact ⟨k + 1, by omega, by go_num, HU.out.next HX.out i1 i2⟩
        case measure => simp [intOf]; omega
      · have i1 : x < lo ∨ hi < x := by omega
        clear hin
        go_wp2_with (go_at_call 65; refine (within_f _ _ _ _ i1).mono ?_; rintro e w1 ⟨rfl, rfl⟩)
        go_ret
        exact ⟨ret_bool (inAll_no HX.out i1).symm, rfl⟩
    · obtain rfl : k = m := by omega
      go_wp2
      go_ret
      exact ⟨ret_bool (HU.out.all (by omega)).symm, rfl⟩

theorem putL_cons (n y : Int) (ys : List Int) : putL n (y :: ys) = if n ≤ y then n :: y :: ys else y :: putL n ys := rfl
theorem info_i : (Try.prog.info? 3).map (fun i => (i.zero, i.size, i.bytes)) = some (some (.int .i64 0), 1, 8) := by kernel_rfl

set_option maxHeartbeats 4000000 in
theorem impl_put {A : Option Addr} {m c : Nat} {xs : List Int} {x : Int} {w : World} (hr : Reads w 1 A m (ints xs)) (hm : m ≤ 1048575) :
    Calls Try.prog 73 #[.slice A m c, .int .i64 x] w fun e w' => ∃ A' n' c', e = .returned (.slice A' n' c') ∧ w'.ownsRow w.heap.size 3 1 (.slice A' n' c') n' (ints (putL x xs)) ∧ n' ≤ 1048576 ∧ Below w.heap.size w w' := by
  have hl := hr.len
  have ho := own_empty w 3 1
  obtain ⟨i0, hi, hz0, hz1, hz2⟩ := info_parts info_i
  go_enter Try.func73, Try.ntmps73
  go_wp2
  go_loopw [5, 6, 12] (fun v d i wr => ∃ (k : Nat) (A' : Option Addr) (n' c' : Nat) (acc : List Int) (done : Bool), k ≤ m ∧ i = .int .i64 k ∧ v = .slice A' n' c' ∧ d = .bool done ∧ n' ≤ k + 1 ∧ (done = false → n' ≤ k) ∧ wr.ownsRow w.heap.size 3 1 (.slice A' n' c') n' (ints acc) ∧ putL x xs = acc ++ (if done then xs.drop k else putL x (xs.drop k)) ∧ Below w.heap.size w wr) (fun _ _ i _ => m - (intOf i).toNat)
  case atStart => exact ⟨0, _, 0, 0, [], false, by omega, rfl, rfl, rfl, by omega, by omega, ho, rfl, by go_grown⟩
  case round =>
    obtain ⟨k, A', n', c', acc, done, hk, rfl, rfl, rfl, hnb, hnd, hown, hacc, hbel⟩ := hrel
    clear ho
    have HA := Lib.hid hacc
    have bA := own_blk hown
    have zw := hbel.size
    clear hacc
    by_cases hlt : k < m
    · obtain ⟨b, o, y, rfl, hbB, hx, c0⟩ := (hr.below hbel).int hlt
      have HX := Lib.hid (drop_cons hx); clear hx
      cases done with
      | true =>
        clear hnd
        go_wp2_with (at_builtin; refine wp_app rfl _ _ 25 rfl w.heap.size 3 i0 (.int .i64 0) 1 8 Try.underlying25 hi hz0 hz1 hz2 rfl (by decide) rfl hown [.int .i64 (y)] rfl (by simp [Value.oneCell']) rfl (by simp) (by unfold maxLen; omega) (by omega) (by omega) ?_; intro A2 c2 w2 hown2 hg2)
        go_roundw
        case rel => exact ⟨k + 1, A2, _, c2, acc ++ [y], true, by omega, by go_num, rfl, rfl, by omega, by simp, by rw [ints_append]; exact hown2, by rw [HA.out, HX.out]; simp, bel_apart hbel hg2 bA (Nat.le_refl _)⟩
        case measure => simp [intOf]; omega
      | false =>
        have hn2 := hnd rfl
        have HP := Lib.hid (putL_cons x y (xs.drop (k + 1)))
        clear hnd hnb
        by_cases hle : x ≤ y
        · have HL := Lib.hid hle
          go_wp2_with (first | (have _t := hown2; clear _t; at_builtin; refine wp_app rfl _ _ 25 rfl w.heap.size 3 i0 (.int .i64 0) 1 8 Try.underlying25 hi hz0 hz1 hz2 rfl (by decide) rfl hown2 [.int .i64 (y)] rfl (by simp [Value.oneCell']) rfl (by simp) (by unfold maxLen; omega) (by omega) (by omega) ?_; intro A3 c3 w3 hown3 hg3) | (at_builtin; refine wp_app rfl _ _ 25 rfl w.heap.size 3 i0 (.int .i64 0) 1 8 Try.underlying25 hi hz0 hz1 hz2 rfl (by decide) rfl hown [.int .i64 (x)] rfl (by simp [Value.oneCell']) rfl (by simp) (by unfold maxLen; omega) (by omega) (by omega) ?_; intro A2 c2 w2 hown2 hg2; have hbel2 := bel_apart hbel hg2 bA (Nat.le_refl _); have b2 := own_blk hown2; have zw2 := hbel2.size))
          go_roundw
          case rel => exact ⟨k + 1, A3, _, c3, acc ++ [x] ++ [y], true, by omega, by go_num, rfl, rfl, by omega, by simp, by rw [ints_append, ints_append]; exact hown3, by rw [HA.out, HX.out, if_neg (by simp), HP.out, if_pos HL.out]; simp, bel_apart hbel2 hg3 b2 (Nat.le_refl _)⟩
          case measure => simp [intOf]; omega
        · have HL := Lib.hid hle
          go_wp2_with (at_builtin; refine wp_app rfl _ _ 25 rfl w.heap.size 3 i0 (.int .i64 0) 1 8 Try.underlying25 hi hz0 hz1 hz2 rfl (by decide) rfl hown [.int .i64 (y)] rfl (by simp [Value.oneCell']) rfl (by simp) (by unfold maxLen; omega) (by omega) (by omega) ?_; intro A2 c2 w2 hown2 hg2)
          go_roundw
          case rel => exact ⟨k + 1, A2, _, c2, acc ++ [y], false, by omega, by go_num, rfl, rfl, by omega, by omega, by rw [ints_append]; exact hown2, by rw [HA.out, HX.out, if_neg (by simp), HP.out, if_neg HL.out]; simp, bel_apart hbel hg2 bA (Nat.le_refl _)⟩
          case measure => simp [intOf]; omega
    · obtain rfl : k = m := by omega
      have HD : Hid (xs.drop k = []) := Lib.hid (List.drop_eq_nil_of_le (by omega))
      cases done with
      | true =>
        go_wp2
        go_ret
        exact ⟨A', n', c', rfl, by rw [HA.out, HD.out]; simpa using hown, by omega, hbel⟩
      | false =>
        have hn2 := hnd rfl
        clear hnd
        go_wp2_with (at_builtin; refine wp_app rfl _ _ 25 rfl w.heap.size 3 i0 (.int .i64 0) 1 8 Try.underlying25 hi hz0 hz1 hz2 rfl (by decide) rfl hown [.int .i64 (x)] rfl (by simp [Value.oneCell']) rfl (by simp) (by unfold maxLen; omega) (by omega) (by omega) ?_; intro A2 c2 w2 hown2 hg2)
        go_ret
        exact ⟨A2, _, c2, rfl, by rw [HA.out, HD.out, if_neg (by simp), ints_append]; exact hown2, by omega, bel_apart hbel hg2 bA (Nat.le_refl _)⟩

set_option maxHeartbeats 4000000 in
theorem impl_sorted {A : Option Addr} {m c : Nat} {xs : List Int} {w : World} (hr : Reads w 1 A m (ints xs)) (hm : m ≤ 1048576) :
    Calls Try.prog 58 #[.slice A m c] w fun e w' => ∃ A' n' c', e = .returned (.slice A' n' c') ∧ w'.ownsRow w.heap.size 3 1 (.slice A' n' c') n' (ints (sortL xs)) ∧ n' ≤ 1048576 ∧ Below w.heap.size w w' := by
  have hl := hr.len
  have ho := own_empty w 3 1
  go_enter Try.func58, Try.ntmps58
  go_wp2
  go_loopw [3, 9] (fun v i wr => ∃ (k : Nat) (A' : Option Addr) (c' : Nat), k ≤ m ∧ i = .int .i64 k ∧ v = .slice A' k c' ∧ wr.ownsRow w.heap.size 3 1 (.slice A' k c') k (ints (sortTo xs k)) ∧ Below w.heap.size w wr) (fun _ i _ => m - (intOf i).toNat)
  case atStart => exact ⟨0, _, 0, by omega, rfl, rfl, ho, by go_grown⟩
  case round =>
    obtain ⟨k, A', c', hk, rfl, rfl, hown, hbel⟩ := hrel
    clear ho
    have zw := hbel.size
    by_cases hlt : k < m
    · obtain ⟨b, o, y, rfl, hbB, hx, c0⟩ := (hr.below hbel).int hlt
      have HX := Lib.hid (sortTo_step hx); clear hx
      have HL := Lib.hid (sortTo_len (xs := xs) (k := k + 1) (by omega))
      go_wp2_with (go_at_call 73; refine (impl_put (Reads.of_own hown) (by omega)).mono ?_; rintro e w1 ⟨A2, n2, c2, rfl, hown2, hn2, hb2⟩)
      have hl2 := own_len hown2
      rw [← HX.out, HL.out] at hl2
      rw [← HX.out] at hown2
      subst hl2
      go_roundw
      case rel => exact ⟨k + 1, A2, c2, by omega, by go_num, rfl, ownsRow_le hown2 zw, hbel.trans (hb2.mono zw)⟩
      case measure => simp [intOf]; omega
    · obtain rfl : k = m := by omega
      go_wp2
      go_ret
      exact ⟨A', k, c', rfl, by unfold sortL; rw [hl]; exact hown, by omega, hbel⟩
end Go.Proofs.Ytbgdnlcjliaigaa
