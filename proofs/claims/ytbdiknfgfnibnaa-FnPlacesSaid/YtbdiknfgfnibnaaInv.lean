/- Contracts of CountInversions of both sides; no condition beyond the slice's length. -/
import Derived.Test.YtbdiknfgfnibnaaOrdS
namespace Go.Proofs.Ytbdiknfgfnibnaa
open Go.ChangeShapes Go.WideShapes Go.ChangeAt Go.RowKit Go.Deep Go.Joins
set_option maxRecDepth 100000

def invIn (xs : List Int) (z : Int) : Nat → Int
  | 0 => 0
  | i + 1 => invIn xs z i + match xs[i]? with | some y => if z < y then 1 else 0 | none => 0
def invTo (xs : List Int) : Nat → Int
  | 0 => 0
  | k + 1 => invTo xs k + match xs[k]? with | some z => invIn xs z k | none => 0
theorem invIn_step {xs : List Int} {z y : Int} {i : Nat} (hy : xs[i]? = some y) : invIn xs z (i + 1) = invIn xs z i + if z < y then 1 else 0 := by rw [invIn, hy]
theorem invTo_step {xs : List Int} {z : Int} {k : Nat} (hz : xs[k]? = some z) : invTo xs (k + 1) = invTo xs k + invIn xs z k := by rw [invTo, hz]
theorem invIn_bd (xs : List Int) (z : Int) (i : Nat) : 0 ≤ invIn xs z i ∧ invIn xs z i ≤ i := by
  induction i with
  | zero => simp [invIn]
  | succ i ih =>
    rw [invIn]
    split
    · split <;> omega
    · omega
theorem invTo_bd (xs : List Int) {k : Nat} (hk : k ≤ 8) : 0 ≤ invTo xs k ∧ invTo xs k ≤ 8 * k := by
  induction k with
  | zero => simp [invTo]
  | succ k ih =>
    have := ih (by omega)
    rw [invTo]
    split
    · rename_i z _
      have := invIn_bd xs z k
      omega
    · omega
def countInv (xs : List Int) : Int := if orderOk xs then invTo xs xs.length else -1
theorem countInv_yes {xs : List Int} (h : orderOk xs = true) : countInv xs = invTo xs xs.length := by simp [countInv, h]
theorem countInv_no {xs : List Int} (h : orderOk xs = false) : countInv xs = -1 := by simp [countInv, h]
theorem orderOk_short {xs : List Int} (h : orderOk xs = true) : 1 ≤ xs.length ∧ xs.length ≤ 7 := by
  obtain ⟨h1, h2, _⟩ := of_decide_eq_true h
  exact ⟨h1, h2⟩

set_option maxHeartbeats 4000000 in
theorem impl_CountInversions {A : Option Addr} {m c : Nat} {xs : List Int} {w : World} (hr : Reads w 1 A m (ints xs)) (hm : m ≤ 1048576) :
    Calls Try.prog 17 #[.slice A m c] w fun e w' => e = .returned (.int .i64 (countInv xs)) ∧ Below w.heap.size w w' := by
  have hl := hr.len
  cases hok : orderOk xs with
  | false =>
    have E := Lib.hid hok
    clear hok
    go_enter Try.func17, Try.ntmps17
    go_wp2_with fail
    refine (impl_OrderOk hr hm).mono ?_
    rintro e w1 ⟨rfl, hb1⟩
    rw [E.out]
    go_wp2
    go_ret
    exact ⟨ret_int (countInv_no E.out).symm, hb1⟩
  | true =>
    obtain ⟨h1, h7⟩ := orderOk_short hok
    rw [hl] at h1 h7
    have E := Lib.hid hok
    clear hok
    go_enter Try.func17, Try.ntmps17
    go_wp2_with fail
    refine (impl_OrderOk hr hm).mono ?_
    rintro e w1 ⟨rfl, hb1⟩
    rw [E.out]
    go_wp2
    go_loopw [3, 11] (fun v i wr => ∃ k : Nat, k ≤ m ∧ i = .int .i64 k ∧ v = .int .i64 (invTo xs k) ∧ Below w.heap.size w wr) (fun _ i _ => m - (intOf i).toNat)
    case atStart => exact ⟨0, by omega, rfl, rfl, hb1⟩
    case round =>
      obtain ⟨k, hk, rfl, rfl, hbel⟩ := hrel
      clear hb1
      by_cases hlt : k < m
      · obtain ⟨b, o, z, rfl, hbB, hz, c0⟩ := hr.int hlt
        have l1 : (k : Int) < (m : Int) := by omega
        have bt := invTo_bd xs (k := k) (by omega)
        have HS := Lib.hid (invTo_step hz)
        clear hz
        generalize invTo xs k = T at *
        go_wp2
        go_loopw [3, 15] (fun v i wr => ∃ j : Nat, j ≤ k ∧ i = .int .i64 j ∧ v = .int .i64 (T + invIn xs z j) ∧ Below w.heap.size w wr) (fun _ i _ => k - (intOf i).toNat)
        case atStart => exact ⟨0, by omega, rfl, by simp [invIn], hbel⟩
        case round =>
          clear hbel
          obtain ⟨j, hj, rfl, rfl, hbel⟩ := hrel
          have d0 := keep_cell hbel c0
          by_cases hjk : j < k
          · obtain ⟨b', o', y, e', hbB', hy, c1⟩ := (hr.below hbel).int (show j < m by omega)
            injection e' with e'
            injection e' with e1 e2
            subst e1 e2
            have l2 : (j : Int) < (m : Int) := by omega
            have bi := invIn_bd xs z j
            have HI := Lib.hid (invIn_step (z := z) hy)
            clear hy
            generalize invIn xs z j = I at *
            by_cases hzy : z < y
            · go_wp2
              go_quiet (fail)
              go_wp2
              go_roundw
              case rel => exact ⟨j + 1, by omega, by go_num, by rw [HI.out, if_pos hzy]; exact congrArg (Value.int .i64) (by omega), below_drewN hbel _⟩
              case measure => simp [intOf]; omega
            · go_wp2
              go_quiet (fail)
              go_wp2
              go_roundw
              case rel => exact ⟨j + 1, by omega, by go_num, by rw [HI.out, if_neg (by omega)]; exact congrArg (Value.int .i64) (by omega), below_drewN hbel _⟩
              case measure => simp [intOf]; omega
          · obtain rfl : j = k := by omega
            go_wp2
            go_roundw
            case rel => exact ⟨j + 1, by omega, by go_num, by rw [HS.out], hbel⟩
            case measure => simp [intOf]; omega
      · obtain rfl : k = m := by omega
        go_wp2
        go_ret
        exact ⟨ret_int (by rw [countInv_yes E.out, hl]), hbel⟩

set_option maxHeartbeats 4000000 in
theorem spec_CountInversions {A : Option Addr} {m c : Nat} {xs : List Int} {w : World} (hr : Reads w 1 A m (ints xs)) (hm : m ≤ 1048576) :
    Calls Try.prog 16 #[.slice A m c] w fun e w' => e = .returned (.int .i64 (countInv xs)) ∧ Below w.heap.size w w' := by
  have hl := hr.len
  cases hok : orderOk xs with
  | false =>
    have E := Lib.hid hok
    clear hok
    go_enter Try.func16, Try.ntmps16
    go_wp2_with fail
    refine (spec_OrderOk hr hm).mono ?_
    rintro e w1 ⟨rfl, hb1⟩
    rw [E.out]
    go_wp2
    go_ret
    exact ⟨ret_int (countInv_no E.out).symm, hb1⟩
  | true =>
    obtain ⟨h1, h7⟩ := orderOk_short hok
    rw [hl] at h1 h7
    have E := Lib.hid hok
    clear hok
    go_enter Try.func16, Try.ntmps16
    go_wp2_with fail
    refine (spec_OrderOk hr hm).mono ?_
    rintro e w1 ⟨rfl, hb1⟩
    rw [E.out]
    go_wp2
    go_loopw [3, 4] (fun v i wr => ∃ k : Nat, k ≤ m ∧ i = .int .i64 k ∧ v = .int .i64 (invTo xs k) ∧ Below w.heap.size w wr) (fun _ i _ => m - (intOf i).toNat)
    case atStart => exact ⟨0, by omega, rfl, rfl, hb1⟩
    case round =>
      obtain ⟨k, hk, rfl, rfl, hbel⟩ := hrel
      clear hb1
      by_cases hlt : k < m
      · obtain ⟨b, o, z, rfl, hbB, hz, c0⟩ := hr.int hlt
        have l1 : (k : Int) < (m : Int) := by omega
        have bt := invTo_bd xs (k := k) (by omega)
        have HS := Lib.hid (invTo_step hz)
        clear hz
        generalize invTo xs k = T at *
        go_wp2
        go_loopw [3, 5] (fun v i wr => ∃ j : Nat, j ≤ k ∧ i = .int .i64 j ∧ v = .int .i64 (T + invIn xs z j) ∧ Below w.heap.size w wr) (fun _ i _ => k - (intOf i).toNat)
        case atStart => exact ⟨0, by omega, rfl, by simp [invIn], hbel⟩
        case round =>
          clear hbel
          obtain ⟨j, hj, rfl, rfl, hbel⟩ := hrel
          have d0 := keep_cell hbel c0
          by_cases hjk : j < k
          · obtain ⟨b', o', y, e', hbB', hy, c1⟩ := (hr.below hbel).int (show j < m by omega)
            injection e' with e'
            injection e' with e1 e2
            subst e1 e2
            have l2 : (j : Int) < (m : Int) := by omega
            have bi := invIn_bd xs z j
            have HI := Lib.hid (invIn_step (z := z) hy)
            clear hy
            generalize invIn xs z j = I at *
            by_cases hzy : z < y
            · go_wp2
              go_quiet (fail)
              go_wp2
              go_roundw
              case rel => exact ⟨j + 1, by omega, by go_num, by rw [HI.out, if_pos hzy]; exact congrArg (Value.int .i64) (by omega), below_drewN hbel _⟩
              case measure => simp [intOf]; omega
            · go_wp2
              go_quiet (fail)
              go_wp2
              go_roundw
              case rel => exact ⟨j + 1, by omega, by go_num, by rw [HI.out, if_neg (by omega)]; exact congrArg (Value.int .i64) (by omega), below_drewN hbel _⟩
              case measure => simp [intOf]; omega
          · obtain rfl : j = k := by omega
            go_wp2
            go_roundw
            case rel => exact ⟨j + 1, by omega, by go_num, by rw [HS.out], hbel⟩
            case measure => simp [intOf]; omega
      · obtain rfl : k = m := by omega
        go_wp2
        go_ret
        exact ⟨ret_int (by rw [countInv_yes E.out, hl]), hbel⟩
end Go.Proofs.Ytbdiknfgfnibnaa
