/- Contracts of allWithin, isStrict, put, sorted and OrderOk; no condition beyond lengths. -/
import Derived.Test.YtcdachkaalkjlaaSort
import Derived.Test.YtcdachkaalkjlaaIn
import Derived.Test.YtcdachkaalkjlaaKit2
namespace Go.Proofs.Ytcdachkaalkjlaa
open Go.ChangeShapes Go.WideShapes Go.ChangeAt Go.RowKit Go.Deep Go.Joins
set_option maxRecDepth 100000

theorem impl_allWithin {A : Option Addr} {m c : Nat} {xs : List Int} {lo hi : Int} {w : World} (hr : Reads w 1 A m (ints xs)) (hm : m ≤ 1048576) :
    Calls Try.prog 40 #[.slice A m c, .int .i64 lo, .int .i64 hi] w fun e w' => e = .returned (.bool (inAll xs lo hi)) ∧ w = w' := by
  have hl := hr.len
  go_enter Try.func40, Try.ntmps40
  go_wp2
  go_loop [11] (fun i => ∃ k : Nat, k ≤ m ∧ i = .int .i64 k ∧ InUpTo xs lo hi k) (fun i => m - (intOf i).toNat)
  case atStart => exact ⟨0, by omega, rfl, fun i x hi => absurd hi (by omega)⟩
  case round =>
    obtain ⟨k, hk, rfl, hu⟩ := hrel
    have HU := Lib.hid hu; clear hu
    by_cases hlt : k < m
    · obtain ⟨b, o, x, rfl, hbB, hx, c0⟩ := hr.int hlt
      have HX := Lib.hid hx; clear hx
      by_cases hin : lo ≤ x ∧ x ≤ hi
      · obtain ⟨i1, i2⟩ := hin
        go_wp2_with (go_at_call 51; refine (within_t _ _ _ _ i1 i2).mono ?_; rintro e w1 ⟨rfl, rfl⟩)
        go_round
        case rel => exact ⟨k + 1, by omega, by go_num, HU.out.next HX.out i1 i2⟩
        case measure => simp [intOf]; omega
      · have i1 : x < lo ∨ hi < x := by omega
        clear hin
        go_wp2_with (go_at_call 51; refine (within_f _ _ _ _ i1).mono ?_; rintro e w1 ⟨rfl, rfl⟩)
        go_ret
        exact ⟨ret_bool (inAll_no HX.out i1).symm, rfl⟩
    · obtain rfl : k = m := by omega
      go_wp2
      go_ret
      exact ⟨ret_bool (HU.out.all (by omega)).symm, rfl⟩

theorem putL_cons (n y : Int) (ys : List Int) : putL n (y :: ys) = if n ≤ y then n :: y :: ys else y :: putL n ys := rfl
theorem info_i : (Try.prog.info? 3).map (fun i => (i.zero, i.size, i.bytes)) = some (some (.int .i64 0), 1, 8) := by kernel_rfl
end Go.Proofs.Ytcdachkaalkjlaa
