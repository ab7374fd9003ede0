/- The draw of three numbers, and the contract of Clamp for a known result; no condition beyond the length of the code. -/
import Derived.Test.YtjcfdkmlkhgfiaaDraw
import Derived.Test.YtjcfdkmlkhgfiaaClamp
namespace Go.Proofs.Ytjcfdkmlkhgfiaa
open Go.ChangeShapes Go.WideShapes Go.ChangeAt Go.RowKit Go.Deep Go.Joins
set_option maxRecDepth 100000

set_option maxHeartbeats 4000000 in
theorem spec_l01Number {W0 w : World} {G n c : Nat} {A : Option Addr} {bs : List Int} (hc : Cur W0 w G A n c bs) :
    Calls Try.prog 27 #[.pointer (some ⟨G, 0, none⟩)] w (OneIn W0 w G A n c bs (-9223372036854775808) 9223372036854775807) := by
  have HC := Lib.hid hc
  clear hc
  go_enter Try.func27, Try.ntmps27
  go_wp2_with fail
  refine (spec_l01Below HC.out (by omega) (by omega)).mono ?_
  rintro e w1 ⟨v, v0, v1, rfl, hc1, hg1⟩
  have zG := hc1.lt
  have HC1 := Lib.hid hc1
  have HG1 := Lib.hid hg1
  clear hc1 hg1
  by_cases h0 : v = 0
  · subst h0
    go_wp2_with fail
    refine (spec_l01PickInt (xs := [-1, 0, 127, 128, 16383, 16384, 1000000000, 1000000001, 9223372036854775807, -9223372036854775808]) (HC1.out.alloc _) ((Row.new w1 3 (ints [-1, 0, 127, 128, 16383, 16384, 1000000000, 1000000001, 9223372036854775807, -9223372036854775808])).reads (by rfl) (by rfl)) (by omega) (by omega) (fun b o h => by injection h with h; injection h with h _; omega)).mono ?_
    rintro e w2 ⟨x, hx, rfl, hc2, hg2⟩
    have HC2 := Lib.hid hc2
    have HG2 := Lib.hid (grown_trans (grown_trans HG1.out (World.grownBy_alloc w1 _ _)) hg2)
    have HX : Hid (-9223372036854775808 ≤ x ∧ x ≤ 9223372036854775807) := Lib.hid (by simp at hx; omega)
    clear hc2 hg2 hx
    go_wp2
    go_ret
    exact ⟨x, HX.out.1, HX.out.2, rfl, HC2.out, HG2.out⟩
  · by_cases h1 : v = 1
    · subst h1
      go_wp2_with fail
      refine (spec_l01Below HC1.out (by omega) (by omega)).mono ?_
      rintro e w2 ⟨x, x0, x1, rfl, hc2, hg2⟩
      have HC2 := Lib.hid hc2
      have HG2 := Lib.hid (grown_trans HG1.out hg2)
      clear hc2 hg2
      go_wp2
      go_ret
      exact ⟨x, by omega, by omega, rfl, HC2.out, HG2.out⟩
    · have e0 : (v == 0) = false := by simp [h0]
      have e1 : (v == 1) = false := by simp [h1]
      clear h0 h1
      go_wp2_with fail
      refine (spec_l01Below HC1.out (by omega) (by omega)).mono ?_
      rintro e w2 ⟨x, x0, x1, rfl, hc2, hg2⟩
      have HC2 := Lib.hid hc2
      have HG2 := Lib.hid (grown_trans HG1.out hg2)
      clear hc2 hg2
      go_wp2
      go_ret
      exact ⟨x, by omega, by omega, rfl, HC2.out, HG2.out⟩

set_option maxHeartbeats 4000000 in
theorem spec_DrawClamp {w : World} {n c : Nat} {A : Option Addr} {bs : List Int} (hr : Reads w 1 A n (u8s bs)) (hb : ∀ x ∈ bs, 0 ≤ x ∧ x ≤ 255) (hn : n ≤ 1048576) :
    Calls Try.prog 16 #[.slice A n c] w fun e w' => ∃ x y z : Int, e = .returned (.tuple #[.int .i64 x, .int .i64 y, .int .i64 z]) ∧ Below w.heap.size w w' := by
  go_enter Try.func16, Try.ntmps16
  go_wp2_with fail
  refine (spec_l01New hr hb hn).mono ?_
  rintro e w1 ⟨G, rfl, hc1, _, _⟩
  have HC1 := Lib.hid hc1
  clear hc1
  go_wp2_with fail
  refine (spec_l01Once HC1.out (by omega) (by omega)).mono ?_
  rintro e w2 ⟨b, rfl, hc2, hg2⟩
  have HC2 := Lib.hid hc2
  clear hc2 hg2
  cases b with
  | true =>
    go_wp2_with fail
    refine (spec_l01Number HC2.out).mono ?_
    rintro e w3 ⟨x, _, _, rfl, hc3, _⟩
    have HC3 := Lib.hid hc3
    clear hc3
    go_wp2_with fail
    refine (spec_l01Number HC3.out).mono ?_
    rintro e w4 ⟨y, _, _, rfl, hc4, _⟩
    have HC4 := Lib.hid hc4
    clear hc4
    go_wp2_with fail
    refine (spec_l01Number HC4.out).mono ?_
    rintro e w5 ⟨z, _, _, rfl, hc5, _⟩
    have HC5 := Lib.hid hc5
    clear hc5
    go_wp2
    refine bodyPost_ret (v := .tuple #[.int .i64 x, .int .i64 y, .int .i64 z]) (by simp [results, Try.results16, go_sem]) rfl ⟨x, y, z, rfl, HC5.out.base⟩
  | false =>
    go_wp2_with fail
    refine (spec_l01Below HC2.out (by omega) (by omega)).mono ?_
    rintro e w3 ⟨x, x0, x1, rfl, hc3, _⟩
    have HC3 := Lib.hid hc3
    clear hc3
    go_wp2_with fail
    refine (spec_l01Below HC3.out (by omega) (by omega)).mono ?_
    rintro e w4 ⟨y, y0, y1, rfl, hc4, _⟩
    have HC4 := Lib.hid hc4
    clear hc4
    go_wp2_with fail
    refine (spec_l01Below HC4.out (by omega) (by omega)).mono ?_
    rintro e w5 ⟨z, z0, z1, rfl, hc5, _⟩
    have HC5 := Lib.hid hc5
    clear hc5
    go_wp2
    refine bodyPost_ret (v := .tuple #[.int .i64 (y - 40), .int .i64 (x - 20), .int .i64 (x - 20 + z - 3)]) (by simp [results, Try.results16, go_sem]) rfl ⟨_, _, _, rfl, HC5.out.base⟩
theorem clamp_is {n lo hi r : Int} {w : World} (h : clampS n lo hi = r) : Calls Try.prog 10 #[.int .i64 n, .int .i64 lo, .int .i64 hi] w fun e w' => e = .returned (.int .i64 r) ∧ w = w' := by
  rw [← h]; exact impl_clamp n lo hi w
end Go.Proofs.Ytjcfdkmlkhgfiaa
