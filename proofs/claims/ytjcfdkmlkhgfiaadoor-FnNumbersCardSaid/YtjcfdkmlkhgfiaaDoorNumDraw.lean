/- The draw of a number; no condition beyond the length of the code. -/
import Derived.Test.YtjcfdkmlkhgfiaaDoorDraw
namespace Go.Proofs.YtjcfdkmlkhgfiaaDoor
open Go.ChangeShapes Go.WideShapes Go.ChangeAt Go.RowKit Go.Deep Go.Joins
set_option maxRecDepth 100000

set_option maxHeartbeats 4000000 in
theorem spec_l01Number {W0 w : World} {G n c : Nat} {A : Option Addr} {bs : List Int} (hc : Cur W0 w G A n c bs) :
    Calls Tryd.prog 32 #[.pointer (some ⟨G, 0, none⟩)] w (OneIn W0 w G A n c bs (-9223372036854775808) 9223372036854775807) := by
  have HC := Lib.hid hc
  clear hc
  go_enter Tryd.func32, Tryd.ntmps32
  go_wp2_with fail
  refine (spec_l01Below HC.out (by omega) (by omega)).mono ?_
  rintro e w1 ⟨v, v0, v1, rfl, hc1, hg1⟩
  have zG := hc1.lt
  have HC1 := Lib.hid hc1
  have HG1 := Lib.hid hg1
  clear hc1 hg1
  by_cases h0 : v = 0
  · subst h0
    go_wp2_with fail
    refine (spec_l01PickInt (xs := [-1, 0, 127, 128, 16383, 16384, 1000000000, 1000000001, 9223372036854775807, -9223372036854775808]) (HC1.out.alloc _) ((Row.new w1 3 (ints [-1, 0, 127, 128, 16383, 16384, 1000000000, 1000000001, 9223372036854775807, -9223372036854775808])).reads (by rfl) (by rfl)) (by omega) (by omega) (fun b o h => by injection h with h; injection h with h _; omega)).mono ?_
    rintro e w2 ⟨x, hx, rfl, hc2, hg2⟩
    have HC2 := Lib.hid hc2
    have HG2 := Lib.hid (grown_trans (grown_trans HG1.out (World.grownBy_alloc w1 _ _)) hg2)
    have HX : Hid (-9223372036854775808 ≤ x ∧ x ≤ 9223372036854775807) := Lib.hid (by simp at hx; omega)
    clear hc2 hg2 hx
    go_wp2
    go_ret
    exact ⟨x, HX.out.1, HX.out.2, rfl, HC2.out, HG2.out⟩
  · by_cases h1 : v = 1
    · subst h1
      go_wp2_with fail
      refine (spec_l01Below HC1.out (by omega) (by omega)).mono ?_
      rintro e w2 ⟨x, x0, x1, rfl, hc2, hg2⟩
      have HC2 := Lib.hid hc2
      have HG2 := Lib.hid (grown_trans HG1.out hg2)
      clear hc2 hg2
      go_wp2
      go_ret
      exact ⟨x, by omega, by omega, rfl, HC2.out, HG2.out⟩
    · have e0 : (v == 0) = false := by simp [h0]
      have e1 : (v == 1) = false := by simp [h1]
      clear h0 h1
      go_wp2_with fail
      refine (spec_l01Below HC1.out (by omega) (by omega)).mono ?_
      rintro e w2 ⟨x, x0, x1, rfl, hc2, hg2⟩
      have HC2 := Lib.hid hc2
      have HG2 := Lib.hid (grown_trans HG1.out hg2)
      clear hc2 hg2
      go_wp2
      go_ret
      exact ⟨x, by omega, by omega, rfl, HC2.out, HG2.out⟩

theorem mul_bd {x z : Int} (x0 : 0 ≤ x) (x1 : x ≤ 999999) (z0 : -1000000 ≤ z) (z1 : z ≤ 1000000) : -1000000000000 ≤ x * z ∧ x * z ≤ 1000000000000 := by
  have h1 := Int.mul_le_mul_of_nonneg_left z1 x0
  have h2 := Int.mul_le_mul_of_nonneg_left z0 x0
  omega

set_option maxHeartbeats 4000000 in
theorem spec_DrawFormatInt {w : World} {n c : Nat} {A : Option Addr} {bs : List Int} (hr : Reads w 1 A n (u8s bs)) (hb : ∀ x ∈ bs, 0 ≤ x ∧ x ≤ 255) (hn : n ≤ 1048576) :
    Calls Tryd.prog 20 #[.slice A n c] w fun e w' => ∃ x : Int, -9223372036854775808 ≤ x ∧ x ≤ 9223372036854775807 ∧ e = .returned (.int .i64 x) ∧ Below w.heap.size w w' := by
  go_enter Tryd.func20, Tryd.ntmps20
  go_wp2_with fail
  refine (spec_l01New hr hb hn).mono ?_
  rintro e w1 ⟨G, rfl, hc1, _, _⟩
  have HC1 := Lib.hid hc1
  clear hc1
  go_wp2_with fail
  refine (spec_l01Once HC1.out (by omega) (by omega)).mono ?_
  rintro e w2 ⟨b, rfl, hc2, hg2⟩
  have HC2 := Lib.hid hc2
  clear hc2 hg2
  cases b with
  | true =>
    go_wp2_with fail
    refine (spec_l01Below HC2.out (by omega) (by omega)).mono ?_
    rintro e w3 ⟨x, x0, x1, rfl, hc3, _⟩
    have HC3 := Lib.hid hc3
    clear hc3
    go_wp2_with fail
    refine (spec_l01Below HC3.out (by omega) (by omega)).mono ?_
    rintro e w4 ⟨y, y0, y1, rfl, hc4, _⟩
    have HC4 := Lib.hid hc4
    clear hc4
    have hm := mul_bd (x := x) (z := y - 1000000) (by omega) (by omega) (by omega) (by omega)
    have r0 : IntKind.i64.wrap (y - 1000000) = y - 1000000 := IntWalk.i64_in _ (by omega)
    have r1 : IntKind.i64.wrap (x * (y - 1000000)) = x * (y - 1000000) := IntWalk.i64_in _ (by omega)
    go_wp2
    go_ret
    exact ⟨x * (y - 1000000), by omega, by omega, by first | rfl | rw [r1], HC4.out.base⟩
  | false =>
    go_wp2_with fail
    refine (spec_l01Number HC2.out).mono ?_
    rintro e w3 ⟨x, x0, x1, rfl, hc3, _⟩
    have HC3 := Lib.hid hc3
    clear hc3
    go_wp2
    go_ret
    exact ⟨x, x0, x1, rfl, HC3.out.base⟩
end Go.Proofs.YtjcfdkmlkhgfiaaDoor
