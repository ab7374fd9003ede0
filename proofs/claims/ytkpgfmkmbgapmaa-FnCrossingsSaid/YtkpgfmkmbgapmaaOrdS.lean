/- Contracts of the reference's OrderOk, and of PlaceOf of both sides; no condition beyond the slice's length. -/
import Derived.Test.YtkpgfmkmbgapmaaOrd
namespace Go.Proofs.Ytkpgfmkmbgapmaa
open Go.ChangeShapes Go.WideShapes Go.ChangeAt Go.RowKit Go.Deep Go.Joins
set_option maxRecDepth 100000

def DistTo (xs : List Int) (k : Nat) : Prop := ∀ i j x y, i < j → j < k → xs[i]? = some x → xs[j]? = some y → x ≠ y
def DistIn (xs : List Int) (z : Int) (i : Nat) : Prop := ∀ j x, j < i → xs[j]? = some x → x ≠ z
theorem DistIn.next {xs : List Int} {z x : Int} {i : Nat} (h : DistIn xs z i) (hx : xs[i]? = some x) (hne : x ≠ z) : DistIn xs z (i + 1) := by
  intro j y hj hy
  rcases Nat.lt_or_ge j i with h1 | h1
  · exact h j y h1 hy
  · obtain rfl : j = i := by omega
    rw [hx] at hy
    obtain rfl := Option.some.inj hy
    exact hne
theorem DistTo.next {xs : List Int} {z : Int} {k : Nat} (h : DistTo xs k) (hz : xs[k]? = some z) (hi : DistIn xs z k) : DistTo xs (k + 1) := by
  intro i j x y hij hj hx hy
  rcases Nat.lt_or_ge j k with h1 | h1
  · exact h i j x y hij h1 hx hy
  · obtain rfl : j = k := by omega
    rw [hz] at hy
    obtain rfl := Option.some.inj hy
    exact hi i x hij hx
theorem DistTo.all {xs : List Int} {k : Nat} (h : DistTo xs k) (hk : xs.length ≤ k) : xs.Nodup := by
  refine List.pairwise_iff_getElem.2 fun i j hi hj hij => ?_
  exact h i j _ _ hij (by omega) (List.getElem?_eq_getElem hi) (List.getElem?_eq_getElem hj)
theorem orderOk_twice {xs : List Int} {i k : Nat} {x : Int} (hik : i < k) (hi : xs[i]? = some x) (hk : xs[k]? = some x) : orderOk xs = false := by
  refine decide_eq_false fun ⟨_, _, _, hd⟩ => ?_
  have h1 := List.getElem?_eq_some_iff.1 hi
  have h2 := List.getElem?_eq_some_iff.1 hk
  have := List.pairwise_iff_getElem.1 hd i k h1.1 h2.1 hik
  rw [h1.2, h2.2] at this
  exact this rfl
theorem orderOk_far {xs : List Int} {k : Nat} {x : Int} (hx : xs[k]? = some x) (h : x < 0 ∨ (xs.length : Int) - 1 < x) : orderOk xs = false := by
  refine decide_eq_false fun ⟨_, _, hr, _⟩ => ?_
  have := hr x (List.mem_of_getElem? hx)
  omega
theorem orderOk_size {xs : List Int} (h : xs.length < 1 ∨ 7 < xs.length) : orderOk xs = false := decide_eq_false fun ⟨_, _, _, _⟩ => by omega
theorem orderOk_all {xs : List Int} {m : Nat} (hl : xs.length = m) (h1 : 1 ≤ m) (h2 : m ≤ 7) (hi : InUpTo xs 0 ((m : Int) - 1) m) (hd : DistTo xs m) : orderOk xs = true := by
  refine decide_eq_true ⟨by omega, by omega, ?_, hd.all (by omega)⟩
  have := of_decide_eq_true (hi.all (by omega))
  rw [hl]
  exact this

theorem spec_OrderOk {A : Option Addr} {m c : Nat} {xs : List Int} {w : World} (hr : Reads w 1 A m (ints xs)) (hm : m ≤ 1048576) :
    Calls Try.prog 50 #[.slice A m c] w fun e w' => e = .returned (.bool (orderOk xs)) ∧ Below w.heap.size w w' := by
  have hl := hr.len
  go_enter Try.func50, Try.ntmps50
  go_wp2
  go_loopw [3] (fun i wr => ∃ k q : Nat, k ≤ m ∧ i = .int .i64 k ∧ InUpTo xs 0 ((m : Int) - 1) k ∧ DistTo xs k ∧ wr = w.drewN q) (fun i _ => m - (intOf i).toNat)
  case atStart => exact ⟨0, 0, by omega, rfl, fun i x hi => absurd hi (by omega), fun i j x y h1 h2 => absurd h2 (by omega), rfl⟩
  case round =>
    obtain ⟨k, q, hk, rfl, hu, hd, rfl⟩ := hrel
    have HU := Lib.hid hu; clear hu
    have HD := Lib.hid hd; clear hd
    by_cases hlt : k < m
    · obtain ⟨b, o, x, rfl, hbB, hx, c0⟩ := hr.int hlt
      have HX := Lib.hid hx; clear hx
      have l1 : (k : Int) < (m : Int) := by omega
      by_cases hin : 0 ≤ x ∧ x ≤ (m : Int) - 1
      · obtain ⟨i1, i2⟩ := hin
        go_wp2_with (go_at_call 39; refine (l01In_t _ _ _ _ i1 i2).mono ?_; rintro e w1 ⟨rfl, rfl⟩)
        go_loopw [4] (fun i wr => ∃ j q : Nat, j ≤ k ∧ i = .int .i64 j ∧ DistIn xs x j ∧ wr = w.drewN q) (fun i _ => k - (intOf i).toNat)
        case atStart => exact ⟨0, q, by omega, rfl, fun i x hi => absurd hi (by omega), rfl⟩
        case round =>
          clear q
          obtain ⟨j, q, hj, rfl, hi, rfl⟩ := hrel
          have HI := Lib.hid hi; clear hi
          by_cases hjk : j < k
          · have l2 : (j : Int) < (m : Int) := by omega
            obtain ⟨b', o', y, e', hbB', hy, c1⟩ := hr.int (show j < m by omega)
            injection e' with e'
            injection e' with e1 e2
            subst e1 e2
            have HY := Lib.hid hy; clear hy
            by_cases hxy : y = x
            · subst hxy
              go_wp2
              go_quiet (fail)
              go_wp2
              go_ret
              exact ⟨ret_bool (orderOk_twice hjk HY.out HX.out).symm, below_drewN (below_drewN (Below.refl _ _) _) _⟩
            · have e1 : (y == x) = false := by simpa using hxy
              have HXY := Lib.hid hxy; clear hxy
              go_wp2
              go_quiet (fail)
              go_wp2
              go_roundw
              case rel => exact ⟨j + 1, _, by omega, by go_num, HI.out.next HY.out HXY.out, rfl⟩
              case measure => simp [intOf]; omega
          · obtain rfl : j = k := by omega
            go_wp2
            go_roundw
            case rel => exact ⟨j + 1, _, by omega, by go_num, HU.out.next HX.out i1 i2, HD.out.next HX.out HI.out, rfl⟩
            case measure => simp [intOf]; omega
      · have i1 : x < 0 ∨ (m : Int) - 1 < x := by omega
        clear hin
        go_wp2_with (go_at_call 39; refine (l01In_f _ _ _ _ i1).mono ?_; rintro e w1 ⟨rfl, rfl⟩)
        go_ret
        exact ⟨ret_bool (orderOk_far HX.out (by omega)).symm, below_drewN (Below.refl _ _) _⟩
    · obtain rfl : k = m := by omega
      by_cases h7 : 1 ≤ k ∧ k ≤ 7
      · obtain ⟨h1, h7⟩ := h7
        go_wp2_with (go_at_call 39; refine (l01In_t _ _ _ _ (by omega) (by omega)).mono ?_; rintro e w1 ⟨rfl, rfl⟩)
        go_ret
        exact ⟨ret_bool (orderOk_all hl h1 h7 HU.out HD.out).symm, below_drewN (Below.refl _ _) _⟩
      · go_wp2_with (go_at_call 39; refine (l01In_f _ _ _ _ (by omega)).mono ?_; rintro e w1 ⟨rfl, rfl⟩)
        go_ret
        exact ⟨ret_bool (orderOk_size (by omega)).symm, below_drewN (Below.refl _ _) _⟩

def placeIn (v : Int) : List Int → Nat → Int
  | [], _ => -1
  | x :: xs, k => if x = v then (k : Int) else placeIn v xs (k + 1)
theorem placeIn_cons (v x : Int) (xs : List Int) (k : Nat) : placeIn v (x :: xs) k = if x = v then (k : Int) else placeIn v xs (k + 1) := rfl

def placeOf (xs : List Int) (v : Int) : Int := if orderOk xs then placeIn v xs 0 else -1
theorem placeOf_yes {xs : List Int} {v : Int} (h : orderOk xs = true) : placeOf xs v = placeIn v xs 0 := by simp [placeOf, h]
theorem placeOf_no {xs : List Int} {v : Int} (h : orderOk xs = false) : placeOf xs v = -1 := by simp [placeOf, h]
end Go.Proofs.Ytkpgfmkmbgapmaa
