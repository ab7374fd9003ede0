/- Contracts of the reference's OrderOk, and of PlaceOf of both sides; no condition beyond the slice's length. -/
import Derived.Test.YtcdachkaalkjlaaOrd
namespace Go.Proofs.Ytcdachkaalkjlaa
open Go.ChangeShapes Go.WideShapes Go.ChangeAt Go.RowKit Go.Deep Go.Joins
set_option maxRecDepth 100000

def DistTo (xs : List Int) (k : Nat) : Prop := ∀ i j x y, i < j → j < k → xs[i]? = some x → xs[j]? = some y → x ≠ y
def DistIn (xs : List Int) (z : Int) (i : Nat) : Prop := ∀ j x, j < i → xs[j]? = some x → x ≠ z
theorem DistIn.next {xs : List Int} {z x : Int} {i : Nat} (h : DistIn xs z i) (hx : xs[i]? = some x) (hne : x ≠ z) : DistIn xs z (i + 1) := by
  intro j y hj hy
  rcases Nat.lt_or_ge j i with h1 | h1
  · exact h j y h1 hy
  · obtain rfl : j = i := by omega
    rw [hx] at hy
    obtain rfl := Option.some.inj hy
    exact hne
theorem DistTo.next {xs : List Int} {z : Int} {k : Nat} (h : DistTo xs k) (hz : xs[k]? = some z) (hi : DistIn xs z k) : DistTo xs (k + 1) := by
  intro i j x y hij hj hx hy
  rcases Nat.lt_or_ge j k with h1 | h1
  · exact h i j x y hij h1 hx hy
  · obtain rfl : j = k := by omega
    rw [hz] at hy
    obtain rfl := Option.some.inj hy
    exact hi i x hij hx
theorem DistTo.all {xs : List Int} {k : Nat} (h : DistTo xs k) (hk : xs.length ≤ k) : xs.Nodup := by
  refine List.pairwise_iff_getElem.2 fun i j hi hj hij => ?_
  exact h i j _ _ hij (by omega) (List.getElem?_eq_getElem hi) (List.getElem?_eq_getElem hj)
theorem orderOk_twice {xs : List Int} {i k : Nat} {x : Int} (hik : i < k) (hi : xs[i]? = some x) (hk : xs[k]? = some x) : orderOk xs = false := by
  refine decide_eq_false fun ⟨_, _, _, hd⟩ => ?_
  have h1 := List.getElem?_eq_some_iff.1 hi
  have h2 := List.getElem?_eq_some_iff.1 hk
  have := List.pairwise_iff_getElem.1 hd i k h1.1 h2.1 hik
  rw [h1.2, h2.2] at this
  exact this rfl
theorem orderOk_far {xs : List Int} {k : Nat} {x : Int} (hx : xs[k]? = some x) (h : x < 0 ∨ (xs.length : Int) - 1 < x) : orderOk xs = false := by
  refine decide_eq_false fun ⟨_, _, hr, _⟩ => ?_
  have := hr x (List.mem_of_getElem? hx)
  omega
theorem orderOk_size {xs : List Int} (h : xs.length < 1 ∨ 7 < xs.length) : orderOk xs = false := decide_eq_false fun ⟨_, _, _, _⟩ => by omega
theorem orderOk_all {xs : List Int} {m : Nat} (hl : xs.length = m) (h1 : 1 ≤ m) (h2 : m ≤ 7) (hi : InUpTo xs 0 ((m : Int) - 1) m) (hd : DistTo xs m) : orderOk xs = true := by
  refine decide_eq_true ⟨by omega, by omega, ?_, hd.all (by omega)⟩
  have := of_decide_eq_true (hi.all (by omega))
  rw [hl]
  exact this

def placeIn (v : Int) : List Int → Nat → Int
  | [], _ => -1
  | x :: xs, k => if x = v then (k : Int) else placeIn v xs (k + 1)
theorem placeIn_cons (v x : Int) (xs : List Int) (k : Nat) : placeIn v (x :: xs) k = if x = v then (k : Int) else placeIn v xs (k + 1) := rfl

theorem impl_indexOfI {A : Option Addr} {n c : Nat} {xs : List Int} {v : Int} {w : World} (hr : Reads w 1 A n (ints xs)) (hn : n ≤ 1048576) :
    Calls Try.prog 74 #[.slice A n c, .int .i64 v] w fun e w' => e = .returned (.int .i64 (placeIn v xs 0)) ∧ w = w' := by
  have hlen := hr.len
  go_enter Try.func74, Try.ntmps74
  go_wp2
  go_loop [9] (fun i => ∃ k : Nat, k ≤ n ∧ i = .int .i64 k ∧ placeIn v xs 0 = placeIn v (xs.drop k) k) (fun i => n - (intOf i).toNat)
  case atStart => exact ⟨0, by omega, rfl, rfl⟩
  case round =>
    obtain ⟨k, hk, rfl, hf⟩ := hrel
    have HF := Lib.hid hf; clear hf
    by_cases hlt : k < n
    · obtain ⟨b, o, x, rfl, hbB, hx, c0⟩ := hr.int hlt
      have HX := Lib.hid (drop_cons hx); clear hx
      have E1 := Lib.hid (placeIn_cons v x (xs.drop (k + 1)) k)
      by_cases hv : x = v
      · go_wp2
        go_ret
        exact ⟨ret_int (by rw [HF.out, HX.out, E1.out, if_pos hv]), rfl⟩
      · go_wp2
        go_round
        case rel => exact ⟨k + 1, by omega, by go_num, by rw [HF.out, HX.out, E1.out, if_neg hv]⟩
        case measure => simp [intOf]; omega
    · go_wp2
      go_ret
      exact ⟨ret_int (by rw [HF.out, List.drop_eq_nil_of_le (by omega)]; rfl), rfl⟩

def placeOf (xs : List Int) (v : Int) : Int := if orderOk xs then placeIn v xs 0 else -1
theorem placeOf_yes {xs : List Int} {v : Int} (h : orderOk xs = true) : placeOf xs v = placeIn v xs 0 := by simp [placeOf, h]
theorem placeOf_no {xs : List Int} {v : Int} (h : orderOk xs = false) : placeOf xs v = -1 := by simp [placeOf, h]
end Go.Proofs.Ytcdachkaalkjlaa
