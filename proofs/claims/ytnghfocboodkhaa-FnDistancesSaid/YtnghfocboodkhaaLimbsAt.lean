/- Contracts of isJoint, LimbsAt, EndsOf and LengthOf of the program and of the reference; no condition beyond the slice's length. -/
import Derived.Test.YtnghfocboodkhaaBodyS
namespace Go.Proofs.Ytnghfocboodkhaa
open Go.ChangeShapes Go.WideShapes Go.ChangeAt Go.RowKit Go.Deep Go.Joins
set_option maxRecDepth 100000

def isJ (n : Int) (ls : List Lb) (j : Int) : Bool := bodyOk n ls && decide (0 ≤ j ∧ j ≤ n - 1)

theorem impl_isJoint {n j : Int} {A : Option Addr} {m c : Nat} {ls : List Lb} {w : World} (hr : Reads w 3 A m (lbs ls)) (hm : m ≤ 1048576) :
    Calls Try.prog 60 #[.agg #[.int .i64 n, .slice A m c], .int .i64 j] w fun e w' => e = .returned (.bool (isJ n ls j)) ∧ Below w.heap.size w w' := by
  cases hb : bodyOk n ls with
  | false =>
    have E := Lib.hid hb; clear hb
    go_enter Try.func60, Try.ntmps60
    go_wp2_with fail
    refine (impl_BodyOk (hr.below (by go_grown)) hm).mono ?_
    rintro e w1 ⟨rfl, hb1⟩
    rw [E.out]
    go_wp2
    go_ret
    exact ⟨ret_bool (by simp [isJ, E.out]), (by go_grown : Below w.heap.size w _).trans (hb1.mono (by simp))⟩
  | true =>
    obtain ⟨b1, b2, _, _⟩ := tree_of hb
    have E := Lib.hid hb; clear hb
    have hx := Row.new w 24 [.int .i64 n, .slice A m c]
    by_cases hj : 0 ≤ j ∧ j ≤ n - 1
    · go_enter Try.func60, Try.ntmps60
      go_wp2_with fail
      refine (impl_BodyOk (hr.below (by go_grown)) hm).mono ?_
      rintro e w1 ⟨rfl, hb1⟩
      rw [E.out]
      have q0 := (hx.below hb1).cell_ (i := 0) rfl
      go_wp2_with (go_at_call 54; refine (within_t _ _ _ _ (by omega) (by omega)).mono ?_; rintro e w' ⟨rfl, rfl⟩)
      go_ret
      exact ⟨ret_bool (by simp [isJ, E.out]; omega), (by go_grown : Below w.heap.size w _).trans (hb1.mono (by simp))⟩
    · go_enter Try.func60, Try.ntmps60
      go_wp2_with fail
      refine (impl_BodyOk (hr.below (by go_grown)) hm).mono ?_
      rintro e w1 ⟨rfl, hb1⟩
      rw [E.out]
      have q0 := (hx.below hb1).cell_ (i := 0) rfl
      go_wp2_with (go_at_call 54; refine (within_f _ _ _ _ (by omega)).mono ?_; rintro e w' ⟨rfl, rfl⟩)
      go_ret
      exact ⟨ret_bool (by simp [isJ, E.out]; omega), (by go_grown : Below w.heap.size w _).trans (hb1.mono (by simp))⟩

def limbsL (j : Int) : List Lb → Nat → List Int
  | [], _ => []
  | x :: xs, k => if x.a = j ∨ x.b = j then (k : Int) :: limbsL j xs (k + 1) else limbsL j xs (k + 1)
def limbsAt (n : Int) (ls : List Lb) (j : Int) : List Int := if isJ n ls j then limbsL j ls 0 else []
theorem limbsL_len (j : Int) : ∀ (xs : List Lb) (k : Nat), (limbsL j xs k).length ≤ xs.length := by
  intro xs
  induction xs with
  | nil => intro k; simp [limbsL]
  | cons x xs ih =>
    intro k
    unfold limbsL
    have := ih (k + 1)
    split <;> simp <;> omega

set_option maxHeartbeats 4000000 in
theorem impl_LimbsAt {n j : Int} {A : Option Addr} {m c : Nat} {ls : List Lb} {w : World} (hr : Reads w 3 A m (lbs ls)) (hm : m ≤ 1048576) :
    Calls Try.prog 29 #[.agg #[.int .i64 n, .slice A m c], .int .i64 j] w fun e w' => ∃ A' n' c', e = .returned (.slice A' n' c') ∧ w'.ownsRow w.heap.size 3 1 (.slice A' n' c') n' (ints (limbsAt n ls j)) ∧ n' ≤ 1048576 ∧ Below w.heap.size w w' := by
  have hlen : ls.length = m := by have := hr.1; rw [lbs_length] at this; omega
  have hx := Row.new w 24 [.int .i64 n, .slice A m c]
  cases hb : isJ n ls j with
  | false =>
    have E := Lib.hid hb; clear hb
    go_enter Try.func29, Try.ntmps29
    go_wp2_with fail
    refine (impl_isJoint (hr.below (by go_grown)) hm).mono ?_
    rintro e w1 ⟨rfl, hb1⟩
    rw [E.out]
    go_wp2
    go_ret
    exact ⟨none, 0, 0, rfl, by rw [show limbsAt n ls j = [] by simp [limbsAt, E.out]]; exact World.ownsRow_nil _ _ _ _, by omega, (by go_grown : Below w.heap.size w _).trans (hb1.mono (by simp))⟩
  | true =>
    have E := Lib.hid hb; clear hb
    go_enter Try.func29, Try.ntmps29
    go_wp2_with fail
    refine (impl_isJoint (hr.below (by go_grown)) hm).mono ?_
    rintro e w1 ⟨rfl, hb1⟩
    rw [E.out]
    have hx1 := hx.below hb1
    have q1 := hx1.cell_ (i := 1) rfl
    have z1 := hx1.lt
    have hB : Below w.heap.size w w1 := (by go_grown : Below w.heap.size w _).trans (hb1.mono (by simp))
    clear hb1
    obtain ⟨i0, hi, hz0, hz1, hz2⟩ := info_parts info_int
    go_wp2
    go_loopw [5, 16] (fun v i wr => ∃ (k : Nat) (A' : Option Addr) (n' c' : Nat) (acc : List Int), k ≤ m ∧ i = .int .i64 k ∧ v = .slice A' n' c' ∧ n' ≤ k ∧ wr.ownsRow w1.heap.size 3 1 (.slice A' n' c') n' (ints acc) ∧ limbsL j ls 0 = acc ++ limbsL j (ls.drop k) k ∧ Row wr w.heap.size 24 [.int .i64 n, .slice A m c] ∧ Below w1.heap.size w1 wr) (fun _ i _ => m - (intOf i).toNat)
    case atStart => exact ⟨0, _, 0, 0, [], by omega, rfl, rfl, by omega, own_empty _ _ _, rfl, hx1.alloc _, by go_grown⟩
    case round =>
      obtain ⟨k, A', n', c', acc, hk, rfl, rfl, hn', hown, hacc, hbx, hbel⟩ := hrel
      have HA := Lib.hid hacc
      clear hacc
      by_cases hlt : k < m
      · have hBr : Below w.heap.size w wr := hB.trans (hbel.mono (by omega))
        obtain ⟨b, o, x, rfl, hbB, hxk, c0, c1, c2⟩ := (hr.below hBr).lb hlt
        have HX := Lib.hid (drop_cons hxk)
        clear hxk
        have hHE : limbsL j (x :: ls.drop (k + 1)) k = if x.a = j ∨ x.b = j then (k : Int) :: limbsL j (ls.drop (k + 1)) (k + 1) else limbsL j (ls.drop (k + 1)) (k + 1) := rfl
        have HE := Lib.hid hHE
        have bA := own_blk hown
        have HB := Lib.hid hbx
        have zx := hbx.lt
        have zw := hbel.size
        clear hHE hbx
        by_cases hv : x.a = j ∨ x.b = j
        · have hcase : ((x.a == j) = true) ∨ ((x.a == j) = false ∧ (x.b == j) = true) := by
            by_cases e1 : x.a = j
            · left; simp [e1]
            · right; simp [e1]; omega
          have HV := Lib.hid hv
          clear hv
          rcases hcase with e1 | ⟨e1, e2⟩
          all_goals
            go_wp2_with (at_builtin; refine wp_app rfl _ _ 39 rfl w1.heap.size 3 i0 (.int .i64 0) 1 8 Try.underlying39 hi hz0 hz1 hz2 rfl (by decide) rfl (hown.alloc _) [.int .i64 (k : Int)] rfl (by simp [Value.oneCell']) rfl (by simp) (by unfold maxLen; omega) (by omega) (by simp; omega) ?_; intro A2 c2 w2 hown2 hg2)
            have hg3 := grown_trans (World.grownBy_alloc wr (.cells #[.int .i64 x.a, .int .i64 x.b, .int .i64 x.l] 52) _) hg2
            go_roundw
            case rel => exact ⟨k + 1, A2, n' + 1, c2, acc ++ [(k : Int)], by omega, by go_num, rfl, by omega, by rw [ints_append]; exact hown2, by rw [HA.out, HX.out, HE.out, if_pos HV.out]; simp, row_apart HB.out hg3 bA (by omega), bel_apart hbel hg3 bA (Nat.le_refl _)⟩
            case measure => simp [intOf]; omega
        · have e1 : (x.a == j) = false := by simp; omega
          have e2 : (x.b == j) = false := by simp; omega
          have HV := Lib.hid hv
          clear hv
          go_wp2
          go_roundw
          case rel => exact ⟨k + 1, A', n', c', acc, by omega, by go_num, rfl, by omega, hown.alloc _, by rw [HA.out, HX.out, HE.out, if_neg HV.out], HB.out.alloc _, hbel.alloc (by omega) _⟩
          case measure => simp [intOf]; omega
      · obtain rfl : k = m := by omega
        go_wp2
        go_ret
        have hfin : limbsAt n ls j = acc := by
          have := HA.out
          rw [List.drop_eq_nil_of_le (by omega)] at this
          simp [limbsAt, E.out, this, limbsL]
        exact ⟨A', n', c', rfl, by rw [hfin]; exact ownsRow_le hown (by omega), by omega, hB.trans (hbel.mono (by omega))⟩
end Go.Proofs.Ytnghfocboodkhaa
