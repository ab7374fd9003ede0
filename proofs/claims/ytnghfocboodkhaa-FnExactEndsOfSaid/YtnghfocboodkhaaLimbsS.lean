/- Contracts of the reference's LimbsAt, and of EndsOf and LengthOf of both sides; no condition beyond the slice's length. -/
import Derived.Test.YtnghfocboodkhaaLimbsAt
namespace Go.Proofs.Ytnghfocboodkhaa
open Go.ChangeShapes Go.WideShapes Go.ChangeAt Go.RowKit Go.Deep Go.Joins
set_option maxRecDepth 100000

theorem limbsL_cons (j : Int) (x : Lb) (xs : List Lb) (k : Nat) : limbsL j (x :: xs) k = if x.a = j ∨ x.b = j then (k : Int) :: limbsL j xs (k + 1) else limbsL j xs (k + 1) := rfl

set_option maxRecDepth 100000 in
set_option maxHeartbeats 4000000 in
theorem spec_LimbsAt {n j : Int} {A : Option Addr} {m c : Nat} {ls : List Lb} {w : World} (hr : Reads w 3 A m (lbs ls)) (hm : m ≤ 1048576) :
    Calls Try.prog 28 #[.agg #[.int .i64 n, .slice A m c], .int .i64 j] w fun e w' => ∃ A' n' c', e = .returned (.slice A' n' c') ∧ w'.ownsRow w.heap.size 3 1 (.slice A' n' c') n' (ints (limbsAt n ls j)) ∧ n' ≤ 1048576 ∧ Below w.heap.size w w' := by
  have hlen : ls.length = m := by have := hr.1; rw [lbs_length] at this; omega
  have hx := (Row.new w 24 [.int .i64 n, .slice A m c]).alloc (.cells #[] 3)
  have ho := own_empty (w.alloc (.cells #[.int .i64 n, .slice A m c] 24)) 3 1
  rw [World.size_alloc] at ho
  cases hb : bodyOk n ls with
  | false =>
    have E := Lib.hid hb; clear hb
    go_enter Try.func28, Try.ntmps28
    go_wp2_with fail
    refine (spec_BodyOk (hr.below (by go_grown)) hm).mono ?_
    rintro e w1 ⟨rfl, hb1⟩
    rw [E.out]
    go_wp2
    go_ret
    exact ⟨_, 0, 0, rfl, by rw [show limbsAt n ls j = [] by simp [limbsAt, isJ, E.out]]; exact own_below (ownsRow_le ho (by omega)) hb1, by omega, (by go_grown : Below w.heap.size w _).trans (hb1.mono (by simp; omega))⟩
  | true =>
    have hb' := tree_of hb
    have E := Lib.hid hb; clear hb
    by_cases hj : 0 ≤ j ∧ j ≤ n - 1
    rotate_left
    · go_enter Try.func28, Try.ntmps28
      go_wp2_with fail
      refine (spec_BodyOk (hr.below (by go_grown)) hm).mono ?_
      rintro e w1 ⟨rfl, hb1⟩
      rw [E.out]
      have q0 := (hx.below hb1).cell_ (i := 0) rfl
      go_wp2_with (go_at_call 52; refine (l01In_f _ _ _ _ (by omega)).mono ?_; rintro e w' ⟨rfl, rfl⟩)
      go_ret
      exact ⟨_, 0, 0, rfl, by rw [show limbsAt n ls j = [] by simp [limbsAt, isJ]; omega]; exact own_below (ownsRow_le ho (by omega)) hb1, by omega, (by go_grown : Below w.heap.size w _).trans (hb1.mono (by simp; omega))⟩
    have hJ := Lib.hid (show isJ n ls j = true by simp [isJ, E.out]; omega)
    obtain ⟨i0, hi, hz0, hz1, hz2⟩ := info_parts info_int
    go_enter Try.func28, Try.ntmps28
    go_wp2_with fail
    refine (spec_BodyOk (hr.below (by go_grown)) hm).mono ?_
    rintro e w1 ⟨rfl, hb1⟩
    rw [E.out]
    have hx1 := hx.below hb1
    have ho1 := own_below ho hb1
    have q0 := hx1.cell_ (i := 0) rfl
    have z1 := hx1.lt
    have hB : Below w.heap.size w w1 := (by go_grown : Below w.heap.size w _).trans (hb1.mono (by simp; omega))
    have hsz : w.heap.size + 2 ≤ w1.heap.size := by have := hb1.size; simpa using this
    clear hb1 hx ho
    go_wp2_with (go_at_call 52; refine (l01In_t _ _ _ _ (by omega) (by omega)).mono ?_; rintro e w' ⟨rfl, rfl⟩)
    clear q0
    go_loopw [5, 6] (fun v i wr => ∃ (k : Nat) (A' : Option Addr) (n' c' : Nat) (acc : List Int), k ≤ m ∧ i = .int .i64 k ∧ v = .slice A' n' c' ∧ n' ≤ k ∧ wr.ownsRow (w.heap.size + 1) 3 1 (.slice A' n' c') n' (ints acc) ∧ limbsL j ls 0 = acc ++ limbsL j (ls.drop k) k ∧ Row wr w.heap.size 24 [.int .i64 n, .slice A m c] ∧ Below w.heap.size w wr) (fun _ i _ => m - (intOf i).toNat)
    case atStart => exact ⟨0, _, 0, 0, [], by omega, rfl, rfl, by omega, ho1, rfl, hx1, hB⟩
    case round =>
      obtain ⟨k, A', n', c', acc, hk, rfl, rfl, hn', hown, hacc, hbx, hbel⟩ := hrel
      have HA := Lib.hid hacc
      have q1 := hbx.cell_ (i := 1) rfl
      clear hacc ho1
      by_cases hlt : k < m
      · obtain ⟨b, o, x, rfl, hbB, hxk, c0, c1, c2⟩ := (hr.below hbel).lb hlt
        have HX := Lib.hid (drop_cons hxk)
        have HE := Lib.hid (limbsL_cons j x (ls.drop (k + 1)) k)
        have bA := own_blk hown
        have HB := Lib.hid hbx
        have zx := hbx.lt
        clear hbx hxk c2 hx1
        by_cases hv : x.a = j ∨ x.b = j
        · have hcase : ((x.a == j) = true) ∨ ((x.a == j) = false ∧ (x.b == j) = true) := by
            by_cases e1 : x.a = j
            · left; simp [e1]
            · right; simp [e1]; omega
          have HV := Lib.hid hv
          clear hv
          rcases hcase with e1 | ⟨e1, e2⟩
          all_goals
            go_wp2_with (at_builtin; refine wp_app rfl _ _ 39 rfl (w.heap.size + 1) 3 i0 (.int .i64 0) 1 8 Try.underlying39 hi hz0 hz1 hz2 rfl (by decide) rfl hown [.int .i64 (k : Int)] rfl (by simp [Value.oneCell']) rfl (by simp) (by unfold maxLen; omega) (by omega) (by omega) ?_; intro A2 c2 w2 hown2 hg2)
            go_roundw
            case rel => exact ⟨k + 1, A2, n' + 1, c2, acc ++ [(k : Int)], by omega, by go_num, rfl, by omega, by rw [ints_append]; exact hown2, by rw [HA.out, HX.out, HE.out, if_pos HV.out]; simp, row_apart HB.out hg2 bA (by omega), bel_apart hbel hg2 bA (by omega)⟩
            case measure => simp [intOf]; omega
        · have e1 : (x.a == j) = false := by simp; omega
          have e2 : (x.b == j) = false := by simp; omega
          have HV := Lib.hid hv
          clear hv
          go_wp2
          go_roundw
          case rel => exact ⟨k + 1, A', n', c', acc, by omega, by go_num, rfl, by omega, hown, by rw [HA.out, HX.out, HE.out, if_neg HV.out], HB.out, hbel⟩
          case measure => simp [intOf]; omega
      · obtain rfl : k = m := by omega
        clear hx1
        go_wp2
        go_ret
        have hfin : limbsAt n ls j = acc := by
          have := HA.out
          rw [List.drop_eq_nil_of_le (by omega)] at this
          simp [limbsAt, hJ.out, this, limbsL]
        exact ⟨A', n', c', rfl, by rw [hfin]; exact ownsRow_le hown (by omega), by omega, hbel⟩

/-! ### EndsOf -/
def endsUp (n : Int) (ls : List Lb) (k : Nat) : List Int := ((List.range k).filter fun j : Nat => decide ((limbsAt n ls (j : Int)).length ≤ 1)).map fun j : Nat => (j : Int)
def endsOf (n : Int) (ls : List Lb) : List Int := if bodyOk n ls then endsUp n ls n.toNat else []
theorem endsUp_yes {n : Int} {ls : List Lb} {k : Nat} (h : (limbsAt n ls (k : Int)).length ≤ 1) : endsUp n ls (k + 1) = endsUp n ls k ++ [(k : Int)] := by
  simp [endsUp, List.range_succ, List.filter_append, h]
theorem endsUp_no {n : Int} {ls : List Lb} {k : Nat} (h : ¬(limbsAt n ls (k : Int)).length ≤ 1) : endsUp n ls (k + 1) = endsUp n ls k := by
  simp [endsUp, List.range_succ, List.filter_append, h]

set_option maxRecDepth 100000 in
set_option maxHeartbeats 4000000 in
theorem impl_EndsOf {n : Int} {A : Option Addr} {m c : Nat} {ls : List Lb} {w : World} (hr : Reads w 3 A m (lbs ls)) (hm : m ≤ 1048576) :
    Calls Try.prog 34 #[.agg #[.int .i64 n, .slice A m c]] w fun e w' => ∃ A' n' c', e = .returned (.slice A' n' c') ∧ w'.ownsRow w.heap.size 3 1 (.slice A' n' c') n' (ints (endsOf n ls)) ∧ n' ≤ 1048576 ∧ Below w.heap.size w w' := by
  have hx := Row.new w 24 [.int .i64 n, .slice A m c]
  cases hb : bodyOk n ls with
  | false =>
    have E := Lib.hid hb; clear hb
    go_enter Try.func34, Try.ntmps34
    go_wp2_with fail
    refine (impl_BodyOk (hr.below (by go_grown)) hm).mono ?_
    rintro e w1 ⟨rfl, hb1⟩
    rw [E.out]
    go_wp2
    go_ret
    exact ⟨none, 0, 0, rfl, by rw [show endsOf n ls = [] by simp [endsOf, E.out]]; exact World.ownsRow_nil _ _ _ _, by omega, (by go_grown : Below w.heap.size w _).trans (hb1.mono (by simp))⟩
  | true =>
    obtain ⟨h1, h2, h3, _⟩ := tree_of hb
    have E := Lib.hid hb; clear hb
    obtain ⟨N, rfl⟩ := Int.eq_ofNat_of_zero_le (show 0 ≤ n by omega)
    obtain ⟨i0, hi, hz0, hz1, hz2⟩ := info_parts info_int
    go_enter Try.func34, Try.ntmps34
    go_wp2_with fail
    refine (impl_BodyOk (hr.below (by go_grown)) hm).mono ?_
    rintro e w1 ⟨rfl, hb1⟩
    rw [E.out]
    have hx1 := hx.below hb1
    have q0 := hx1.cell_ (i := 0) rfl
    have z1 := hx1.lt
    have hB : Below w.heap.size w w1 := (by go_grown : Below w.heap.size w _).trans (hb1.mono (by simp))
    clear hb1 hx
    go_wp2
    clear q0
    go_loopw [3, 11] (fun v i wr => ∃ (k : Nat) (A' : Option Addr) (n' c' : Nat), k ≤ N ∧ i = .int .i64 k ∧ v = .slice A' n' c' ∧ n' ≤ k ∧ wr.ownsRow w1.heap.size 3 1 (.slice A' n' c') n' (ints (endsUp N ls k)) ∧ Row wr w.heap.size 24 [.int .i64 N, .slice A m c] ∧ Below w1.heap.size w1 wr) (fun _ i _ => N - (intOf i).toNat)
    case atStart => exact ⟨0, _, 0, 0, by omega, rfl, rfl, by omega, own_empty _ _ _, hx1.alloc _, by go_grown⟩
    case round =>
      obtain ⟨k, A', n', c', hk, rfl, rfl, hn', hown, hbx, hbel⟩ := hrel
      have q0 := hbx.cell_ (i := 0) rfl
      have q1 := hbx.cell_ (i := 1) rfl
      have zx := hbx.lt
      clear hx1
      by_cases hlt : k < N
      · have hBr : Below w.heap.size w wr := hB.trans (hbel.mono (by omega))
        go_wp2_with fail
        refine (impl_LimbsAt (hr.below hBr) hm).mono ?_
        rintro e w2 ⟨A2, n2, c2, rfl, ho2, hn2, hb2⟩
        have hl2 := own_len ho2
        have hbx2 := hbx.below hb2
        have hown2 := own_below hown hb2
        have hbel2 := hbel.trans (hb2.mono hbel.size)
        have HL := Lib.hid hl2
        have HB := Lib.hid hbx2
        have zb := hbel2.size
        have zy := hbx2.lt
        have bA := own_blk hown2
        clear ho2 hb2 hl2 q0 q1 hbx hown hbel hbx2
        by_cases hv : n2 ≤ 1
        · have HV := Lib.hid (endsUp_yes (n := (N : Int)) (ls := ls) (k := k) (by rw [← HL.out]; exact hv))
          go_wp2_with (at_builtin; refine wp_app rfl _ _ 39 rfl w1.heap.size 3 i0 (.int .i64 0) 1 8 Try.underlying39 hi hz0 hz1 hz2 rfl (by decide) rfl hown2 [.int .i64 (k : Int)] rfl (by simp [Value.oneCell']) rfl (by simp) (by unfold maxLen; omega) (by omega) (by omega) ?_; intro A3 c3 w3 hown3 hg3)
          go_roundw
          case rel => exact ⟨k + 1, A3, n' + 1, c3, by omega, by go_num, rfl, by omega, by rw [HV.out, ints_append]; exact hown3, row_apart HB.out hg3 bA (by omega), bel_apart hbel2 hg3 bA (Nat.le_refl _)⟩
          case measure => simp [intOf]; omega
        · have HV := Lib.hid (endsUp_no (n := (N : Int)) (ls := ls) (k := k) (by rw [← HL.out]; exact hv))
          go_wp2
          go_roundw
          case rel => exact ⟨k + 1, A', n', c', by omega, by go_num, rfl, by omega, by rw [HV.out]; exact hown2, HB.out, hbel2⟩
          case measure => simp [intOf]; omega
      · obtain rfl : k = N := by omega
        go_wp2
        go_ret
        exact ⟨A', n', c', rfl, by rw [show endsOf k ls = endsUp k ls k by simp [endsOf, E.out]]; exact ownsRow_le hown (by omega), by omega, hB.trans (hbel.mono (by omega))⟩

set_option maxRecDepth 100000 in
set_option maxHeartbeats 4000000 in
theorem spec_EndsOf {n : Int} {A : Option Addr} {m c : Nat} {ls : List Lb} {w : World} (hr : Reads w 3 A m (lbs ls)) (hm : m ≤ 1048576) :
    Calls Try.prog 33 #[.agg #[.int .i64 n, .slice A m c]] w fun e w' => ∃ A' n' c', e = .returned (.slice A' n' c') ∧ w'.ownsRow w.heap.size 3 1 (.slice A' n' c') n' (ints (endsOf n ls)) ∧ n' ≤ 1048576 ∧ Below w.heap.size w w' := by
  have hx := (Row.new w 24 [.int .i64 n, .slice A m c]).alloc (.cells #[] 3)
  have ho := own_empty (w.alloc (.cells #[.int .i64 n, .slice A m c] 24)) 3 1
  rw [World.size_alloc] at ho
  cases hb : bodyOk n ls with
  | false =>
    have E := Lib.hid hb; clear hb
    by_cases hn0 : 0 < n
    · go_enter Try.func33, Try.ntmps33
      go_wp2
      refine wp_loop_rounds 1 ?_
      rw [rounds_succ]
      go_wp2_with (go_at_call 21; refine (spec_BodyOk (hr.below (by go_grown)) hm).mono ?_; rintro e w1 ⟨rfl, hb1⟩; rw [E.out])
      go_ret
      exact ⟨_, 0, 0, rfl, by rw [show endsOf n ls = [] by simp [endsOf, E.out]]; exact own_below (ownsRow_le ho (by omega)) hb1, by omega, (by go_grown : Below w.heap.size w _).trans (hb1.mono (by simp; omega))⟩
    · go_enter Try.func33, Try.ntmps33
      go_wp2
      refine wp_loop_rounds 1 ?_
      rw [rounds_succ]
      go_wp2
      go_ret
      exact ⟨_, 0, 0, rfl, by rw [show endsOf n ls = [] by simp [endsOf, E.out]]; exact ownsRow_le ho (by omega), by omega, by go_grown⟩
  | true =>
    obtain ⟨h1, h2, h3, _⟩ := tree_of hb
    have E := Lib.hid hb; clear hb
    obtain ⟨N, rfl⟩ := Int.eq_ofNat_of_zero_le (show 0 ≤ n by omega)
    obtain ⟨i0, hi, hz0, hz1, hz2⟩ := info_parts info_int
    go_enter Try.func33, Try.ntmps33
    go_wp2
    go_loopw [3, 4] (fun v i wr => ∃ (k : Nat) (A' : Option Addr) (n' c' : Nat), k ≤ N ∧ i = .int .i64 k ∧ v = .slice A' n' c' ∧ n' ≤ k ∧ wr.ownsRow (w.heap.size + 1) 3 1 (.slice A' n' c') n' (ints (endsUp N ls k)) ∧ Row wr w.heap.size 24 [.int .i64 N, .slice A m c] ∧ Below w.heap.size w wr) (fun _ i _ => N - (intOf i).toNat)
    case atStart => exact ⟨0, _, 0, 0, by omega, rfl, rfl, by omega, ho, hx, by go_grown⟩
    case round =>
      obtain ⟨k, A', n', c', hk, rfl, rfl, hn', hown, hbx, hbel⟩ := hrel
      have q0 := hbx.cell_ (i := 0) rfl
      have q1 := hbx.cell_ (i := 1) rfl
      have zx := hbx.lt
      clear hx ho
      by_cases hlt : k < N
      · go_wp2_with fail
        refine (spec_BodyOk (hr.below hbel) hm).mono ?_
        rintro e w1 ⟨rfl, hb1⟩
        rw [E.out]
        have hbx1 := hbx.below hb1
        have hown1 := own_below hown hb1
        have hbel1 := hbel.trans (hb1.mono hbel.size)
        clear hb1 q0 q1 zx hbx hown hbel
        have q0 := hbx1.cell_ (i := 0) rfl
        have q1 := hbx1.cell_ (i := 1) rfl
        go_wp2_with fail
        refine (spec_LimbsAt (hr.below hbel1) hm).mono ?_
        rintro e w2 ⟨A2, n2, c2, rfl, ho2, hn2, hb2⟩
        have hl2 := own_len ho2
        have hbx2 := hbx1.below hb2
        have hown2 := own_below hown1 hb2
        have hbel2 := hbel1.trans (hb2.mono hbel1.size)
        have HL := Lib.hid hl2
        have HB := Lib.hid hbx2
        have zy := hbx2.lt
        have bA := own_blk hown2
        clear ho2 hb2 hl2 q0 q1 hbx1 hown1 hbel1 hbx2
        by_cases hv : n2 ≤ 1
        · have HV := Lib.hid (endsUp_yes (n := (N : Int)) (ls := ls) (k := k) (by rw [← HL.out]; exact hv))
          go_wp2_with (at_builtin; refine wp_app rfl _ _ 39 rfl (w.heap.size + 1) 3 i0 (.int .i64 0) 1 8 Try.underlying39 hi hz0 hz1 hz2 rfl (by decide) rfl hown2 [.int .i64 (k : Int)] rfl (by simp [Value.oneCell']) rfl (by simp) (by unfold maxLen; omega) (by omega) (by omega) ?_; intro A3 c3 w3 hown3 hg3)
          go_roundw
          case rel => exact ⟨k + 1, A3, n' + 1, c3, by omega, by go_num, rfl, by omega, by rw [HV.out, ints_append]; exact hown3, row_apart HB.out hg3 bA (by omega), bel_apart hbel2 hg3 bA (by omega)⟩
          case measure => simp [intOf]; omega
        · have HV := Lib.hid (endsUp_no (n := (N : Int)) (ls := ls) (k := k) (by rw [← HL.out]; exact hv))
          go_wp2
          go_roundw
          case rel => exact ⟨k + 1, A', n', c', by omega, by go_num, rfl, by omega, by rw [HV.out]; exact hown2, HB.out, hbel2⟩
          case measure => simp [intOf]; omega
      · obtain rfl : k = N := by omega
        go_wp2
        go_ret
        exact ⟨A', n', c', rfl, by rw [show endsOf k ls = endsUp k ls k by simp [endsOf, E.out]]; exact ownsRow_le hown (by omega), by omega, hbel⟩
end Go.Proofs.Ytnghfocboodkhaa
