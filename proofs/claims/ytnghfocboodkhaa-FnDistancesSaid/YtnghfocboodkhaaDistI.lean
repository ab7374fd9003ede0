/- Contracts of the program's DistanceOf, DistancesFrom, farthest, SpanOf and CenterOf; no condition beyond the slice's length. -/
import Derived.Test.YtnghfocboodkhaaDistOf
namespace Go.Proofs.Ytnghfocboodkhaa
open Go.ChangeShapes Go.WideShapes Go.ChangeAt Go.RowKit Go.Deep Go.Joins
set_option maxRecDepth 100000

theorem impl_DistanceOf {n i j : Int} {A : Option Addr} {m c : Nat} {ls : List Lb} {w : World} (hr : Reads w 3 A m (lbs ls)) (hm : m ≤ 1048576) :
    Calls Try.prog 27 #[.agg #[.int .i64 n, .slice A m c], .int .i64 i, .int .i64 j] w fun e w' => e = .returned (.int .i64 (distOf n ls i j)) ∧ Below w.heap.size w w' := by
  have hx := Row.new w 24 [.int .i64 n, .slice A m c]
  cases hi : isJ n ls i with
  | false =>
    have E := Lib.hid hi; clear hi
    go_enter Try.func27, Try.ntmps27
    go_wp2_with fail
    refine (impl_isJoint (hr.below (by go_grown)) hm).mono ?_
    rintro e w1 ⟨rfl, hb1⟩
    rw [E.out]
    go_wp2
    go_ret
    exact ⟨ret_int (by simp [distOf, E.out]), (by go_grown : Below w.heap.size w _).trans (hb1.mono (by simp))⟩
  | true =>
    cases hj : isJ n ls j with
    | false =>
      have E := Lib.hid hi; clear hi
      have F := Lib.hid hj; clear hj
      go_enter Try.func27, Try.ntmps27
      go_wp2_with fail
      refine (impl_isJoint (hr.below (by go_grown)) hm).mono ?_
      rintro e w1 ⟨rfl, hb1⟩
      rw [E.out]
      have hx1 := hx.below hb1
      have q0 := hx1.cell_ (i := 0) rfl
      have q1 := hx1.cell_ (i := 1) rfl
      have hB : Below w.heap.size w w1 := (by go_grown : Below w.heap.size w _).trans (hb1.mono (by simp))
      clear hb1 hx
      go_wp2_with fail
      refine (impl_isJoint (hr.below hB) hm).mono ?_
      rintro e w2 ⟨rfl, hb2⟩
      rw [F.out]
      go_wp2
      go_ret
      exact ⟨ret_int (by simp [distOf, E.out, F.out]), hB.trans (hb2.mono hB.size)⟩
    | true =>
      obtain ⟨hok, hi1, hi2⟩ := isJ_t hi
      obtain ⟨_, hj1, hj2⟩ := isJ_t hj
      obtain ⟨h1, h2, h3, t⟩ := tree_of hok
      obtain ⟨N, rfl⟩ := Int.eq_ofNat_of_zero_le (show 0 ≤ n by omega)
      obtain ⟨I, rfl⟩ := Int.eq_ofNat_of_zero_le hi1
      obtain ⟨J, rfl⟩ := Int.eq_ofNat_of_zero_le hj1
      rw [Int.toNat_natCast] at t
      have OK := Lib.hid t.ok
      have E := Lib.hid hi; clear hi
      have F := Lib.hid hj; clear hj hok t
      go_enter Try.func27, Try.ntmps27
      go_wp2_with fail
      refine (impl_isJoint (hr.below (by go_grown)) hm).mono ?_
      rintro e w1 ⟨rfl, hb1⟩
      rw [E.out]
      have hx1 := hx.below hb1
      have q0 := hx1.cell_ (i := 0) rfl
      have q1 := hx1.cell_ (i := 1) rfl
      have hB : Below w.heap.size w w1 := (by go_grown : Below w.heap.size w _).trans (hb1.mono (by simp))
      clear hb1 hx
      go_wp2_with fail
      refine (impl_isJoint (hr.below hB) hm).mono ?_
      rintro e w2 ⟨rfl, hb2⟩
      rw [F.out]
      have hx2 := hx1.below hb2
      have hB2 := hB.trans (hb2.mono hB.size)
      clear hx1 hb2 hB q0 q1
      have q0 := hx2.cell_ (i := 0) rfl
      have q1 := hx2.cell_ (i := 1) rfl
      go_wp2_with fail
      refine (impl_distances (S := I) (hr.below hB2) OK.out (by omega) hm rfl (by omega)).mono ?_
      rintro e w3 ⟨g, rfl, ho, hb3⟩
      obtain ⟨g', rest, e', _, _, _, _, hrow⟩ := row_of_own ho (by omega)
      injection e' with e'
      injection e' with e' _
      subst e'
      have cj : w3.cell? ⟨g, J, none⟩ = some (.int .i64 (dist N ls I J)) := hrow.cell_ (by rw [List.getElem?_append_left (by rw [ints_length, tab_length]; omega), ints_get, tab_get _ _ _ (by omega)]; rfl)
      have hJ' : (J : Int) < (N : Int) := by omega
      have hB3 := hB2.trans (hb3.mono hB2.size)
      clear hrow ho hb3 hx2 q0 q1 hB2
      generalize hd : dist N ls I J = dd at *
      have HD := Lib.hid hd
      clear hd
      go_wp2
      go_ret
      exact ⟨ret_int (by simp [distOf, E.out, F.out, HD.out]), hB3⟩

theorem impl_DistancesFrom {n i : Int} {A : Option Addr} {m c : Nat} {ls : List Lb} {w : World} (hr : Reads w 3 A m (lbs ls)) (hm : m ≤ 1048576) :
    Calls Try.prog 44 #[.agg #[.int .i64 n, .slice A m c], .int .i64 i] w fun e w' => ∃ A' n' c', e = .returned (.slice A' n' c') ∧ w'.ownsRow w.heap.size 3 1 (.slice A' n' c') n' (ints (distsFrom n ls i)) ∧ n' ≤ 1048576 ∧ Below w.heap.size w w' := by
  have hx := Row.new w 24 [.int .i64 n, .slice A m c]
  cases hi : isJ n ls i with
  | false =>
    have E := Lib.hid hi; clear hi
    go_enter Try.func44, Try.ntmps44
    go_wp2_with fail
    refine (impl_isJoint (hr.below (by go_grown)) hm).mono ?_
    rintro e w1 ⟨rfl, hb1⟩
    rw [E.out]
    go_wp2
    go_ret
    exact ⟨none, 0, 0, rfl, by rw [show distsFrom n ls i = [] by simp [distsFrom, E.out]]; exact World.ownsRow_nil _ _ _ _, by omega, (by go_grown : Below w.heap.size w _).trans (hb1.mono (by simp))⟩
  | true =>
    obtain ⟨hok, hi1, hi2⟩ := isJ_t hi
    obtain ⟨h1, h2, h3, t⟩ := tree_of hok
    obtain ⟨N, rfl⟩ := Int.eq_ofNat_of_zero_le (show 0 ≤ n by omega)
    obtain ⟨I, rfl⟩ := Int.eq_ofNat_of_zero_le hi1
    rw [Int.toNat_natCast] at t
    have OK := Lib.hid t.ok
    have E := Lib.hid hi; clear hi hok t
    go_enter Try.func44, Try.ntmps44
    go_wp2_with fail
    refine (impl_isJoint (hr.below (by go_grown)) hm).mono ?_
    rintro e w1 ⟨rfl, hb1⟩
    rw [E.out]
    have hx1 := hx.below hb1
    have q0 := hx1.cell_ (i := 0) rfl
    have q1 := hx1.cell_ (i := 1) rfl
    have hB : Below w.heap.size w w1 := (by go_grown : Below w.heap.size w _).trans (hb1.mono (by simp))
    clear hb1 hx
    go_wp2_with fail
    refine (impl_distances (S := I) (hr.below hB) OK.out (by omega) hm rfl (by omega)).mono ?_
    rintro e w3 ⟨g, rfl, ho, hb3⟩
    go_wp2
    go_ret
    exact ⟨_, N, N, rfl, by rw [distsFrom_yes E.out]; exact ownsRow_le ho hB.size, by omega, hB.trans (hb3.mono hB.size)⟩

/-! ### The greatest of a table -/
def maxTo (f : Nat → Int) : Nat → Int
  | 0 => 0
  | k + 1 => max (maxTo f k) (f k)
theorem maxTo_bd {f : Nat → Int} {n : Nat} (h : ∀ v, v < n → 0 ≤ f v ∧ f v ≤ 1100) : 0 ≤ maxTo f n ∧ maxTo f n ≤ 1100 := by
  induction n with
  | zero => simp [maxTo]
  | succ n ih =>
    have h1 := ih fun v hv => h v (by omega)
    have h2 := h n (by omega)
    simp only [maxTo]
    omega
def far (N : Nat) (ls : List Lb) (i : Nat) : Int := maxTo (dist N ls i) N

theorem impl_farthest {N I : Nat} {i : Int} {A : Option Addr} {m c : Nat} {ls : List Lb} {w : World} (hr : Reads w 3 A m (lbs ls)) (hm : m ≤ 1048576) (t : Tree N ls) (hi : i = (I : Int)) (hI : I < N) :
    Calls Try.prog 63 #[.agg #[.int .i64 (N : Int), .slice A m c], .int .i64 i] w fun e w' => e = .returned (.int .i64 (far N ls I)) ∧ Below w.heap.size w w' := by
  subst hi
  have hN := t.small
  have OK := Lib.hid t.ok
  have BD := Lib.hid (fun v (hv : v < N) => (⟨t.all hI v hv, t.bound hI v⟩ : 0 ≤ dist N ls I v ∧ dist N ls I v ≤ 1100))
  clear t
  go_enter Try.func63, Try.ntmps63
  go_wp2_with fail
  refine (impl_distances (S := I) (hr.below (by go_grown)) OK.out hN hm rfl hI).mono ?_
  rintro e w1 ⟨g, rfl, ho, hb1⟩
  have hB : Below w.heap.size w w1 := (by go_grown : Below w.heap.size w _).trans (hb1.mono (by simp))
  have hrd := Reads.of_own ho
  clear ho hb1
  go_wp2
  go_loop [5, 12] (fun v i => ∃ k : Nat, k ≤ N ∧ i = .int .i64 k ∧ v = .int .i64 (maxTo (dist N ls I) k)) (fun _ i => N - (intOf i).toNat)
  case atStart => exact ⟨0, by omega, rfl, rfl⟩
  case round =>
    obtain ⟨k, hk, rfl, rfl⟩ := hrel
    by_cases hlt : k < N
    · obtain ⟨b, o, x, e', hbB, hxk, c0⟩ := hrd.int hlt
      injection e' with e'
      injection e' with e1 e2 _
      subst e1 e2
      rw [tab_get _ _ _ hlt] at hxk
      injection hxk with hxk
      simp only [Nat.zero_add] at c0
      have hbd := maxTo_bd (f := dist N ls I) (n := k) fun v hv => BD.out v (by omega)
      have hst : maxTo (dist N ls I) (k + 1) = max (maxTo (dist N ls I) k) (dist N ls I k) := rfl
      rw [hxk] at hst
      have ST := Lib.hid hst
      clear hst hxk
      generalize maxTo (dist N ls I) k = M at *
      go_wp2
      all_goals
        go_round
        case rel => exact ⟨k + 1, by omega, by go_num, by rw [ST.out]; go_num⟩
        case measure => simp [intOf]; omega
    · obtain rfl : k = N := by omega
      go_wp2
      go_ret
      exact ⟨ret_int rfl, hB⟩
end Go.Proofs.Ytnghfocboodkhaa
