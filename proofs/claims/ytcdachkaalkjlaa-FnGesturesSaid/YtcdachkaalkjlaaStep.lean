/- Contracts of StepSize of both sides; no condition beyond the slices' lengths. -/
import Derived.Test.YtcdachkaalkjlaaOrd
namespace Go.Proofs.Ytcdachkaalkjlaa
open Go.ChangeShapes Go.WideShapes Go.ChangeAt Go.RowKit Go.Deep Go.Joins
set_option maxRecDepth 100000

def stepTo (p q : List Int) : Nat → Int
  | 0 => 0
  | k + 1 => max (stepTo p q k) (match p[k]?, q[k]? with | some a, some b => max (a - b) (b - a) | _, _ => 0)
theorem stepTo_step {p q : List Int} {k : Nat} {a b : Int} (ha : p[k]? = some a) (hb : q[k]? = some b) : stepTo p q (k + 1) = max (stepTo p q k) (max (a - b) (b - a)) := by rw [stepTo, ha, hb]
def stepOk (p q : List Int) : Bool := decide (p.length = q.length ∧ p.length ≤ 12) && (inAll p (-2000) 2000 && inAll q (-2000) 2000)
def stepSize (p q : List Int) : Int := if stepOk p q then stepTo p q p.length else -1
theorem stepSize_yes {p q : List Int} (h : stepOk p q = true) : stepSize p q = stepTo p q p.length := by simp [stepSize, h]
theorem stepSize_no {p q : List Int} (h : stepOk p q = false) : stepSize p q = -1 := by simp [stepSize, h]
theorem stepOk_len {p q : List Int} (h : p.length ≠ q.length ∨ 12 < p.length) : stepOk p q = false := by
  have : decide (p.length = q.length ∧ p.length ≤ 12) = false := decide_eq_false (by omega)
  simp [stepOk, this]
theorem stepOk_in {p q : List Int} (h1 : p.length = q.length) (h2 : p.length ≤ 12) : stepOk p q = (inAll p (-2000) 2000 && inAll q (-2000) 2000) := by
  have : decide (p.length = q.length ∧ p.length ≤ 12) = true := decide_eq_true ⟨h1, h2⟩
  simp [stepOk, this]
theorem stepTo_bd {p q : List Int} (hp : inAll p (-2000) 2000 = true) (hq : inAll q (-2000) 2000 = true) (k : Nat) : 0 ≤ stepTo p q k ∧ stepTo p q k ≤ 4000 := by
  induction k with
  | zero => simp [stepTo]
  | succ k ih =>
    rw [stepTo]
    split
    · rename_i a b ha hb
      have := inAll_at hp ha
      have := inAll_at hq hb
      omega
    · omega

theorem impl_size {n : Int} {w : World} (h : -9223372036854775807 ≤ n) (h2 : n ≤ 9223372036854775807) : Calls Try.prog 41 #[.int .i64 n] w fun e w' => e = .returned (.int .i64 (max n (-n))) ∧ w = w' := by
  go_enter Try.func41, Try.ntmps41
  go_wp2
  all_goals
    go_ret
    exact ⟨ret_int (by omega), rfl⟩

set_option maxHeartbeats 4000000 in
theorem impl_StepSize {A B : Option Addr} {m n c d : Nat} {p q : List Int} {w : World} (hp : Reads w 1 A m (ints p)) (hm : m ≤ 1048576) (hq : Reads w 1 B n (ints q)) (hn : n ≤ 1048576) :
    Calls Try.prog 12 #[.slice A m c, .slice B n d] w fun e w' => e = .returned (.int .i64 (stepSize p q)) ∧ Below w.heap.size w w' := by
  have hlp := hp.len
  have hlq := hq.len
  by_cases hne : m = n
  rotate_left
  · have e1 : ((m : Int) == (n : Int)) = false := by simp; omega
    have e2 : ((m : Int) != (n : Int)) = true := by simp; omega
    have S := Lib.hid (stepSize_no (stepOk_len (p := p) (q := q) (by omega)))
    go_enter Try.func12, Try.ntmps12
    go_wp2
    go_ret
    exact ⟨ret_int S.out.symm, by go_grown⟩
  subst hne
  by_cases h12 : 12 < m
  · have S := Lib.hid (stepSize_no (stepOk_len (p := p) (q := q) (by omega)))
    go_enter Try.func12, Try.ntmps12
    go_wp2
    go_ret
    exact ⟨ret_int S.out.symm, by go_grown⟩
  have HO := Lib.hid (stepOk_in (p := p) (q := q) (by omega) (by omega))
  generalize hi1 : inAll p (-2000) 2000 = i1 at HO
  generalize hi2 : inAll q (-2000) 2000 = i2 at HO
  have I1 := Lib.hid hi1
  have I2 := Lib.hid hi2
  clear hi1 hi2
  cases i1 with
  | false =>
    have S := Lib.hid (stepSize_no (by rw [HO.out]; rfl))
    go_enter Try.func12, Try.ntmps12
    go_wp2_with fail
    refine (impl_allWithin hp hm).mono ?_
    rintro e w1 ⟨rfl, rfl⟩
    rw [I1.out]
    go_wp2
    go_ret
    exact ⟨ret_int S.out.symm, by go_grown⟩
  | true =>
    cases i2 with
    | false =>
      have S := Lib.hid (stepSize_no (by rw [HO.out]; rfl))
      go_enter Try.func12, Try.ntmps12
      go_wp2_with fail
      refine (impl_allWithin hp hm).mono ?_
      rintro e w1 ⟨rfl, rfl⟩
      rw [I1.out]
      go_wp2_with fail
      refine (impl_allWithin hq hn).mono ?_
      rintro e w1 ⟨rfl, rfl⟩
      rw [I2.out]
      go_wp2
      go_ret
      exact ⟨ret_int S.out.symm, by go_grown⟩
    | true =>
      have S := Lib.hid (stepSize_yes (by rw [HO.out]; rfl))
      go_enter Try.func12, Try.ntmps12
      go_wp2_with fail
      refine (impl_allWithin hp hm).mono ?_
      rintro e w1 ⟨rfl, rfl⟩
      rw [I1.out]
      go_wp2_with fail
      refine (impl_allWithin hq hn).mono ?_
      rintro e w1 ⟨rfl, rfl⟩
      rw [I2.out]
      go_wp2
      go_loopw [5, 29] (fun v i wr => ∃ k x : Nat, k ≤ m ∧ i = .int .i64 k ∧ v = .int .i64 (stepTo p q k) ∧ wr = w.drewN x) (fun _ i _ => m - (intOf i).toNat)
      case atStart => exact ⟨0, 0, by omega, rfl, rfl, rfl⟩
      case round =>
        obtain ⟨k, x, hk, rfl, rfl, rfl⟩ := hrel
        by_cases hlt : k < m
        · obtain ⟨b, o, a, rfl, hbB, ha, c0⟩ := hp.int hlt
          obtain ⟨b', o', z, rfl, hbB', hz, c1⟩ := hq.int hlt
          have l1 : (k : Int) < (m : Int) := by omega
          have HS := Lib.hid (stepTo_step ha hz)
          have ba := inAll_at I1.out ha
          have bz := inAll_at I2.out hz
          have bt := stepTo_bd I1.out I2.out k
          generalize stepTo p q k = T at *
          have wr1 : IntKind.i64.wrap (a - z) = a - z := IntWalk.i64_in _ (by omega)
          clear ha hz
          go_wp2
          go_quiet ((go_at_call 41; refine quiet_at (impl_size (n := a - z) (by omega) (by omega)) ⟨_, rfl⟩))
          go_wp2
          go_roundw
          case rel => exact ⟨k + 1, _, by omega, by go_num, by rw [HS.out]; exact congrArg (Value.int .i64) (by omega), rfl⟩
          case measure => simp [intOf]; omega
        · obtain rfl : k = m := by omega
          go_wp2
          go_ret
          exact ⟨ret_int (by rw [S.out, hlp]), below_drewN (Below.refl _ _) _⟩

theorem stepTo_bdU {p q : List Int} {k : Nat} (hp : InUpTo p (-2000) 2000 k) (hq : InUpTo q (-2000) 2000 k) : 0 ≤ stepTo p q k ∧ stepTo p q k ≤ 4000 := by
  induction k with
  | zero => simp [stepTo]
  | succ k ih =>
    have := ih (fun i x hi => hp i x (by omega)) (fun i x hi => hq i x (by omega))
    rw [stepTo]
    split
    · rename_i a b ha hb
      have := hp k a (by omega) ha
      have := hq k b (by omega) hb
      omega
    · omega
theorem stepSize_no1 {p q : List Int} {k : Nat} {x : Int} (hx : p[k]? = some x) (h : x < -2000 ∨ 2000 < x) : stepSize p q = -1 := stepSize_no (by simp [stepOk, inAll_no hx h])
theorem stepSize_no2 {p q : List Int} {k : Nat} {x : Int} (hx : q[k]? = some x) (h : x < -2000 ∨ 2000 < x) : stepSize p q = -1 := stepSize_no (by simp [stepOk, inAll_no hx h])

set_option maxHeartbeats 4000000 in
theorem spec_StepSize {A B : Option Addr} {m n c d : Nat} {p q : List Int} {w : World} (hp : Reads w 1 A m (ints p)) (hm : m ≤ 1048576) (hq : Reads w 1 B n (ints q)) (hn : n ≤ 1048576) :
    Calls Try.prog 10 #[.slice A m c, .slice B n d] w fun e w' => e = .returned (.int .i64 (stepSize p q)) ∧ Below w.heap.size w w' := by
  have hlp := hp.len
  have hlq := hq.len
  by_cases hne : m = n
  rotate_left
  · have e1 : ((m : Int) == (n : Int)) = false := by simp; omega
    have e2 : ((m : Int) != (n : Int)) = true := by simp; omega
    have S := Lib.hid (stepSize_no (stepOk_len (p := p) (q := q) (by omega)))
    go_enter Try.func10, Try.ntmps10
    go_wp2
    go_ret
    exact ⟨ret_int S.out.symm, by go_grown⟩
  subst hne
  by_cases h12 : 12 < m
  · have S := Lib.hid (stepSize_no (stepOk_len (p := p) (q := q) (by omega)))
    go_enter Try.func10, Try.ntmps10
    go_wp2
    go_ret
    exact ⟨ret_int S.out.symm, by go_grown⟩
  have HO := Lib.hid (stepOk_in (p := p) (q := q) (by omega) (by omega))
  go_enter Try.func10, Try.ntmps10
  go_wp2
  go_loopw [5, 6] (fun v i wr => ∃ k x : Nat, k ≤ m ∧ i = .int .i64 k ∧ v = .int .i64 (stepTo p q k) ∧ InUpTo p (-2000) 2000 k ∧ InUpTo q (-2000) 2000 k ∧ wr = w.drewN x) (fun _ i _ => m - (intOf i).toNat)
  case atStart => exact ⟨0, 0, by omega, rfl, rfl, fun i x hi => absurd hi (by omega), fun i x hi => absurd hi (by omega), rfl⟩
  case round =>
    obtain ⟨k, x, hk, rfl, rfl, hup, huq, rfl⟩ := hrel
    have bt := stepTo_bdU hup huq
    have UP := Lib.hid hup
    have UQ := Lib.hid huq
    clear hup huq
    by_cases hlt : k < m
    · obtain ⟨b, o, a, rfl, hbB, ha, c0⟩ := hp.int hlt
      obtain ⟨b', o', z, rfl, hbB', hz, c1⟩ := hq.int hlt
      have l1 : (k : Int) < (m : Int) := by omega
      have HS := Lib.hid (stepTo_step ha hz)
      generalize stepTo p q k = T at *
      have HA := Lib.hid ha
      have HZ := Lib.hid hz
      clear ha hz
      by_cases hia : a < -2000 ∨ 2000 < a
      · go_wp2_with (go_at_call 39; refine (l01In_f _ _ _ _ hia).mono ?_; rintro e w1 ⟨rfl, rfl⟩)
        go_ret
        exact ⟨ret_int (stepSize_no1 HA.out hia).symm, below_drewN (Below.refl _ _) _⟩
      have ia1 : -2000 ≤ a := by omega
      have ia2 : a ≤ 2000 := by omega
      clear hia
      by_cases hiz : z < -2000 ∨ 2000 < z
      · go_wp2_with (first | (go_at_call 39; refine (l01In_t _ _ _ _ (by omega) (by omega)).mono ?_; rintro e w1 ⟨rfl, rfl⟩) | (go_at_call 39; refine (l01In_f _ _ _ _ (by omega)).mono ?_; rintro e w1 ⟨rfl, rfl⟩))
        go_ret
        exact ⟨ret_int (stepSize_no2 HZ.out hiz).symm, below_drewN (Below.refl _ _) _⟩
      have iz1 : -2000 ≤ z := by omega
      have iz2 : z ≤ 2000 := by omega
      clear hiz
      have wr1 : IntKind.i64.wrap (a - z) = a - z := IntWalk.i64_in _ (by omega)
      have wr2 : IntKind.i64.wrap (z - a) = z - a := IntWalk.i64_in _ (by omega)
      go_wp2_with (go_at_call 39; refine (l01In_t _ _ _ _ (by omega) (by omega)).mono ?_; rintro e w1 ⟨rfl, rfl⟩)
      go_quiet (fail)
      go_wp2
      all_goals
        go_roundw
        case rel => exact ⟨k + 1, _, by omega, by go_num, by rw [HS.out]; exact congrArg (Value.int .i64) (by omega), UP.out.next HA.out ia1 ia2, UQ.out.next HZ.out iz1 iz2, rfl⟩
        case measure => simp [intOf]; omega
    · obtain rfl : k = m := by omega
      go_wp2
      go_ret
      have S : stepOk p q = true := by rw [HO.out, UP.out.all (by omega), UQ.out.all (by omega)]; rfl
      exact ⟨ret_int (by rw [stepSize_yes S, hlp]), below_drewN (Below.refl _ _) _⟩
end Go.Proofs.Ytcdachkaalkjlaa
