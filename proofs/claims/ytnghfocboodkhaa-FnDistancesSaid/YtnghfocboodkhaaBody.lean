/- Contracts of BodyOk of the program and of the reference: both return the plain truth bodyOk; no condition beyond the slice's length. -/
import Derived.Test.YtnghfocboodkhaaDist
namespace Go.Proofs.Ytnghfocboodkhaa
open Go.ChangeShapes Go.WideShapes Go.ChangeAt Go.RowKit Go.Deep Go.Joins
set_option maxRecDepth 100000

def firstAt (v : Int) : List Int → Nat → Int
  | [], _ => -1
  | x :: xs, k => if x = v then (k : Int) else firstAt v xs (k + 1)
theorem firstAt_nonneg (v : Int) : ∀ (xs : List Int) (k : Nat), 0 ≤ firstAt v xs k ↔ v ∈ xs := by
  intro xs
  induction xs with
  | nil => intro k; simp [firstAt]
  | cons x xs ih =>
    intro k
    unfold firstAt
    split
    · rename_i e; subst e; simp
    · rename_i e; rw [ih]; simp [Ne.symm e]

theorem impl_indexOf {A : Option Addr} {n c : Nat} {xs : List Int} {v : Int} {w : World} (hr : Reads w 1 A n (ints xs)) (hn : n ≤ 1048576) :
    Calls Try.prog 68 #[.slice A n c, .int .i64 v] w fun e w' => e = .returned (.int .i64 (firstAt v xs 0)) ∧ w = w' := by
  have hlen := hr.len
  go_enter Try.func68, Try.ntmps68
  go_wp2
  go_loop [9] (fun i => ∃ k : Nat, k ≤ n ∧ i = .int .i64 k ∧ firstAt v xs 0 = firstAt v (xs.drop k) k) (fun i => n - (intOf i).toNat)
  case atStart => exact ⟨0, by omega, rfl, rfl⟩
  case round =>
    obtain ⟨k, hk, rfl, hf⟩ := hrel
    have HF := Lib.hid hf; clear hf
    by_cases hlt : k < n
    · obtain ⟨b, o, x, rfl, hbB, hx, c0⟩ := hr.int hlt
      have HX := Lib.hid (drop_cons hx); clear hx
      have e1 : firstAt v (x :: xs.drop (k + 1)) k = if x = v then (k : Int) else firstAt v (xs.drop (k + 1)) (k + 1) := rfl
      have E1 := Lib.hid e1; clear e1
      by_cases hv : x = v
      · go_wp2
        go_ret
        exact ⟨ret_int (by rw [HF.out, HX.out, E1.out, if_pos hv]), rfl⟩
      · go_wp2
        go_round
        case rel => exact ⟨k + 1, by omega, by go_num, by rw [HF.out, HX.out, E1.out, if_neg hv]⟩
        case measure => simp [intOf]; omega
    · go_wp2
      go_ret
      exact ⟨ret_int (by rw [HF.out, List.drop_eq_nil_of_le (by omega)]; rfl), rfl⟩

theorem impl_hasUnknown {A : Option Addr} {n c : Nat} {xs : List Int} {w : World} (hr : Reads w 1 A n (ints xs)) (hn : n ≤ 1048576) :
    Calls Try.prog 55 #[.slice A n c] w fun e w' => e = .returned (.bool (decide ((-1 : Int) ∈ xs))) ∧ w = w' := by
  have h0 := firstAt_nonneg (-1) xs 0
  have H0 := Lib.hid h0; clear h0
  generalize hq : firstAt (-1) xs 0 = q at *
  go_enter Try.func55, Try.ntmps55
  go_wp2_with (go_at_call 68; refine (impl_indexOf hr hn).mono ?_; rintro e w' ⟨rfl, rfl⟩)
  go_ret
  exact ⟨ret_bool (by rw [Bool.eq_iff_iff]; simpa using H0.out), rfl⟩

theorem unknown_eq {N : Nat} {ls : List Lb} (hN : 0 < N) (ok : ∀ x ∈ ls, okLb N x) : (!decide ((-1 : Int) ∈ tab (dist N ls 0) N)) = known N ls := by
  have hi := inv_dist hN ok
  rw [Bool.eq_iff_iff, known_iff]
  simp only [Bool.not_eq_true', decide_eq_false_iff_not, tab, List.mem_map, List.mem_range, not_exists, not_and]
  constructor
  · intro h v hv
    have := h v hv
    have := hi.low v
    omega
  · intro h v hv e
    have := h v hv
    omega

theorem bodyOk_no1 {n : Int} {ls : List Lb} (h : ¬(1 ≤ n ∧ n ≤ 12 ∧ (ls.length : Int) = n - 1)) : bodyOk n ls = false := by simp [bodyOk, h]
theorem bodyOk_no2 {n : Int} {ls : List Lb} {x : Lb} (hx : x ∈ ls) (h : validLb n x = false) : bodyOk n ls = false := by
  have : ls.all (validLb n) = false := by
    rw [List.all_eq_false]
    exact ⟨x, hx, by simp [h]⟩
  simp [bodyOk, this]
theorem bodyOk_yes {n : Int} {ls : List Lb} (h : 1 ≤ n ∧ n ≤ 12 ∧ (ls.length : Int) = n - 1) (hv : ∀ x ∈ ls, validLb n x = true) : bodyOk n ls = known n.toNat ls := by
  have : ls.all (validLb n) = true := List.all_eq_true.2 hv
  simp [bodyOk, this, h]

set_option maxRecDepth 100000 in
set_option maxHeartbeats 4000000 in
theorem impl_BodyOk {n : Int} {A : Option Addr} {m c : Nat} {ls : List Lb} {w : World} (hr : Reads w 3 A m (lbs ls)) (hm : m ≤ 1048576) :
    Calls Try.prog 23 #[.agg #[.int .i64 n, .slice A m c]] w fun e w' => e = .returned (.bool (bodyOk n ls)) ∧ Below w.heap.size w w' := by
  have hlen : ls.length = m := by have := hr.1; rw [lbs_length] at this; omega
  by_cases h1 : 1 ≤ n ∧ n ≤ 12
  rotate_left
  · have hno : bodyOk n ls = false := bodyOk_no1 (by omega)
    rw [hno]
    clear hno
    have h1' : n < 1 ∨ 12 < n := by omega
    go_enter Try.func23, Try.ntmps23
    go_wp2_with (go_at_call 54; refine (within_f _ _ _ _ h1').mono ?_; rintro e w' ⟨rfl, rfl⟩)
    go_ret
    exact ⟨rfl, by go_grown⟩
  obtain ⟨h1a, h1b⟩ := h1
  by_cases h2 : (m : Int) = n - 1
  rotate_left
  · have hno : bodyOk n ls = false := bodyOk_no1 (by omega)
    rw [hno]
    clear hno
    go_enter Try.func23, Try.ntmps23
    go_wp2_with (go_at_call 54; refine (within_t _ _ _ _ h1a h1b).mono ?_; rintro e w' ⟨rfl, rfl⟩)
    go_ret
    exact ⟨rfl, by go_grown⟩
  obtain ⟨N, rfl⟩ := Int.eq_ofNat_of_zero_le (show 0 ≤ n by omega)
  have h2a : (m : Int) ≤ (N : Int) - 1 := by omega
  have h2b : (N : Int) - 1 ≤ (m : Int) := by omega
  have H3 := Lib.hid (show 1 ≤ (N : Int) ∧ (N : Int) ≤ 12 ∧ (ls.length : Int) = N - 1 by omega)
  have hd : ((m : Int) != (N : Int) - 1) = false := by simp; omega
  clear h2
  go_enter Try.func23, Try.ntmps23
  go_wp2_with (go_at_call 54; refine (within_t _ _ _ _ h1a h1b).mono ?_; rintro e w' ⟨rfl, rfl⟩)
  clear hd
  go_loopw [21] (fun i wr => ∃ k : Nat, k ≤ m ∧ i = .int .i64 k ∧ (∀ x ∈ ls.take k, validLb N x = true) ∧ Row wr w.heap.size 24 [.int .i64 N, .slice A m c] ∧ Below w.heap.size w wr) (fun i _ => m - (intOf i).toNat)
  case atStart => exact ⟨0, by omega, rfl, by simp, Row.new w _ [.int .i64 (N : Int), .slice A m c], by go_grown⟩
  case round =>
    obtain ⟨k, hk, rfl, hval, hbx, hbel⟩ := hrel
    have HV := Lib.hid hval
    have b0 := hbx.cell_ (i := 0) rfl
    have b1 := hbx.cell_ (i := 1) rfl
    have zb := hbx.lt
    have HB := Lib.hid hbx
    clear hval hbx
    by_cases hlt : k < m
    · obtain ⟨b, o, x, rfl, hbB, hx, c0, c1, c2⟩ := (hr.below hbel).lb hlt
      have hno : validLb N x = false → bodyOk N ls = false := bodyOk_no2 (List.mem_of_getElem? hx)
      have hgo : validLb N x = true → ∀ y ∈ ls.take (k + 1), validLb N y = true := fun h y hy => by
        rw [take_snoc hx] at hy
        rcases List.mem_append.1 hy with hy | hy
        · exact HV.out y hy
        · simp at hy; subst hy; exact h
      have HX := Lib.hid hno
      have HG := Lib.hid hgo
      clear hx hno hgo
      by_cases v1 : 0 ≤ x.a ∧ x.a ≤ (N : Int) - 1
      rotate_left
      · have E := Lib.hid (HX.out (by simp [validLb]; omega))
        go_wp2_with (go_at_call 54; refine (within_f _ _ _ _ (by omega)).mono ?_; rintro e w' ⟨rfl, rfl⟩)
        go_ret
        exact ⟨ret_bool E.out.symm, hbel.alloc (by omega) _⟩
      by_cases v2 : 0 ≤ x.b ∧ x.b ≤ (N : Int) - 1
      rotate_left
      · have E := Lib.hid (HX.out (by simp [validLb]; omega))
        go_wp2_with (first | (go_at_call 54; refine (within_t _ _ _ _ ?_ ?_).mono ?_; omega; omega; rintro e w' ⟨rfl, rfl⟩) | (go_at_call 54; refine (within_f _ _ _ _ ?_).mono ?_; omega; rintro e w' ⟨rfl, rfl⟩))
        go_ret
        exact ⟨ret_bool E.out.symm, hbel.alloc (by omega) _⟩
      by_cases v3 : x.a = x.b
      · have e3 : (x.a == x.b) = true := by simp [v3]
        have E := Lib.hid (HX.out (by simp [validLb]; omega))
        clear v3
        go_wp2_with (first | (go_at_call 54; refine (within_t _ _ _ _ ?_ ?_).mono ?_; omega; omega; rintro e w' ⟨rfl, rfl⟩) | (go_at_call 54; refine (within_f _ _ _ _ ?_).mono ?_; omega; rintro e w' ⟨rfl, rfl⟩))
        go_ret
        exact ⟨ret_bool E.out.symm, hbel.alloc (by omega) _⟩
      have e3 : (x.a == x.b) = false := by simp [v3]
      by_cases v4 : 1 ≤ x.l ∧ x.l ≤ 100
      rotate_left
      · have E := Lib.hid (HX.out (by simp [validLb]; omega))
        go_wp2_with (first | (go_at_call 54; refine (within_t _ _ _ _ ?_ ?_).mono ?_; omega; omega; rintro e w' ⟨rfl, rfl⟩) | (go_at_call 54; refine (within_f _ _ _ _ ?_).mono ?_; omega; rintro e w' ⟨rfl, rfl⟩))
        go_ret
        exact ⟨ret_bool E.out.symm, hbel.alloc (by omega) _⟩
      go_wp2_with (go_at_call 54; refine (within_t _ _ _ _ (by omega) (by omega)).mono ?_; rintro e w' ⟨rfl, rfl⟩)
      go_roundw
      case rel => exact ⟨k + 1, by omega, by go_num, HG.out (by simp [validLb]; omega), HB.out.alloc _, hbel.alloc (by omega) _⟩
      case measure => simp [intOf]; omega
    · obtain rfl : k = m := by omega
      have hall : ∀ x ∈ ls, validLb N x = true := by have := HV.out; rwa [List.take_of_length_le (by omega)] at this
      have E := Lib.hid (bodyOk_yes H3.out hall)
      have ok : ∀ x ∈ ls, okLb N x := fun x hx => by have := valid_ok (by omega) (hall x hx); simpa using this
      have OK := Lib.hid ok
      have hu := unknown_eq (N := N) (by omega) ok
      have HU := Lib.hid hu
      clear hall ok hu
      go_wp2_with (first | (go_at_call 56; refine (impl_distances (S := 0) (hr.below hbel) OK.out (by omega) hm rfl (by omega)).mono ?_; rintro e w1 ⟨g, rfl, ho, hb⟩) | (go_at_call 55; refine (impl_hasUnknown (Reads.of_own ho) (by omega)).mono ?_; rintro e w2 ⟨rfl, rfl⟩))
      go_ret
      exact ⟨ret_bool (by rw [E.out, Int.toNat_natCast, ← HU.out]), hbel.trans (hb.mono (by omega))⟩
end Go.Proofs.Ytnghfocboodkhaa
