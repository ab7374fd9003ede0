/- The contract of the reference's BodyOk: it returns the plain truth bodyOk; no condition beyond the slice's length. -/
import Derived.Test.YtnghfocboodkhaaBody
namespace Go.Proofs.Ytnghfocboodkhaa
open Go.ChangeShapes Go.WideShapes Go.ChangeAt Go.RowKit Go.Deep Go.Joins
set_option maxRecDepth 100000

def itab (f : Nat → Nat) (n : Nat) : List Int := tab (fun i => (f i : Int)) n
theorem joinsS_cons (n : Int) (f : Nat → Nat) (x : Lb) (xs : List Lb) : joinsS n f (x :: xs) = (validS n x && decide (f x.p ≠ f x.q) && joinsS n (mrg f x) xs) := rfl
theorem bodyOkS_yes {n : Int} {ls : List Lb} (h : 1 ≤ n ∧ n ≤ 12 ∧ (ls.length : Int) = n - 1) : bodyOkS n ls = joinsS n (fun i => i) ls := by simp [bodyOkS, h]

theorem fill_hit (f g : Nat → Nat) (t v : Nat) (h : g t = v) (j : Nat) : ((if j < t + 1 then g j else f j : Nat) : Int) = upd (fun j => ((if j < t then g j else f j : Nat) : Int)) t (v : Int) j := by
  unfold upd
  by_cases e : j = t
  · subst e; simp [h]
  · rw [if_neg e]
    show ((if j < t + 1 then g j else f j : Nat) : Int) = ((if j < t then g j else f j : Nat) : Int)
    by_cases e2 : j < t
    · rw [if_pos e2, if_pos (by omega)]
    · rw [if_neg e2, if_neg (by omega)]
theorem fill_miss (f g : Nat → Nat) (t : Nat) (h : g t = f t) (j : Nat) : ((if j < t then g j else f j : Nat) : Int) = ((if j < t + 1 then g j else f j : Nat) : Int) := by
  by_cases e : j = t
  · subst e; simp [h]
  · by_cases e2 : j < t
    · rw [if_pos e2, if_pos (by omega)]
    · rw [if_neg e2, if_neg (by omega)]

set_option maxRecDepth 100000 in
set_option maxHeartbeats 4000000 in
theorem spec_BodyOk {n : Int} {A : Option Addr} {m c : Nat} {ls : List Lb} {w : World} (hr : Reads w 3 A m (lbs ls)) (hm : m ≤ 1048576) :
    Calls Try.prog 21 #[.agg #[.int .i64 n, .slice A m c]] w fun e w' => e = .returned (.bool (bodyOk n ls)) ∧ Below w.heap.size w w' := by
  have hlen : ls.length = m := by have := hr.1; rw [lbs_length] at this; omega
  by_cases h1 : 1 ≤ n ∧ n ≤ 12
  rotate_left
  · have hno : bodyOk n ls = false := bodyOk_no1 (by omega)
    rw [hno]
    clear hno
    have h1' : n < 1 ∨ 12 < n := by omega
    go_enter Try.func21, Try.ntmps21
    go_wp2_with (go_at_call 52; refine (l01In_f _ _ _ _ h1').mono ?_; rintro e w' ⟨rfl, rfl⟩)
    go_ret
    exact ⟨rfl, by go_grown⟩
  obtain ⟨h1a, h1b⟩ := h1
  by_cases h2 : (m : Int) = n - 1
  rotate_left
  · have hno : bodyOk n ls = false := bodyOk_no1 (by omega)
    rw [hno]
    clear hno
    go_enter Try.func21, Try.ntmps21
    go_wp2_with (go_at_call 52; refine (l01In_t _ _ _ _ h1a h1b).mono ?_; rintro e w' ⟨rfl, rfl⟩)
    go_ret
    exact ⟨rfl, by go_grown⟩
  obtain ⟨N, rfl⟩ := Int.eq_ofNat_of_zero_le (show 0 ≤ n by omega)
  have h2a : (m : Int) ≤ (N : Int) - 1 := by omega
  have h2b : (N : Int) - 1 ≤ (m : Int) := by omega
  have H3 := Lib.hid ((bodyOkS_eq (N : Int) ls).symm.trans (bodyOkS_yes (show 1 ≤ (N : Int) ∧ (N : Int) ≤ 12 ∧ (ls.length : Int) = N - 1 by omega)))
  have hd : ((m : Int) != (N : Int) - 1) = false := by simp; omega
  clear h2
  obtain ⟨i0, hi, hz0, hz1, hz2⟩ := info_parts info_int
  have hmk := fun W => run_make_rowN (P := Try.prog) 39 3 i0 _ Try.underlying39 hi hz0 .i64 .i64 N N (Nat.le_refl _) (by rw [hz2]; omega) (by omega) W
  rw [hz1] at hmk
  clear hi hz0 hz1 hz2
  go_enter Try.func21, Try.ntmps21
  go_wp2_with (go_at_call 52; refine (l01In_t _ _ _ _ h1a h1b).mono ?_; rintro e w' ⟨rfl, rfl⟩)
  clear hd hmk
  go_loopw [4] (fun i wr => ∃ k : Nat, k ≤ N ∧ i = .int .i64 k ∧ Row wr w.heap.size 24 [.int .i64 N, .slice A m c] ∧ Row wr (w.heap.size + 1) 3 (ints (tab (fun j => if j < k then (j : Int) else 0) N)) ∧ Below w.heap.size w wr) (fun i _ => N - (intOf i).toNat)
  case atStart => exact ⟨0, by omega, rfl, (Row.new w _ [.int .i64 N, .slice A m c]).alloc _, by have h := Row.made (w.alloc (.cells #[.int .i64 N, .slice A m c] 24)) #[.int .i64 0] (N * 1) 3; rw [made_tab, World.size_alloc] at h; simpa using h, by go_grown⟩
  case round =>
    obtain ⟨k, hk, rfl, hbx, hrow, hbel⟩ := hrel
    have b0 := hbx.cell_ (i := 0) rfl
    by_cases hlt : k < N
    · have c0 := hrow.tab_at hlt
      have f0 := hrow.frozen k
      have HR := Lib.hid (hrow.tab_put (i := k) (k : Int) (f' := fun j => if j < k + 1 then (j : Int) else 0) (fun j hj => by unfold upd; by_cases e : j = k <;> simp [e] <;> (try omega) <;> (congr 1; simp; omega)))
      have HB := Lib.hid (hbx.far (p := ⟨w.heap.size + 1, k, none⟩) (by simp) (.int .i64 (k : Int)))
      clear hrow hbx
      go_wp2
      go_roundw
      case rel => exact ⟨k + 1, by omega, by go_num, HB.out, HR.out, hbel.setCell (by simp) _⟩
      case measure => simp [intOf]; omega
    · obtain rfl : k = N := by omega
      rw [tab_congr (g := fun j => (j : Int)) (fun j hj => by simp [hj])] at hrow
      have HB := Lib.hid hbx
      have HR := Lib.hid hrow
      have hbel2 := hbel
      clear hrow hbx hbel
      go_wp2
      clear b0
      go_loopw [5] (fun i w2 => ∃ (q : Nat) (f : Nat → Nat), q ≤ m ∧ i = .int .i64 q ∧ joinsS (k : Int) (fun i => i) ls = joinsS (k : Int) f (ls.drop q) ∧ Row w2 w.heap.size 24 [.int .i64 k, .slice A m c] ∧ Row w2 (w.heap.size + 1) 3 (ints (itab f k)) ∧ Below w.heap.size w w2) (fun i _ => m - (intOf i).toNat)
      case atStart => exact ⟨0, fun i => i, by omega, rfl, rfl, HB.out, HR.out, hbel2⟩
      case round =>
        obtain ⟨q, f, hqm, rfl, hj, hbx, hrow, hbel⟩ := hrel
        clear HB HR hbel2
        have HJ := Lib.hid hj
        have b0 := hbx.cell_ (i := 0) rfl
        have b1 := hbx.cell_ (i := 1) rfl
        have zb := hbx.lt
        have zr := hrow.lt
        have HB := Lib.hid hbx
        have HR := Lib.hid hrow
        clear hj hbx hrow
        by_cases hql : q < m
        · obtain ⟨b, o, x, rfl, hbB, hx, c0, c1, c2⟩ := (hr.below hbel).lb hql
          have HX := Lib.hid (drop_cons hx)
          have HC := Lib.hid (joinsS_cons (k : Int) f x (ls.drop (q + 1)))
          clear hx
          by_cases v1 : 0 ≤ x.a ∧ x.a ≤ (k : Int) - 1
          rotate_left
          · go_wp2_with (go_at_call 52; refine (l01In_f _ _ _ _ (by omega)).mono ?_; rintro e w' ⟨rfl, rfl⟩)
            go_ret
            exact ⟨ret_bool (by rw [H3.out, HJ.out, HX.out, HC.out]; simp [validS]; omega), hbel.alloc (by omega) _⟩
          by_cases v2 : 0 ≤ x.b ∧ x.b ≤ (k : Int) - 1
          rotate_left
          · go_wp2_with (first | (go_at_call 52; refine (l01In_t _ _ _ _ ?_ ?_).mono ?_; omega; omega; rintro e w' ⟨rfl, rfl⟩) | (go_at_call 52; refine (l01In_f _ _ _ _ ?_).mono ?_; omega; rintro e w' ⟨rfl, rfl⟩))
            go_ret
            exact ⟨ret_bool (by rw [H3.out, HJ.out, HX.out, HC.out]; simp [validS]; omega), hbel.alloc (by omega) _⟩
          by_cases v4 : 1 ≤ x.l ∧ x.l ≤ 100
          rotate_left
          · go_wp2_with (first | (go_at_call 52; refine (l01In_t _ _ _ _ ?_ ?_).mono ?_; omega; omega; rintro e w' ⟨rfl, rfl⟩) | (go_at_call 52; refine (l01In_f _ _ _ _ ?_).mono ?_; omega; rintro e w' ⟨rfl, rfl⟩))
            go_ret
            exact ⟨ret_bool (by rw [H3.out, HJ.out, HX.out, HC.out]; simp [validS]; omega), hbel.alloc (by omega) _⟩
          have hval : validS (k : Int) x = true := by simp [validS]; omega
          have HV := Lib.hid hval
          clear hval
          obtain ⟨p, ep⟩ := Int.eq_ofNat_of_zero_le v1.1
          obtain ⟨r, er⟩ := Int.eq_ofNat_of_zero_le v2.1
          have EP := Lib.hid (show x.p = p by unfold Lb.p; omega)
          have ER := Lib.hid (show x.q = r by unfold Lb.q; omega)
          have hpk : (p : Int) < (k : Int) := by omega
          have hrk : (r : Int) < (k : Int) := by omega
          rw [ep] at c0 v1
          rw [er] at c1 v2
          have cp := (HR.out).tab_at (i := p) (by omega)
          have cr := (HR.out).tab_at (i := r) (by omega)
          clear ep er
          by_cases e : f p = f r
          · have e' : (((f p : Nat) : Int) == ((f r : Nat) : Int)) = true := by simp [e]
            have E := Lib.hid e
            clear e
            go_wp2_with (go_at_call 52; refine (l01In_t _ _ _ _ (by omega) (by omega)).mono ?_; rintro e w' ⟨rfl, rfl⟩)
            go_ret
            exact ⟨ret_bool (by rw [H3.out, HJ.out, HX.out, HC.out, EP.out, ER.out, E.out]; simp), hbel.alloc (by omega) _⟩
          · have e' : (((f p : Nat) : Int) == ((f r : Nat) : Int)) = false := by simp; omega
            have E := Lib.hid e
            clear e
            go_wp2_with (go_at_call 52; refine (l01In_t _ _ _ _ (by omega) (by omega)).mono ?_; rintro e w' ⟨rfl, rfl⟩)
            have RB := Lib.hid ((HB.out).alloc (.cells #[.int .i64 (p : Int), .int .i64 (r : Int), .int .i64 x.l] 52))
            have RR := Lib.hid ((HR.out).alloc (.cells #[.int .i64 (p : Int), .int .i64 (r : Int), .int .i64 x.l] 52))
            have be := hbel.alloc (by omega) (.cells #[.int .i64 (p : Int), .int .i64 (r : Int), .int .i64 x.l] 52)
            have HM := Lib.hid (show mrg f x = fun j => if f j = f r then f p else f j from by unfold mrg; rw [EP.out, ER.out])
            clear c0 c1 c2 cp cr b0 b1 zb zr e' hbel
            go_loopw [9] (fun i w3 => ∃ t : Nat, t ≤ k ∧ i = .int .i64 t ∧ Row w3 w.heap.size 24 [.int .i64 k, .slice (some ⟨b, o, none⟩) m c] ∧ Row w3 (w.heap.size + 1) 3 (ints (itab (fun j => if j < t then (if f j = f r then f p else f j) else f j) k)) ∧ Below w.heap.size w w3) (fun i _ => k - (intOf i).toNat)
            case atStart => exact ⟨0, by omega, rfl, RB.out, by simpa using RR.out, be⟩
            case round =>
              obtain ⟨t, htk, rfl, hbx, hrow, hbel⟩ := hrel
              clear RB RR be HB HR
              have b0 := hbx.cell_ (i := 0) rfl
              have HB := Lib.hid hbx
              by_cases htl : t < k
              · have ct := hrow.tab_at htl
                have ft := hrow.frozen t
                simp only [Nat.lt_irrefl, if_false] at ct
                have HR := Lib.hid hrow
                clear hbx hrow
                by_cases e2 : f t = f r
                · have e3 : (((f t : Nat) : Int) == ((f r : Nat) : Int)) = true := by simp [e2]
                  have E2 := Lib.hid e2
                  clear e2
                  go_wp2
                  go_roundw
                  case rel => exact ⟨t + 1, by omega, by go_num, (HB.out).far (p := ⟨w.heap.size + 1, t, none⟩) (by simp) _, (HR.out).tab_put _ (fun j _ => fill_hit f (fun j => if f j = f r then f p else f j) t (f p) (if_pos E2.out) j), hbel.setCell (by simp) _⟩
                  case measure => simp [intOf]; omega
                · have e3 : (((f t : Nat) : Int) == ((f r : Nat) : Int)) = false := by simp; omega
                  have E2 := Lib.hid e2
                  clear e2
                  go_wp2
                  go_roundw
                  case rel => exact ⟨t + 1, by omega, by go_num, HB.out, by have h := HR.out; unfold itab at h ⊢; rwa [tab_congr (fun j _ => fill_miss f (fun j => if f j = f r then f p else f j) t (if_neg E2.out) j)] at h, hbel⟩
                  case measure => simp [intOf]; omega
              · obtain rfl : t = k := by omega
                have HR := Lib.hid hrow
                clear hbx hrow
                go_wp2
                go_roundw
                case rel => exact ⟨q + 1, mrg f x, by omega, by go_num, by rw [HJ.out, HX.out, HC.out, HV.out, EP.out, ER.out]; simp [E.out], HB.out, by have h := HR.out; rw [HM.out]; unfold itab at h ⊢; rwa [tab_congr (g := fun j => ((if f j = f r then f p else f j : Nat) : Int)) (fun j hj => by simp only [hj, if_true])] at h, hbel⟩
                case measure => simp [intOf]; omega
        · obtain rfl : q = m := by omega
          go_wp2
          go_ret
          exact ⟨ret_bool (by rw [H3.out, HJ.out, List.drop_eq_nil_of_le (by omega)]; rfl), hbel⟩
end Go.Proofs.Ytnghfocboodkhaa
