/- Contracts of ControlOk and PullsOf of both sides; no condition beyond the slices' lengths. -/
import Derived.Test.YtbgdnlcjliaigaaCtl
import Derived.Test.YtbgdnlcjliaigaaOrd
import Derived.Test.YtbgdnlcjliaigaaCord
namespace Go.Proofs.Ytbgdnlcjliaigaa
open Go.ChangeShapes Go.WideShapes Go.ChangeAt Go.RowKit Go.Deep Go.Joins
set_option maxRecDepth 100000

set_option maxHeartbeats 4000000 in
theorem impl_ControlOk {h J : Int} {A B : Option Addr} {n c q : Nat} {ar : List Int} {cs : List Lb} {w : World} (hr : Reads w 1 A n (ints ar)) (hn : n ≤ 1048576) (hs : Reads w 3 B q (lbs cs)) (hq : q ≤ 1048576) :
    Calls Try.prog 39 #[.agg #[.int .i64 h, .slice A n c, .slice B q q], .int .i64 J] w fun e w' => e = .returned (.bool (ctlOk h ar cs J)) ∧ Below w.heap.size w w' := by
  have hla := hr.len
  have hlc : cs.length = q := by have := hs.1; rw [lbs_length] at this; omega
  have hx := Row.new w 54 [.int .i64 h, .slice A n c, .slice B q q]
  have hg0 : Below w.heap.size w (w.alloc (.cells #[.int .i64 h, .slice A n c, .slice B q q] 54)) := by go_grown
  by_cases h1 : 0 ≤ h ∧ h ≤ 500
  rotate_left
  · have S := Lib.hid (ctl_no1 (h := h) (ar := ar) (cs := cs) (J := J) (by omega))
    go_enter Try.func39, Try.ntmps39
    go_wp2_with fail
    refine (within_f _ _ _ _ (by omega)).mono ?_
    rintro e w1 ⟨rfl, rfl⟩
    go_wp2
    go_ret
    exact ⟨ret_bool S.out.symm, by go_grown⟩
  by_cases h2 : 1 ≤ n ∧ n ≤ 8
  rotate_left
  · have S := Lib.hid (ctl_no1 (h := h) (ar := ar) (cs := cs) (J := J) (by omega))
    go_enter Try.func39, Try.ntmps39
    go_wp2_with fail
    refine (within_t _ _ _ _ (by omega) (by omega)).mono ?_
    rintro e w1 ⟨rfl, rfl⟩
    go_wp2_with fail
    refine (within_f _ _ _ _ (by omega)).mono ?_
    rintro e w1 ⟨rfl, rfl⟩
    go_wp2
    go_ret
    exact ⟨ret_bool S.out.symm, by go_grown⟩
  cases hin : inAll ar (-50) 50 with
  | false =>
    have S := Lib.hid (ctl_no2 (h := h) (cs := cs) (J := J) hin)
    have I := Lib.hid hin
    clear hin
    go_enter Try.func39, Try.ntmps39
    go_wp2_with fail
    refine (within_t _ _ _ _ (by omega) (by omega)).mono ?_
    rintro e w1 ⟨rfl, rfl⟩
    go_wp2_with fail
    refine (within_t _ _ _ _ (by omega) (by omega)).mono ?_
    rintro e w1 ⟨rfl, rfl⟩
    go_wp2_with fail
    refine (impl_allWithin (hr.below hg0) hn).mono ?_
    rintro e w1 ⟨rfl, rfl⟩
    rw [I.out]
    go_wp2
    go_ret
    exact ⟨ret_bool S.out.symm, by go_grown⟩
  | true =>
    have I := Lib.hid hin
    clear hin
    by_cases h3 : q ≤ 12
    rotate_left
    · have S := Lib.hid (ctl_no1 (h := h) (ar := ar) (cs := cs) (J := J) (by omega))
      go_enter Try.func39, Try.ntmps39
      go_wp2_with fail
      refine (within_t _ _ _ _ (by omega) (by omega)).mono ?_
      rintro e w1 ⟨rfl, rfl⟩
      go_wp2_with fail
      refine (within_t _ _ _ _ (by omega) (by omega)).mono ?_
      rintro e w1 ⟨rfl, rfl⟩
      go_wp2_with fail
      refine (impl_allWithin (hr.below hg0) hn).mono ?_
      rintro e w1 ⟨rfl, rfl⟩
      rw [I.out]
      go_wp2
      go_ret
      exact ⟨ret_bool S.out.symm, by go_grown⟩
    have HC := Lib.hid (fun hc => ctl_yes (h := h) (J := J) (ar := ar) (cs := cs) (by omega) I.out hc)
    have h11 := h1.1
    have h12 := h1.2
    have h21 := h2.1
    have h22 := h2.2
    clear h1 h2
    go_enter Try.func39, Try.ntmps39
    go_wp2_with fail
    refine (within_t _ _ _ _ (by omega) (by omega)).mono ?_
    rintro e w1 ⟨rfl, rfl⟩
    go_wp2_with fail
    refine (within_t _ _ _ _ (by omega) (by omega)).mono ?_
    rintro e w1 ⟨rfl, rfl⟩
    go_wp2_with fail
    refine (impl_allWithin (hr.below hg0) hn).mono ?_
    rintro e w1 ⟨rfl, rfl⟩
    rw [I.out]
    go_wp2
    go_loopw [35] (fun i wr => ∃ k : Nat, k ≤ q ∧ i = .int .i64 k ∧ Cords n J cs k ∧ Row wr w.heap.size 54 [.int .i64 h, .slice A n c, .slice B q q] ∧ Below w.heap.size w wr) (fun i _ => q - (intOf i).toNat)
    case atStart => exact ⟨0, by omega, rfl, Cords.zero _ _ _, hx, hg0⟩
    case round =>
      clear hx hg0
      obtain ⟨k, hk, rfl, hcs, hbx, hbel⟩ := hrel
      have HS := Lib.hid hcs
      clear hcs
      by_cases hlt : k < q
      · obtain ⟨b, o, x, rfl, hbB, hxk, c0, c1, c2⟩ := (hs.below hbel).lb hlt
        have HX := Lib.hid hxk
        clear hxk
        have qa := hbx.cell_ (i := 1) rfl
        have qb := hbx.cell_ (i := 2) rfl
        have zx := hbx.lt
        have HB := Lib.hid (hbx.alloc (.cells #[.int .i64 x.a, .int .i64 x.b, .int .i64 x.l] 80))
        have HW : Hid (Below w.heap.size w (wr.alloc (.cells #[.int .i64 x.a, .int .i64 x.b, .int .i64 x.l] 80))) := Lib.hid (hbel.alloc hbel.size _)
        by_cases ha : 0 ≤ x.a ∧ x.a ≤ (n : Int) - 1
        rotate_left
        · have S := Lib.hid (ctl_no3 (h := h) (ar := ar) (J := J) HX.out (by omega))
          go_wp2_with (go_at_call 65; refine (within_f _ _ _ _ (by omega)).mono ?_; rintro e w' ⟨rfl, rfl⟩)
          go_ret
          exact ⟨ret_bool S.out.symm, HW.out⟩
        obtain ⟨a1, a2⟩ := ha
        by_cases hb0 : x.b < 0
        · have S := Lib.hid (ctl_no3 (h := h) (ar := ar) (J := J) HX.out (by omega))
          go_wp2_with (go_at_call 65; refine (within_t _ _ _ _ a1 a2).mono ?_; rintro e w' ⟨rfl, rfl⟩)
          go_ret
          exact ⟨ret_bool S.out.symm, HW.out⟩
        by_cases hb1 : J ≤ x.b
        · have S := Lib.hid (ctl_no3 (h := h) (ar := ar) (J := J) HX.out (by omega))
          go_wp2_with (go_at_call 65; refine (within_t _ _ _ _ a1 a2).mono ?_; rintro e w' ⟨rfl, rfl⟩)
          go_ret
          exact ⟨ret_bool S.out.symm, HW.out⟩
        by_cases hl : 0 ≤ x.l ∧ x.l ≤ 500
        rotate_left
        · have S := Lib.hid (ctl_no3 (h := h) (ar := ar) (J := J) HX.out (by omega))
          have hl' : x.l < 0 ∨ 500 < x.l := by omega
          clear hl
          go_wp2_with (first | (go_at_call 65; with_reducible refine (within_t _ _ _ _ a1 a2).mono ?_; rintro e w' ⟨rfl, rfl⟩) | (go_at_call 65; with_reducible refine (within_f _ _ _ _ hl').mono ?_; rintro e w' ⟨rfl, rfl⟩))
          go_ret
          exact ⟨ret_bool S.out.symm, HW.out⟩
        obtain ⟨l1, l2⟩ := hl
        have HN := Lib.hid (fun hap => HS.out.next HX.out (by omega) hap)
        go_wp2_with (first | (go_at_call 65; with_reducible refine (within_t _ _ _ _ a1 a2).mono ?_; rintro e w' ⟨rfl, rfl⟩) | (go_at_call 65; with_reducible refine (within_t _ _ _ _ l1 l2).mono ?_; rintro e w' ⟨rfl, rfl⟩))
        clear c0 c1 c2 qa qb
        have HO := Lib.hid (Row.new wr 80 [.int .i64 x.a, .int .i64 x.b, .int .i64 x.l])
        generalize wr.heap.size = G at *
        go_loopw [70] (fun i w2 => ∃ t : Nat, t ≤ k ∧ i = .int .i64 t ∧ Apart cs x.b t ∧ Row w2 w.heap.size 54 [.int .i64 h, .slice A n c, .slice (some ⟨b, o, none⟩) q q] ∧ Row w2 G 80 [.int .i64 x.a, .int .i64 x.b, .int .i64 x.l] ∧ Below w.heap.size w w2) (fun i _ => k - (intOf i).toNat)
        case atStart => exact ⟨0, by omega, rfl, Apart.zero _ _, HB.out, HO.out, HW.out⟩
        case round =>
          clear hbx hbel hbB
          obtain ⟨t, ht, rfl, hap, hbx2, hox, hbel2⟩ := hrel
          have HAP := Lib.hid hap
          clear hap
          by_cases htk : t < k
          · obtain ⟨b', o', y, e', hbB', hyt, c0, c1, c2⟩ := (hs.below hbel2).lb (show t < q by omega)
            injection e' with e'
            injection e' with e1 e2
            subst e1 e2
            have HY := Lib.hid hyt
            clear hyt
            have qo := hox.cell_ (i := 1) rfl
            have zo := hox.lt
            have HB2 := Lib.hid (hbx2.alloc (.cells #[.int .i64 y.a, .int .i64 y.b, .int .i64 y.l] 80))
            have HO2 := Lib.hid (hox.alloc (.cells #[.int .i64 y.a, .int .i64 y.b, .int .i64 y.l] 80))
            have HW2 : Hid (Below w.heap.size w (wr.alloc (.cells #[.int .i64 y.a, .int .i64 y.b, .int .i64 y.l] 80))) := Lib.hid (hbel2.alloc hbel2.size _)
            have ltk : (t : Int) < (k : Int) := by omega
            by_cases heq : x.b = y.b
            · have S := Lib.hid (ctl_no4 (h := h) (ar := ar) (J := J) HX.out htk HY.out heq.symm)
              have e1 : (x.b == y.b) = true := by simp [heq]
              clear heq hbx2 hox
              go_wp2
              go_ret
              exact ⟨ret_bool S.out.symm, HW2.out⟩
            · have HA2 := Lib.hid (HAP.out.next HY.out (fun e => heq e.symm))
              have e1 : (x.b == y.b) = false := by simp [heq]
              clear heq hbx2 hox
              go_wp2
              go_roundw
              case rel => exact ⟨t + 1, by omega, by go_num, HA2.out, HB2.out, HO2.out, HW2.out⟩
              case measure => simp [intOf]; omega
          · obtain rfl : t = k := by omega
            have HN2 := Lib.hid (HN.out HAP.out)
            go_wp2
            go_roundw
            case rel => exact ⟨t + 1, by omega, by go_num, HN2.out, hbx2, hbel2⟩
            case measure => simp [intOf]; omega
      · obtain rfl : k = q := by omega
        have S := Lib.hid (HC.out (by rw [hla, hlc]; exact HS.out))
        go_wp2
        go_ret
        exact ⟨ret_bool S.out.symm, hbel⟩

set_option maxHeartbeats 4000000 in
theorem spec_ControlOk {h J : Int} {A B : Option Addr} {n c q : Nat} {ar : List Int} {cs : List Lb} {w : World} (hJ : -9223372036854775808 ≤ J ∧ J ≤ 9223372036854775807) (hr : Reads w 1 A n (ints ar)) (hn : n ≤ 1048576) (hs : Reads w 3 B q (lbs cs)) (hq : q ≤ 1048576) :
    Calls Try.prog 37 #[.agg #[.int .i64 h, .slice A n c, .slice B q q], .int .i64 J] w fun e w' => e = .returned (.bool (ctlOk h ar cs J)) ∧ Below w.heap.size w w' := by
  have hla := hr.len
  have hlc : cs.length = q := by have := hs.1; rw [lbs_length] at this; omega
  have hx := Row.new w 54 [.int .i64 h, .slice A n c, .slice B q q]
  have hg0 : Below w.heap.size w (w.alloc (.cells #[.int .i64 h, .slice A n c, .slice B q q] 54)) := by go_grown
  by_cases h1 : 0 ≤ h ∧ h ≤ 500
  rotate_left
  · have S := Lib.hid (ctl_no1 (h := h) (ar := ar) (cs := cs) (J := J) (by omega))
    go_enter Try.func37, Try.ntmps37
    go_wp2_with fail
    refine (l01In_f _ _ _ _ (by omega)).mono ?_
    rintro e w1 ⟨rfl, rfl⟩
    go_wp2
    go_ret
    exact ⟨ret_bool S.out.symm, by go_grown⟩
  by_cases h2 : 1 ≤ n ∧ n ≤ 8
  rotate_left
  · have S := Lib.hid (ctl_no1 (h := h) (ar := ar) (cs := cs) (J := J) (by omega))
    go_enter Try.func37, Try.ntmps37
    go_wp2_with fail
    refine (l01In_t _ _ _ _ (by omega) (by omega)).mono ?_
    rintro e w1 ⟨rfl, rfl⟩
    go_wp2_with fail
    refine (l01In_f _ _ _ _ (by omega)).mono ?_
    rintro e w1 ⟨rfl, rfl⟩
    go_wp2
    go_ret
    exact ⟨ret_bool S.out.symm, by go_grown⟩
  by_cases h3 : q ≤ 12
  rotate_left
  · have S := Lib.hid (ctl_no1 (h := h) (ar := ar) (cs := cs) (J := J) (by omega))
    go_enter Try.func37, Try.ntmps37
    go_wp2_with fail
    refine (l01In_t _ _ _ _ (by omega) (by omega)).mono ?_
    rintro e w1 ⟨rfl, rfl⟩
    go_wp2_with fail
    refine (l01In_t _ _ _ _ (by omega) (by omega)).mono ?_
    rintro e w1 ⟨rfl, rfl⟩
    go_wp2
    go_ret
    exact ⟨ret_bool S.out.symm, by go_grown⟩
  have HC := Lib.hid (fun hin hc => ctl_yes (h := h) (J := J) (ar := ar) (cs := cs) (by omega) hin hc)
  have h11 := h1.1
  have h12 := h1.2
  have h21 := h2.1
  have h22 := h2.2
  clear h1 h2
  go_enter Try.func37, Try.ntmps37
  go_wp2_with fail
  refine (l01In_t _ _ _ _ (by omega) (by omega)).mono ?_
  rintro e w1 ⟨rfl, rfl⟩
  go_wp2_with fail
  refine (l01In_t _ _ _ _ (by omega) (by omega)).mono ?_
  rintro e w1 ⟨rfl, rfl⟩
  go_wp2
  generalize (w.alloc (.cells #[.int .i64 h, .slice A n c, .slice B q q] 54)) = w0 at *
  go_loop [5] (fun i => ∃ k : Nat, k ≤ n ∧ i = .int .i64 k ∧ InUpTo ar (-50) 50 k) (fun i => n - (intOf i).toNat)
  case atStart => exact ⟨0, by omega, rfl, fun i x hi => absurd hi (by omega)⟩
  case round =>
    obtain ⟨k, hk, rfl, hu⟩ := hrel
    have HU := Lib.hid hu; clear hu
    have qa := hx.cell_ (i := 1) rfl
    by_cases hlt : k < n
    · obtain ⟨b, o, p, rfl, hbB, hpk, c0⟩ := (hr.below hg0).int hlt
      have HX := Lib.hid hpk
      clear hpk
      by_cases hin : -50 ≤ p ∧ p ≤ 50
      rotate_left
      · have S := Lib.hid (ctl_no2 (h := h) (cs := cs) (J := J) (inAll_no (a := -50) (b := 50) HX.out (by omega)))
        go_wp2_with (go_at_call 48; refine (l01In_f _ _ _ _ (by omega)).mono ?_; rintro e w' ⟨rfl, rfl⟩)
        go_ret
        exact ⟨ret_bool S.out.symm, hg0⟩
      obtain ⟨i1, i2⟩ := hin
      have HN := Lib.hid (HU.out.next HX.out i1 i2)
      go_wp2_with (go_at_call 48; refine (l01In_t _ _ _ _ i1 i2).mono ?_; rintro e w' ⟨rfl, rfl⟩)
      go_round
      case rel => exact ⟨k + 1, by omega, by go_num, HN.out⟩
      case measure => simp [intOf]; omega
    · obtain rfl : k = n := by omega
      have I := Lib.hid (HU.out.all (by omega))
      go_wp2
      go_loopw [6] (fun i wr => ∃ j : Nat, j ≤ q ∧ i = .int .i64 j ∧ Cords k J cs j ∧ Row wr w.heap.size 54 [.int .i64 h, .slice A k c, .slice B q q] ∧ Below w.heap.size w wr) (fun i _ => q - (intOf i).toNat)
      case atStart => exact ⟨0, by omega, rfl, Cords.zero _ _ _, hx, hg0⟩
      case round =>
        clear hx hg0 qa
        obtain ⟨j, hj, rfl, hcs, hbx, hbel⟩ := hrel
        have HS := Lib.hid hcs
        clear hcs
        have qa := hbx.cell_ (i := 1) rfl
        have qb := hbx.cell_ (i := 2) rfl
        by_cases hlt : j < q
        · obtain ⟨b, o, x, rfl, hbB, hxk, c0, c1, c2⟩ := (hs.below hbel).lb hlt
          have HX := Lib.hid hxk
          clear hxk
          have zx := hbx.lt
          have HB := Lib.hid (hbx.alloc (.cells #[.int .i64 x.a, .int .i64 x.b, .int .i64 x.l] 80))
          have HW : Hid (Below w.heap.size w (wr.alloc (.cells #[.int .i64 x.a, .int .i64 x.b, .int .i64 x.l] 80))) := Lib.hid (hbel.alloc hbel.size _)
          by_cases ha : 0 ≤ x.a ∧ x.a ≤ (k : Int) - 1
          rotate_left
          · have S := Lib.hid (ctl_no3 (h := h) (ar := ar) (J := J) HX.out (by omega))
            have ha' : x.a < 0 ∨ (k : Int) - 1 < x.a := by omega
            clear ha
            go_wp2_with (go_at_call 48; refine (l01In_f _ _ _ _ ha').mono ?_; rintro e w' ⟨rfl, rfl⟩)
            go_ret
            exact ⟨ret_bool S.out.symm, HW.out⟩
          obtain ⟨a1, a2⟩ := ha
          by_cases hJ1 : J < 1
          · have S := Lib.hid (ctl_no3 (h := h) (ar := ar) (J := J) HX.out (by omega))
            go_wp2_with fail
            refine (l01In_t _ _ _ _ a1 a2).mono ?_
            rintro e w' ⟨rfl, rfl⟩
            by_cases hb : 0 ≤ x.b ∧ x.b ≤ wrap64 (J - 1)
            · obtain ⟨b1, b2⟩ := hb
              go_wp2_with fail
              refine (l01In_t _ _ _ _ b1 b2).mono ?_
              rintro e w' ⟨rfl, rfl⟩
              clear b1 b2
              go_wp2
              go_ret
              exact ⟨ret_bool S.out.symm, HW.out⟩
            · have hb' : x.b < 0 ∨ wrap64 (J - 1) < x.b := by omega
              clear hb
              go_wp2_with fail
              refine (l01In_f _ _ _ _ hb').mono ?_
              rintro e w' ⟨rfl, rfl⟩
              clear hb'
              go_wp2
              go_ret
              exact ⟨ret_bool S.out.symm, HW.out⟩
          have hJ3 : 1 ≤ J := by omega
          have hJ4 := hJ.2
          by_cases hb : 0 ≤ x.b ∧ x.b ≤ J - 1
          rotate_left
          · have S := Lib.hid (ctl_no3 (h := h) (ar := ar) (J := J) HX.out (by omega))
            have hb' : x.b < 0 ∨ J - 1 < x.b := by omega
            clear hb
            go_wp2_with fail
            refine (l01In_t _ _ _ _ a1 a2).mono ?_
            rintro e w' ⟨rfl, rfl⟩
            go_wp2_with fail
            refine (l01In_f _ _ _ _ hb').mono ?_
            rintro e w' ⟨rfl, rfl⟩
            go_wp2
            go_ret
            exact ⟨ret_bool S.out.symm, HW.out⟩
          obtain ⟨b1, b2⟩ := hb
          by_cases hl : 0 ≤ x.l ∧ x.l ≤ 500
          rotate_left
          · have S := Lib.hid (ctl_no3 (h := h) (ar := ar) (J := J) HX.out (by omega))
            have hl' : x.l < 0 ∨ 500 < x.l := by omega
            clear hl
            go_wp2_with fail
            refine (l01In_t _ _ _ _ a1 a2).mono ?_
            rintro e w' ⟨rfl, rfl⟩
            go_wp2_with fail
            refine (l01In_t _ _ _ _ b1 b2).mono ?_
            rintro e w' ⟨rfl, rfl⟩
            go_wp2_with fail
            refine (l01In_f _ _ _ _ hl').mono ?_
            rintro e w' ⟨rfl, rfl⟩
            go_wp2
            go_ret
            exact ⟨ret_bool S.out.symm, HW.out⟩
          obtain ⟨l1, l2⟩ := hl
          have HN := Lib.hid (fun hap => HS.out.next HX.out (by omega) hap)
          go_wp2_with fail
          refine (l01In_t _ _ _ _ a1 a2).mono ?_
          rintro e w' ⟨rfl, rfl⟩
          go_wp2_with fail
          refine (l01In_t _ _ _ _ b1 b2).mono ?_
          rintro e w' ⟨rfl, rfl⟩
          go_wp2_with fail
          refine (l01In_t _ _ _ _ l1 l2).mono ?_
          rintro e w' ⟨rfl, rfl⟩
          go_wp2
          clear c0 c1 c2 qa qb
          have HO := Lib.hid (Row.new wr 80 [.int .i64 x.a, .int .i64 x.b, .int .i64 x.l])
          generalize wr.heap.size = G at *
          go_loopw [8] (fun i w2 => ∃ t : Nat, t ≤ j ∧ i = .int .i64 t ∧ Apart cs x.b t ∧ Row w2 w.heap.size 54 [.int .i64 h, .slice A k c, .slice (some ⟨b, o, none⟩) q q] ∧ Row w2 G 80 [.int .i64 x.a, .int .i64 x.b, .int .i64 x.l] ∧ Below w.heap.size w w2) (fun i _ => j - (intOf i).toNat)
          case atStart => exact ⟨0, by omega, rfl, Apart.zero _ _, HB.out, HO.out, HW.out⟩
          case round =>
            clear hbx hbel hbB
            obtain ⟨t, ht, rfl, hap, hbx2, hox, hbel2⟩ := hrel
            have HAP := Lib.hid hap
            clear hap
            by_cases htk : t < j
            · obtain ⟨b', o', y, e', hbB', hyt, c0, c1, c2⟩ := (hs.below hbel2).lb (show t < q by omega)
              injection e' with e'
              injection e' with e1 e2
              subst e1 e2
              have HY := Lib.hid hyt
              clear hyt
              have qo := hox.cell_ (i := 1) rfl
              have qb := hbx2.cell_ (i := 2) rfl
              have zo := hox.lt
              have ltk : (t : Int) < (j : Int) := by omega
              have ltq : (t : Int) < (q : Int) := by omega
              have HB2 := Lib.hid hbx2
              have HO2 := Lib.hid hox
              by_cases heq : x.b = y.b
              · have S := Lib.hid (ctl_no4 (h := h) (ar := ar) (J := J) HX.out htk HY.out heq.symm)
                have e1 : (y.b == x.b) = true := by simp [heq]
                clear heq hbx2 hox
                go_wp2
                go_quiet (fail)
                go_wp2
                go_ret
                exact ⟨ret_bool S.out.symm, below_drewN hbel2 _⟩
              · have HA2 := Lib.hid (HAP.out.next HY.out (fun e => heq e.symm))
                have e1 : (y.b == x.b) = false := by simp; exact fun e => heq e.symm
                clear heq hbx2 hox
                go_wp2
                go_quiet (fail)
                go_wp2
                go_roundw
                case rel => exact ⟨t + 1, by omega, by go_num, HA2.out, HB2.out.drewN _, HO2.out.drewN _, below_drewN hbel2 _⟩
                case measure => simp [intOf]; omega
            · obtain rfl : t = j := by omega
              have HN2 := Lib.hid (HN.out HAP.out)
              go_wp2
              go_roundw
              case rel => exact ⟨t + 1, by omega, by go_num, HN2.out, hbx2, hbel2⟩
              case measure => simp [intOf]; omega
        · obtain rfl : j = q := by omega
          have S := Lib.hid (HC.out I.out (by rw [hla, hlc]; exact HS.out))
          go_wp2
          go_ret
          exact ⟨ret_bool S.out.symm, hbel⟩
end Go.Proofs.Ytbgdnlcjliaigaa
