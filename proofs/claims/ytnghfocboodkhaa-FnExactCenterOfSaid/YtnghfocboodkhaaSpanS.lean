/- Contracts of the reference's l03Far, SpanOf and CenterOf; no condition beyond the slice's length. -/
import Derived.Test.YtnghfocboodkhaaSpan
namespace Go.Proofs.Ytnghfocboodkhaa
open Go.ChangeShapes Go.WideShapes Go.ChangeAt Go.RowKit Go.Deep Go.Joins
set_option maxRecDepth 100000

set_option maxHeartbeats 4000000 in
theorem spec_l03Far {N I : Nat} {A : Option Addr} {m c : Nat} {ls : List Lb} {w : World} (hr : Reads w 3 A m (lbs ls)) (hm : m ≤ 1048576) (hb : bodyOk (N : Int) ls = true) (hI : I < N) :
    Calls Try.prog 62 #[.agg #[.int .i64 (N : Int), .slice A m c], .int .i64 (I : Int)] w fun e w' => e = .returned (.int .i64 (far N ls I)) ∧ Below w.heap.size w w' := by
  obtain ⟨h1, h2, h3, t⟩ := tree_of hb
  rw [Int.toNat_natCast] at t
  have T := Lib.hid t
  have HJ := Lib.hid (distsFrom_yes (N := N) (I := I) (ls := ls) (by simp [isJ, hb]; omega))
  clear t hb
  go_enter Try.func62, Try.ntmps62
  go_wp2_with fail
  refine (spec_DistancesFrom (hr.below (by go_grown)) hm).mono ?_
  rintro e w1 ⟨A1, n1, c1, rfl, hown, hn1, hb1⟩
  rw [HJ.out] at hown
  have hl1 : n1 = N := by have := own_len hown; simpa [tab] using this
  subst hl1
  have hB : Below w.heap.size w w1 := (by go_grown : Below w.heap.size w _).trans (hb1.mono (by simp))
  clear hb1
  go_wp2
  go_loopw [5, 7] (fun v i wr => ∃ k : Nat, k ≤ n1 ∧ i = .int .i64 k ∧ v = .int .i64 (maxTo (dist n1 ls I) k) ∧ w1 = wr) (fun _ i _ => n1 - (intOf i).toNat)
  case atStart => exact ⟨0, by omega, rfl, rfl, rfl⟩
  case round =>
    obtain ⟨k, hk, rfl, rfl, rfl⟩ := hrel
    by_cases hlt : k < n1
    · obtain ⟨b, o, x, rfl, hbB, hx, c0⟩ := (Reads.of_own hown).int hlt
      have hxe : x = dist n1 ls I k := by
        have : (tab (dist n1 ls I) n1)[k]? = some (dist n1 ls I k) := by simp [tab, hlt]
        rw [this] at hx
        exact (Option.some.inj hx).symm
      have hd := T.out.bound hI k
      have hd0 := T.out.all hI k hlt
      rw [← hxe] at hd hd0
      have bm := maxTo_bd (f := dist n1 ls I) (n := k) fun v hv => ⟨T.out.all hI v (by omega), T.out.bound hI v⟩
      have ST : Hid (maxTo (dist n1 ls I) (k + 1) = max (maxTo (dist n1 ls I) k) x) := Lib.hid (by rw [hxe]; rfl)
      clear hx hxe
      generalize maxTo (dist n1 ls I) k = M at *
      go_wp2
      all_goals
        go_roundw
        case rel => exact ⟨k + 1, by omega, by go_num, by rw [ST.out]; exact congrArg (Value.int .i64) (by omega), by first | rfl | trivial⟩
        case measure => simp [intOf]; omega
    · obtain rfl : k = n1 := by omega
      go_wp2
      go_ret
      exact ⟨rfl, hB⟩

set_option maxHeartbeats 4000000 in
theorem spec_SpanOf {n : Int} {A : Option Addr} {m c : Nat} {ls : List Lb} {w : World} (hr : Reads w 3 A m (lbs ls)) (hm : m ≤ 1048576) :
    Calls Try.prog 37 #[.agg #[.int .i64 n, .slice A m c]] w fun e w' => e = .returned (.int .i64 (spanOf n ls)) ∧ Below w.heap.size w w' := by
  have hx := Row.new w 24 [.int .i64 n, .slice A m c]
  cases hb : bodyOk n ls with
  | false =>
    have E := Lib.hid hb; clear hb
    go_enter Try.func37, Try.ntmps37
    go_wp2_with fail
    refine (spec_BodyOk (hr.below (by go_grown)) hm).mono ?_
    rintro e w1 ⟨rfl, hb1⟩
    rw [E.out]
    go_wp2
    go_ret
    exact ⟨ret_int (by simp [spanOf, E.out]), (by go_grown : Below w.heap.size w _).trans (hb1.mono (by simp))⟩
  | true =>
    obtain ⟨h1, h2, h3, t⟩ := tree_of hb
    obtain ⟨N, rfl⟩ := Int.eq_ofNat_of_zero_le (show 0 ≤ n by omega)
    rw [Int.toNat_natCast] at t
    have T := Lib.hid t
    have E := Lib.hid hb; clear hb t
    go_enter Try.func37, Try.ntmps37
    go_wp2_with fail
    refine (spec_BodyOk (hr.below (by go_grown)) hm).mono ?_
    rintro e w1 ⟨rfl, hb1⟩
    rw [E.out]
    have hx1 := hx.below hb1
    have hB : Below w.heap.size w w1 := (by go_grown : Below w.heap.size w _).trans (hb1.mono (by simp))
    clear hb1 hx
    go_wp2
    go_loopw [3, 4] (fun v i wr => ∃ k : Nat, k ≤ N ∧ i = .int .i64 k ∧ v = .int .i64 (maxTo (far N ls) k) ∧ Row wr w.heap.size 24 [.int .i64 N, .slice A m c] ∧ Below w.heap.size w wr) (fun _ i _ => N - (intOf i).toNat)
    case atStart => exact ⟨0, by omega, rfl, rfl, hx1, hB⟩
    case round =>
      obtain ⟨k, hk, rfl, rfl, hbx, hbel⟩ := hrel
      have q0 := hbx.cell_ (i := 0) rfl
      have q1 := hbx.cell_ (i := 1) rfl
      clear hx1 hB
      by_cases hlt : k < N
      · have hbd := maxTo_bd (f := far N ls) (n := k) fun v hv => far_bd T.out v (by omega)
        have hst : maxTo (far N ls) (k + 1) = max (maxTo (far N ls) k) (far N ls k) := rfl
        have hfk := far_bd T.out k hlt
        have ST := Lib.hid hst
        clear hst
        generalize maxTo (far N ls) k = M at *
        go_wp2_with fail
        refine (spec_l03Far (I := k) (hr.below hbel) hm E.out hlt).mono ?_
        rintro e w2 ⟨rfl, hb2⟩
        have hbx2 := hbx.below hb2
        have hbel2 := hbel.trans (hb2.mono hbel.size)
        clear hb2 q0 q1 hbx hbel
        generalize far N ls k = F at *
        go_wp2
        all_goals
          go_roundw
          case rel => exact ⟨k + 1, by omega, by go_num, by rw [ST.out]; exact congrArg (Value.int .i64) (by omega), hbx2, hbel2⟩
          case measure => simp [intOf]; omega
      · obtain rfl : k = N := by omega
        go_wp2
        go_ret
        exact ⟨ret_int (spanOf_yes E.out).symm, hbel⟩

set_option maxHeartbeats 4000000 in
theorem spec_CenterOf {n : Int} {A : Option Addr} {m c : Nat} {ls : List Lb} {w : World} (hr : Reads w 3 A m (lbs ls)) (hm : m ≤ 1048576) :
    Calls Try.prog 39 #[.agg #[.int .i64 n, .slice A m c]] w fun e w' => e = .returned (.int .i64 (centerOf n ls)) ∧ Below w.heap.size w w' := by
  have hx := Row.new w 24 [.int .i64 n, .slice A m c]
  cases hb : bodyOk n ls with
  | false =>
    have E := Lib.hid hb; clear hb
    have S : Hid (centerOf n ls = -1) := Lib.hid (by simp [centerOf, E.out])
    go_enter Try.func39, Try.ntmps39
    go_wp2
    go_loopw [3, 4, 5] (fun b l i wr => b = .int .i64 (-1) ∧ l = .int .i64 0 ∧ i = .int .i64 0 ∧ wr = w.alloc (.cells #[.int .i64 n, .slice A m c] 24)) (fun _ _ _ _ => 0)
    case atStart => exact ⟨rfl, rfl, rfl, rfl⟩
    case round =>
      obtain ⟨rfl, rfl, rfl, rfl⟩ := hrel
      have q0 := hx.cell_ (i := 0) rfl
      have q1 := hx.cell_ (i := 1) rfl
      by_cases hn : 0 < n
      · go_wp2_with fail
        refine (spec_BodyOk (hr.below (by go_grown)) hm).mono ?_
        rintro e w1 ⟨rfl, hb1⟩
        rw [E.out]
        go_wp2
        go_ret
        exact ⟨ret_int S.out.symm, (by go_grown : Below w.heap.size w (w.alloc (.cells #[.int .i64 n, .slice A m c] 24))).trans (hb1.mono (by simp))⟩
      · go_wp2
        go_ret
        exact ⟨ret_int S.out.symm, by go_grown⟩
  | true =>
    obtain ⟨h1, h2, h3, t⟩ := tree_of hb
    obtain ⟨N, rfl⟩ := Int.eq_ofNat_of_zero_le (show 0 ≤ n by omega)
    rw [Int.toNat_natCast] at t
    have T := Lib.hid t
    have E := Lib.hid hb; clear hb t
    have S := Lib.hid (centerOf_yes E.out)
    go_enter Try.func39, Try.ntmps39
    go_wp2
    go_loopw [3, 4, 5] (fun b l i wr => ∃ (k : Nat) (B L : Int), k ≤ N ∧ i = .int .i64 k ∧ b = .int .i64 B ∧ l = .int .i64 L ∧ (k = 0 → B = -1) ∧ (0 < k → B = (centTo (far N ls) k : Int) ∧ L = far N ls (centTo (far N ls) k)) ∧ Row wr w.heap.size 24 [.int .i64 N, .slice A m c] ∧ Below w.heap.size w wr) (fun _ _ i _ => N - (intOf i).toNat)
    case atStart => exact ⟨0, -1, 0, by omega, rfl, rfl, rfl, fun _ => rfl, by omega, hx, by go_grown⟩
    case round =>
      clear hx
      obtain ⟨k, B, L, hk, rfl, rfl, rfl, hz, hp, hbx, hbel⟩ := hrel
      have HP := Lib.hid hp
      have HZ := Lib.hid hz
      clear hp hz
      have q0 := hbx.cell_ (i := 0) rfl
      have q1 := hbx.cell_ (i := 1) rfl
      by_cases hlt : k < N
      · go_wp2_with fail
        refine (spec_BodyOk (hr.below hbel) hm).mono ?_
        rintro e w1 ⟨rfl, hb1⟩
        rw [E.out]
        replace q0 := keep_cell hb1 q0
        replace q1 := keep_cell hb1 q1
        have hbx1 := hbx.below hb1
        have hbel1 := hbel.trans (hb1.mono hbel.size)
        clear hb1 hbx hbel
        go_wp2_with fail
        refine (spec_l03Far (I := k) (hr.below hbel1) hm E.out hlt).mono ?_
        rintro e w2 ⟨rfl, hb2⟩
        have hbx2 := hbx1.below hb2
        have hbel2 := hbel1.trans (hb2.mono hbel1.size)
        clear hb2 q0 q1 hbx1 hbel1
        have HST := Lib.hid (centTo_step (far N ls) k)
        rcases Nat.eq_zero_or_pos k with hk0 | hk0
        · have HB := Lib.hid (HZ.out hk0)
          obtain rfl : B = -1 := HB.out
          have H0 := Lib.hid hk0
          clear hk0
          generalize hF : far N ls k = F
          have HF := Lib.hid hF
          clear hF
          go_wp2
          go_roundw
          case rel => exact ⟨k + 1, _, F, by omega, by go_num, rfl, rfl, by omega, fun _ => by have e := H0.out; subst e; exact ⟨by simp [centTo], by simp [centTo, HF.out]⟩, hbx2, hbel2⟩
          case measure => simp [intOf]; omega
        · obtain ⟨hB1, hL1⟩ := HP.out hk0
          have HB := Lib.hid hB1
          have HL := Lib.hid hL1
          have b0 : 0 ≤ B := by omega
          clear hB1 hL1
          generalize hF : far N ls k = F
          have HF := Lib.hid hF
          clear hF
          by_cases hFL : F < L
          · have HC : Hid (centTo (far N ls) (k + 1) = k) := Lib.hid (by rw [HST.out, HF.out, ← HL.out, if_pos hFL])
            go_wp2
            go_roundw
            case rel => exact ⟨k + 1, _, F, by omega, by go_num, rfl, rfl, by omega, fun _ => ⟨by rw [HC.out], by rw [HC.out, HF.out]⟩, hbx2, hbel2⟩
            case measure => simp [intOf]; omega
          · have HC : Hid (centTo (far N ls) (k + 1) = centTo (far N ls) k) := Lib.hid (by rw [HST.out, HF.out, ← HL.out, if_neg hFL])
            go_wp2
            go_roundw
            case rel => exact ⟨k + 1, B, L, by omega, by go_num, rfl, rfl, by omega, fun _ => ⟨by rw [HC.out]; exact HB.out, by rw [HC.out]; exact HL.out⟩, hbx2, hbel2⟩
            case measure => simp [intOf]; omega
      · obtain rfl : k = N := by omega
        go_wp2
        go_ret
        exact ⟨ret_int (by rw [S.out, (HP.out (by omega)).1]), hbel⟩
end Go.Proofs.Ytnghfocboodkhaa
