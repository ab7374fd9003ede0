/- Contracts of the reference's poses made of two; no condition beyond the slices' lengths. -/
import Derived.Test.YtcdachkaalkjlaaBoth
namespace Go.Proofs.Ytcdachkaalkjlaa
open Go.ChangeShapes Go.WideShapes Go.ChangeAt Go.RowKit Go.Deep Go.Joins
set_option maxRecDepth 100000

set_option maxHeartbeats 4000000 in
theorem spec_HighestPose {A B : Option Addr} {m n c d : Nat} {p q : List Int} {w : World} (hp : Reads w 1 A m (ints p)) (hm : m ≤ 1048576) (hq : Reads w 1 B n (ints q)) (hn : n ≤ 1048576) :
    Calls Try.prog 14 #[.slice A m c, .slice B n d] w fun e w' => ∃ A' n' c', e = .returned (.slice A' n' c') ∧ w'.ownsRow w.heap.size 3 1 (.slice A' n' c') n' (ints (bothL hiF p q)) ∧ n' ≤ 1048576 ∧ Below w.heap.size w w' := by
  have hlp := hp.len
  have hlq := hq.len
  have ho := own_empty w 3 1
  obtain ⟨i0, hi, hz0, hz1, hz2⟩ := info_parts info_b
  cases hok : stepOk p q with
  | false =>
    have E := Lib.hid hok
    have S := Lib.hid (stepSize_no hok)
    clear hok
    go_enter Try.func14, Try.ntmps14
    go_wp2
    go_loopw [5, 6] (fun v i wr => i = .int .i64 0 ∧ v = .slice (some ⟨w.heap.size, 0, none⟩) 0 0 ∧ wr = w.alloc (.cells #[] 3)) (fun _ _ _ => 0)
    case atStart => exact ⟨rfl, rfl, rfl⟩
    case round =>
      obtain ⟨rfl, rfl, rfl⟩ := hrel
      by_cases hlt : 0 < m
      · go_wp2_with fail
        refine (spec_StepSize (hp.below (by go_grown)) hm (hq.below (by go_grown)) hn).mono ?_
        rintro e w1 ⟨rfl, hb1⟩
        rw [S.out]
        go_wp2
        go_ret
        exact ⟨_, 0, 0, rfl, by rw [bothL_no E.out]; exact own_below ho hb1, by omega, (by go_grown : Below w.heap.size w (w.alloc (.cells #[] 3))).trans (hb1.mono (by simp))⟩
      · obtain rfl : m = 0 := by omega
        go_wp2
        go_ret
        exact ⟨_, 0, 0, rfl, by rw [bothL_no E.out]; exact ho, by omega, by go_grown⟩
  | true =>
    obtain ⟨f1, f2, f3, f4⟩ := stepFacts hok
    have E := Lib.hid hok
    have S := Lib.hid (stepSize_yes hok)
    have hbd := (stepTo_bd f3 f4 p.length).1
    have F3 := Lib.hid f3
    have F4 := Lib.hid f4
    clear hok f3 f4
    obtain rfl : m = n := by omega
    generalize stepTo p q p.length = T at hbd S
    go_enter Try.func14, Try.ntmps14
    go_wp2
    go_loopw [5, 6] (fun v i wr => ∃ (k : Nat) (A' : Option Addr) (n' c' : Nat), k ≤ m ∧ i = .int .i64 k ∧ v = .slice A' n' c' ∧ n' ≤ k ∧ wr.ownsRow w.heap.size 3 1 (.slice A' n' c') n' (ints (bothTo hiF p q k)) ∧ Below w.heap.size w wr) (fun _ i _ => m - (intOf i).toNat)
    case atStart => exact ⟨0, _, 0, 0, by omega, rfl, rfl, by omega, ho, by go_grown⟩
    case round =>
      obtain ⟨k, A', n', c', hk, rfl, rfl, hnb, hown, hbel⟩ := hrel
      clear ho
      by_cases hlt : k < m
      · obtain ⟨b, o, a, rfl, hbB, ha, c0⟩ := hp.int hlt
        obtain ⟨b', o', z, rfl, hbB', hz, c1⟩ := hq.int hlt
        replace c0 := keep_cell hbel c0
        replace c1 := keep_cell hbel c1
        have l1 : (k : Int) < (m : Int) := by omega
        have HS := Lib.hid (bothTo_step (g := hiF) ha hz)
        obtain ⟨a1, a2⟩ := inAll_at F3.out ha
        obtain ⟨z1, z2⟩ := inAll_at F4.out hz
        have hnm : n' + 1 ≤ 1048576 := by omega
        clear ha hz
        have GV := Lib.hid (show hiF a z = if a < z then z else a by unfold hiF; split <;> omega)
        go_wp2_with fail
        refine (spec_StepSize (hp.below hbel) hm (hq.below hbel) hn).mono ?_
        rintro e w1 ⟨rfl, hb1⟩
        rw [S.out]
        replace hown := own_below hown hb1
        replace hbel := hbel.trans (hb1.mono hbel.size)
        replace c0 := keep_cell hb1 c0
        replace c1 := keep_cell hb1 c1
        have bA := own_blk hown
        have zw := hbel.size
        clear hb1
        go_wp2
        go_region_held3 (fun w' => w'.cell? ⟨b, o + k, none⟩ = some (.int .i64 a) ∧ w'.cell? ⟨b', o' + k, none⟩ = some (.int .i64 z)) (first | go_keep | exact ⟨k0, k1⟩)
          ((refine step_app (w1.drewN _) (by rfl) _ _ 22 (by rfl) w.heap.size 3 i0 (.int .i64 0) 1 8 Try.underlying22 hi hz0 hz1 hz2 rfl (by decide) (by rfl) (own_drewN hown _) [.int .i64 _] rfl (by simp [Value.oneCell']) (by rfl) (by rfl) (by unfold maxLen; omega) (by omega) zw (by rfl) ?_; intro g2 c2 w2 hown2 hg2; have k0 := grown_keep hg2 bA hbB c0; have k1 := grown_keep hg2 bA hbB' c1))
        clear k0 k1
        go_wp2
        go_roundw
        case rel => exact ⟨k + 1, _, n' + 1, c2, by omega, by go_num, rfl, by omega, by rw [HS.out, GV.out, ints_append]; exact hown2, bel_apart (below_drewN hbel _) hg2 bA (Nat.le_refl _)⟩
        case measure => simp [intOf]; omega
      · obtain rfl : k = m := by omega
        go_wp2
        go_ret
        exact ⟨A', n', c', rfl, by rw [bothL_yes E.out, hlp]; exact hown, by omega, hbel⟩

set_option maxHeartbeats 4000000 in
theorem spec_LowerPose {A B : Option Addr} {m n c d : Nat} {p q : List Int} {w : World} (hp : Reads w 1 A m (ints p)) (hm : m ≤ 1048576) (hq : Reads w 1 B n (ints q)) (hn : n ≤ 1048576) :
    Calls Try.prog 18 #[.slice A m c, .slice B n d] w fun e w' => ∃ A' n' c', e = .returned (.slice A' n' c') ∧ w'.ownsRow w.heap.size 3 1 (.slice A' n' c') n' (ints (bothL loF p q)) ∧ n' ≤ 1048576 ∧ Below w.heap.size w w' := by
  have hlp := hp.len
  have hlq := hq.len
  have ho := own_empty w 3 1
  obtain ⟨i0, hi, hz0, hz1, hz2⟩ := info_parts info_b
  cases hok : stepOk p q with
  | false =>
    have E := Lib.hid hok
    have S := Lib.hid (stepSize_no hok)
    clear hok
    go_enter Try.func18, Try.ntmps18
    go_wp2
    go_loopw [5, 6] (fun v i wr => i = .int .i64 0 ∧ v = .slice (some ⟨w.heap.size, 0, none⟩) 0 0 ∧ wr = w.alloc (.cells #[] 3)) (fun _ _ _ => 0)
    case atStart => exact ⟨rfl, rfl, rfl⟩
    case round =>
      obtain ⟨rfl, rfl, rfl⟩ := hrel
      by_cases hlt : 0 < m
      · go_wp2_with fail
        refine (spec_StepSize (hp.below (by go_grown)) hm (hq.below (by go_grown)) hn).mono ?_
        rintro e w1 ⟨rfl, hb1⟩
        rw [S.out]
        go_wp2
        go_ret
        exact ⟨_, 0, 0, rfl, by rw [bothL_no E.out]; exact own_below ho hb1, by omega, (by go_grown : Below w.heap.size w (w.alloc (.cells #[] 3))).trans (hb1.mono (by simp))⟩
      · obtain rfl : m = 0 := by omega
        go_wp2
        go_ret
        exact ⟨_, 0, 0, rfl, by rw [bothL_no E.out]; exact ho, by omega, by go_grown⟩
  | true =>
    obtain ⟨f1, f2, f3, f4⟩ := stepFacts hok
    have E := Lib.hid hok
    have S := Lib.hid (stepSize_yes hok)
    have hbd := (stepTo_bd f3 f4 p.length).1
    have F3 := Lib.hid f3
    have F4 := Lib.hid f4
    clear hok f3 f4
    obtain rfl : m = n := by omega
    generalize stepTo p q p.length = T at hbd S
    go_enter Try.func18, Try.ntmps18
    go_wp2
    go_loopw [5, 6] (fun v i wr => ∃ (k : Nat) (A' : Option Addr) (n' c' : Nat), k ≤ m ∧ i = .int .i64 k ∧ v = .slice A' n' c' ∧ n' ≤ k ∧ wr.ownsRow w.heap.size 3 1 (.slice A' n' c') n' (ints (bothTo loF p q k)) ∧ Below w.heap.size w wr) (fun _ i _ => m - (intOf i).toNat)
    case atStart => exact ⟨0, _, 0, 0, by omega, rfl, rfl, by omega, ho, by go_grown⟩
    case round =>
      obtain ⟨k, A', n', c', hk, rfl, rfl, hnb, hown, hbel⟩ := hrel
      clear ho
      by_cases hlt : k < m
      · obtain ⟨b, o, a, rfl, hbB, ha, c0⟩ := hp.int hlt
        obtain ⟨b', o', z, rfl, hbB', hz, c1⟩ := hq.int hlt
        replace c0 := keep_cell hbel c0
        replace c1 := keep_cell hbel c1
        have l1 : (k : Int) < (m : Int) := by omega
        have HS := Lib.hid (bothTo_step (g := loF) ha hz)
        obtain ⟨a1, a2⟩ := inAll_at F3.out ha
        obtain ⟨z1, z2⟩ := inAll_at F4.out hz
        have hnm : n' + 1 ≤ 1048576 := by omega
        clear ha hz
        have GV := Lib.hid (show loF a z = if z < a then z else a by unfold loF; split <;> omega)
        go_wp2_with fail
        refine (spec_StepSize (hp.below hbel) hm (hq.below hbel) hn).mono ?_
        rintro e w1 ⟨rfl, hb1⟩
        rw [S.out]
        replace hown := own_below hown hb1
        replace hbel := hbel.trans (hb1.mono hbel.size)
        replace c0 := keep_cell hb1 c0
        replace c1 := keep_cell hb1 c1
        have bA := own_blk hown
        have zw := hbel.size
        clear hb1
        go_wp2
        go_region_held3 (fun w' => w'.cell? ⟨b, o + k, none⟩ = some (.int .i64 a) ∧ w'.cell? ⟨b', o' + k, none⟩ = some (.int .i64 z)) (first | go_keep | exact ⟨k0, k1⟩)
          ((refine step_app (w1.drewN _) (by rfl) _ _ 22 (by rfl) w.heap.size 3 i0 (.int .i64 0) 1 8 Try.underlying22 hi hz0 hz1 hz2 rfl (by decide) (by rfl) (own_drewN hown _) [.int .i64 _] rfl (by simp [Value.oneCell']) (by rfl) (by rfl) (by unfold maxLen; omega) (by omega) zw (by rfl) ?_; intro g2 c2 w2 hown2 hg2; have k0 := grown_keep hg2 bA hbB c0; have k1 := grown_keep hg2 bA hbB' c1))
        clear k0 k1
        go_wp2
        go_roundw
        case rel => exact ⟨k + 1, _, n' + 1, c2, by omega, by go_num, rfl, by omega, by rw [HS.out, GV.out, ints_append]; exact hown2, bel_apart (below_drewN hbel _) hg2 bA (Nat.le_refl _)⟩
        case measure => simp [intOf]; omega
      · obtain rfl : k = m := by omega
        go_wp2
        go_ret
        exact ⟨A', n', c', rfl, by rw [bothL_yes E.out, hlp]; exact hown, by omega, hbel⟩

set_option maxHeartbeats 4000000 in
theorem spec_MiddlePose {A B : Option Addr} {m n c d : Nat} {p q : List Int} {w : World} (hp : Reads w 1 A m (ints p)) (hm : m ≤ 1048576) (hq : Reads w 1 B n (ints q)) (hn : n ≤ 1048576) :
    Calls Try.prog 20 #[.slice A m c, .slice B n d] w fun e w' => ∃ A' n' c', e = .returned (.slice A' n' c') ∧ w'.ownsRow w.heap.size 3 1 (.slice A' n' c') n' (ints (bothL midF p q)) ∧ n' ≤ 1048576 ∧ Below w.heap.size w w' := by
  have hlp := hp.len
  have hlq := hq.len
  have ho := own_empty w 3 1
  obtain ⟨i0, hi, hz0, hz1, hz2⟩ := info_parts info_b
  cases hok : stepOk p q with
  | false =>
    have E := Lib.hid hok
    have S := Lib.hid (stepSize_no hok)
    clear hok
    go_enter Try.func20, Try.ntmps20
    go_wp2
    go_loopw [5, 6] (fun v i wr => i = .int .i64 0 ∧ v = .slice (some ⟨w.heap.size, 0, none⟩) 0 0 ∧ wr = w.alloc (.cells #[] 3)) (fun _ _ _ => 0)
    case atStart => exact ⟨rfl, rfl, rfl⟩
    case round =>
      obtain ⟨rfl, rfl, rfl⟩ := hrel
      by_cases hlt : 0 < m
      · go_wp2_with fail
        refine (spec_StepSize (hp.below (by go_grown)) hm (hq.below (by go_grown)) hn).mono ?_
        rintro e w1 ⟨rfl, hb1⟩
        rw [S.out]
        go_wp2
        go_ret
        exact ⟨_, 0, 0, rfl, by rw [bothL_no E.out]; exact own_below ho hb1, by omega, (by go_grown : Below w.heap.size w (w.alloc (.cells #[] 3))).trans (hb1.mono (by simp))⟩
      · obtain rfl : m = 0 := by omega
        go_wp2
        go_ret
        exact ⟨_, 0, 0, rfl, by rw [bothL_no E.out]; exact ho, by omega, by go_grown⟩
  | true =>
    obtain ⟨f1, f2, f3, f4⟩ := stepFacts hok
    have E := Lib.hid hok
    have S := Lib.hid (stepSize_yes hok)
    have hbd := (stepTo_bd f3 f4 p.length).1
    have F3 := Lib.hid f3
    have F4 := Lib.hid f4
    clear hok f3 f4
    obtain rfl : m = n := by omega
    generalize stepTo p q p.length = T at hbd S
    go_enter Try.func20, Try.ntmps20
    go_wp2
    go_loopw [5, 6] (fun v i wr => ∃ (k : Nat) (A' : Option Addr) (n' c' : Nat), k ≤ m ∧ i = .int .i64 k ∧ v = .slice A' n' c' ∧ n' ≤ k ∧ wr.ownsRow w.heap.size 3 1 (.slice A' n' c') n' (ints (bothTo midF p q k)) ∧ Below w.heap.size w wr) (fun _ i _ => m - (intOf i).toNat)
    case atStart => exact ⟨0, _, 0, 0, by omega, rfl, rfl, by omega, ho, by go_grown⟩
    case round =>
      obtain ⟨k, A', n', c', hk, rfl, rfl, hnb, hown, hbel⟩ := hrel
      clear ho
      by_cases hlt : k < m
      · obtain ⟨b, o, a, rfl, hbB, ha, c0⟩ := hp.int hlt
        obtain ⟨b', o', z, rfl, hbB', hz, c1⟩ := hq.int hlt
        replace c0 := keep_cell hbel c0
        replace c1 := keep_cell hbel c1
        have l1 : (k : Int) < (m : Int) := by omega
        have HS := Lib.hid (bothTo_step (g := midF) ha hz)
        obtain ⟨a1, a2⟩ := inAll_at F3.out ha
        obtain ⟨z1, z2⟩ := inAll_at F4.out hz
        have hnm : n' + 1 ≤ 1048576 := by omega
        clear ha hz
        have GV := Lib.hid (show midF a z = (a + z + 4000).tdiv 2 - 2000 by unfold midF; rw [Int.tdiv_eq_ediv_of_nonneg (by omega)]; omega)
        have W1 : IntKind.i64.wrap (a + z) = a + z := IntWalk.i64_in _ (by omega)
        have W2 : IntKind.i64.wrap (a + z + 4000) = a + z + 4000 := IntWalk.i64_in _ (by omega)
        have td0 := Int.tdiv_nonneg (show 0 ≤ a + z + 4000 by omega) (show (0 : Int) ≤ 2 by decide)
        have td1 := Int.tdiv_le_self 2 (show 0 ≤ a + z + 4000 by omega)
        have W3 : IntKind.i64.wrap ((a + z + 4000).tdiv 2) = (a + z + 4000).tdiv 2 := IntWalk.i64_in _ (by omega)
        have W4 : IntKind.i64.wrap ((a + z + 4000).tdiv 2 - 2000) = (a + z + 4000).tdiv 2 - 2000 := IntWalk.i64_in _ (by omega)
        go_wp2_with fail
        refine (spec_StepSize (hp.below hbel) hm (hq.below hbel) hn).mono ?_
        rintro e w1 ⟨rfl, hb1⟩
        rw [S.out]
        replace hown := own_below hown hb1
        replace hbel := hbel.trans (hb1.mono hbel.size)
        replace c0 := keep_cell hb1 c0
        replace c1 := keep_cell hb1 c1
        have bA := own_blk hown
        have zw := hbel.size
        clear hb1
        go_wp2
        go_region_held3 (fun w' => w'.cell? ⟨b, o + k, none⟩ = some (.int .i64 a) ∧ w'.cell? ⟨b', o' + k, none⟩ = some (.int .i64 z)) (first | go_keep | exact ⟨k0, k1⟩)
          ((refine step_app (w1.drewN _) (by rfl) _ _ 22 (by rfl) w.heap.size 3 i0 (.int .i64 0) 1 8 Try.underlying22 hi hz0 hz1 hz2 rfl (by decide) (by rfl) (own_drewN hown _) [.int .i64 _] rfl (by simp [Value.oneCell']) (by rfl) (by rfl) (by unfold maxLen; omega) (by omega) zw (by rfl) ?_; intro g2 c2 w2 hown2 hg2; have k0 := grown_keep hg2 bA hbB c0; have k1 := grown_keep hg2 bA hbB' c1))
        clear k0 k1
        go_wp2
        go_roundw
        case rel => exact ⟨k + 1, _, n' + 1, c2, by omega, by go_num, rfl, by omega, by rw [HS.out, GV.out, ints_append]; exact hown2, bel_apart (below_drewN hbel _) hg2 bA (Nat.le_refl _)⟩
        case measure => simp [intOf]; omega
      · obtain rfl : k = m := by omega
        go_wp2
        go_ret
        exact ⟨A', n', c', rfl, by rw [bothL_yes E.out, hlp]; exact hown, by omega, hbel⟩

end Go.Proofs.Ytcdachkaalkjlaa
