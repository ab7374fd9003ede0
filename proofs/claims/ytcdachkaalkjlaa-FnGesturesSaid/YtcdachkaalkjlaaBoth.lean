/- Contracts of both and of the poses made with it; no condition beyond the slices' lengths. -/
import Derived.Test.YtcdachkaalkjlaaStep
namespace Go.Proofs.Ytcdachkaalkjlaa
open Go.ChangeShapes Go.WideShapes Go.ChangeAt Go.RowKit Go.Deep Go.Joins
set_option maxRecDepth 100000

def bothTo (g : Int → Int → Int) (p q : List Int) : Nat → List Int
  | 0 => []
  | k + 1 => bothTo g p q k ++ match p[k]?, q[k]? with | some a, some b => [g a b] | _, _ => []
theorem bothTo_step {g : Int → Int → Int} {p q : List Int} {k : Nat} {a b : Int} (ha : p[k]? = some a) (hb : q[k]? = some b) : bothTo g p q (k + 1) = bothTo g p q k ++ [g a b] := by rw [bothTo, ha, hb]
def bothL (g : Int → Int → Int) (p q : List Int) : List Int := if stepOk p q then bothTo g p q p.length else []
theorem bothL_yes {g : Int → Int → Int} {p q : List Int} (h : stepOk p q = true) : bothL g p q = bothTo g p q p.length := by simp [bothL, h]
theorem bothL_no {g : Int → Int → Int} {p q : List Int} (h : stepOk p q = false) : bothL g p q = [] := by simp [bothL, h]
structure StepFacts (p q : List Int) : Prop where
  same : p.length = q.length
  short : p.length ≤ 12
  inp : inAll p (-2000) 2000 = true
  inq : inAll q (-2000) 2000 = true
theorem stepFacts {p q : List Int} (h : stepOk p q = true) : StepFacts p q := by
  simp only [stepOk, Bool.and_eq_true, decide_eq_true_eq] at h
  exact ⟨h.1.1, h.1.2, h.2.1, h.2.2⟩
theorem info_b : (Try.prog.info? 3).map (fun i => (i.zero, i.size, i.bytes)) = some (some (.int .i64 0), 1, 8) := by kernel_rfl

def hiF (a b : Int) : Int := max a b
def loF (a b : Int) : Int := min a b
def midF (a b : Int) : Int := (a + b) / 2

theorem impl_HighestPose_1 {a b : Int} {w : World} (_ : -2000 ≤ a) (_ : a ≤ 2000) (_ : -2000 ≤ b) (_ : b ≤ 2000) : Calls Try.prog 43 #[.int .i64 a, .int .i64 b] w fun e w' => e = .returned (.int .i64 (hiF a b)) ∧ w = w' := by
  go_enter Try.func43, Try.ntmps43
  go_wp2
  all_goals
    go_ret
    exact ⟨ret_int (by unfold hiF; omega), rfl⟩

theorem impl_LowerPose_1 {a b : Int} {w : World} (_ : -2000 ≤ a) (_ : a ≤ 2000) (_ : -2000 ≤ b) (_ : b ≤ 2000) : Calls Try.prog 44 #[.int .i64 a, .int .i64 b] w fun e w' => e = .returned (.int .i64 (loF a b)) ∧ w = w' := by
  go_enter Try.func44, Try.ntmps44
  go_wp2
  all_goals
    go_ret
    exact ⟨ret_int (by unfold loF; omega), rfl⟩

set_option maxHeartbeats 4000000 in
theorem impl_both_HighestPose {A B : Option Addr} {m n c d : Nat} {p q : List Int} {w : World} (hp : Reads w 1 A m (ints p)) (hm : m ≤ 1048576) (hq : Reads w 1 B n (ints q)) (hn : n ≤ 1048576) :
    Calls Try.prog 42 #[.slice A m c, .slice B n d, .func (.func 43) #[] #[]] w fun e w' => ∃ A' n' c', e = .returned (.slice A' n' c') ∧ w'.ownsRow w.heap.size 3 1 (.slice A' n' c') n' (ints (bothL hiF p q)) ∧ n' ≤ 1048576 ∧ Below w.heap.size w w' := by
  have hlp := hp.len
  have hlq := hq.len
  cases hok : stepOk p q with
  | false =>
    have E := Lib.hid hok
    have S := Lib.hid (stepSize_no hok)
    clear hok
    go_enter Try.func42, Try.ntmps42
    go_wp2_with fail
    refine (impl_StepSize hp hm hq hn).mono ?_
    rintro e w1 ⟨rfl, hb1⟩
    rw [S.out]
    go_wp2
    go_ret
    exact ⟨none, 0, 0, rfl, by rw [bothL_no E.out]; exact World.ownsRow_nil _ _ _ _, by omega, hb1⟩
  | true =>
    obtain ⟨f1, f2, f3, f4⟩ := stepFacts hok
    have E := Lib.hid hok
    have S := Lib.hid (stepSize_yes hok)
    have hbd := (stepTo_bd f3 f4 p.length).1
    have F3 := Lib.hid f3
    have F4 := Lib.hid f4
    clear hok f3 f4
    obtain rfl : m = n := by omega
    obtain ⟨i0, hi, hz0, hz1, hz2⟩ := info_parts info_b
    generalize stepTo p q p.length = T at hbd S
    go_enter Try.func42, Try.ntmps42
    go_wp2_with fail
    refine (impl_StepSize hp hm hq hn).mono ?_
    rintro e w1 ⟨rfl, hb1⟩
    rw [S.out]
    have ho := ownsRow_le (own_empty w1 3 1) hb1.size
    have zB := hb1.size
    go_wp2
    go_loopw [7, 16] (fun v i wr => ∃ (k : Nat) (A' : Option Addr) (n' c' : Nat), k ≤ m ∧ i = .int .i64 k ∧ v = .slice A' n' c' ∧ n' ≤ k ∧ wr.ownsRow w.heap.size 3 1 (.slice A' n' c') n' (ints (bothTo hiF p q k)) ∧ Below w.heap.size w wr) (fun _ i _ => m - (intOf i).toNat)
    case atStart => exact ⟨0, _, 0, 0, by omega, rfl, rfl, by omega, ho, hb1.trans ((by go_grown : Below w1.heap.size w1 _).mono zB)⟩
    case round =>
      obtain ⟨k, A', n', c', hk, rfl, rfl, hnb, hown, hbel⟩ := hrel
      clear ho hb1 zB
      by_cases hlt : k < m
      · obtain ⟨b, o, a, rfl, hbB, ha, c0⟩ := hp.int hlt
        obtain ⟨b', o', z, rfl, hbB', hz, c1⟩ := hq.int hlt
        replace c0 := keep_cell hbel c0
        replace c1 := keep_cell hbel c1
        have l1 : (k : Int) < (m : Int) := by omega
        have HS := Lib.hid (bothTo_step (g := hiF) ha hz)
        obtain ⟨a1, a2⟩ := inAll_at F3.out ha
        obtain ⟨z1, z2⟩ := inAll_at F4.out hz
        have bA := own_blk hown
        have zw := hbel.size
        have hnm : n' + 1 ≤ 1048576 := by omega
        clear ha hz
        go_wp2
        go_region_held3 (fun w' => w'.cell? ⟨b, o + k, none⟩ = some (.int .i64 a) ∧ w'.cell? ⟨b', o' + k, none⟩ = some (.int .i64 z)) (first | go_keep | exact ⟨k0, k1⟩)
          (first | (go_at_call 43; refine (impl_HighestPose_1 a1 a2 z1 z2).mono ?_; rintro e w2 ⟨rfl, rfl⟩) | (refine step_app (wr.drewN _) (by rfl) _ _ 22 (by rfl) w.heap.size 3 i0 (.int .i64 0) 1 8 Try.underlying22 hi hz0 hz1 hz2 rfl (by decide) (by rfl) (own_drewN hown _) [.int .i64 (hiF a z)] rfl (by simp [Value.oneCell']) (by rfl) (by rfl) (by unfold maxLen; omega) (by omega) zw (by rfl) ?_; intro g2 c2 w2 hown2 hg2; have k0 := grown_keep hg2 bA hbB c0; have k1 := grown_keep hg2 bA hbB' c1))
        clear k0 k1
        go_wp2
        go_roundw
        case rel => exact ⟨k + 1, _, n' + 1, c2, by omega, by go_num, rfl, by omega, by rw [HS.out, ints_append]; exact hown2, bel_apart (below_drewN hbel _) hg2 bA (Nat.le_refl _)⟩
        case measure => simp [intOf]; omega
      · obtain rfl : k = m := by omega
        go_wp2
        go_ret
        exact ⟨A', n', c', rfl, by rw [bothL_yes E.out, hlp]; exact hown, by omega, hbel⟩

set_option maxHeartbeats 4000000 in
theorem impl_both_LowerPose {A B : Option Addr} {m n c d : Nat} {p q : List Int} {w : World} (hp : Reads w 1 A m (ints p)) (hm : m ≤ 1048576) (hq : Reads w 1 B n (ints q)) (hn : n ≤ 1048576) :
    Calls Try.prog 42 #[.slice A m c, .slice B n d, .func (.func 44) #[] #[]] w fun e w' => ∃ A' n' c', e = .returned (.slice A' n' c') ∧ w'.ownsRow w.heap.size 3 1 (.slice A' n' c') n' (ints (bothL loF p q)) ∧ n' ≤ 1048576 ∧ Below w.heap.size w w' := by
  have hlp := hp.len
  have hlq := hq.len
  cases hok : stepOk p q with
  | false =>
    have E := Lib.hid hok
    have S := Lib.hid (stepSize_no hok)
    clear hok
    go_enter Try.func42, Try.ntmps42
    go_wp2_with fail
    refine (impl_StepSize hp hm hq hn).mono ?_
    rintro e w1 ⟨rfl, hb1⟩
    rw [S.out]
    go_wp2
    go_ret
    exact ⟨none, 0, 0, rfl, by rw [bothL_no E.out]; exact World.ownsRow_nil _ _ _ _, by omega, hb1⟩
  | true =>
    obtain ⟨f1, f2, f3, f4⟩ := stepFacts hok
    have E := Lib.hid hok
    have S := Lib.hid (stepSize_yes hok)
    have hbd := (stepTo_bd f3 f4 p.length).1
    have F3 := Lib.hid f3
    have F4 := Lib.hid f4
    clear hok f3 f4
    obtain rfl : m = n := by omega
    obtain ⟨i0, hi, hz0, hz1, hz2⟩ := info_parts info_b
    generalize stepTo p q p.length = T at hbd S
    go_enter Try.func42, Try.ntmps42
    go_wp2_with fail
    refine (impl_StepSize hp hm hq hn).mono ?_
    rintro e w1 ⟨rfl, hb1⟩
    rw [S.out]
    have ho := ownsRow_le (own_empty w1 3 1) hb1.size
    have zB := hb1.size
    go_wp2
    go_loopw [7, 16] (fun v i wr => ∃ (k : Nat) (A' : Option Addr) (n' c' : Nat), k ≤ m ∧ i = .int .i64 k ∧ v = .slice A' n' c' ∧ n' ≤ k ∧ wr.ownsRow w.heap.size 3 1 (.slice A' n' c') n' (ints (bothTo loF p q k)) ∧ Below w.heap.size w wr) (fun _ i _ => m - (intOf i).toNat)
    case atStart => exact ⟨0, _, 0, 0, by omega, rfl, rfl, by omega, ho, hb1.trans ((by go_grown : Below w1.heap.size w1 _).mono zB)⟩
    case round =>
      obtain ⟨k, A', n', c', hk, rfl, rfl, hnb, hown, hbel⟩ := hrel
      clear ho hb1 zB
      by_cases hlt : k < m
      · obtain ⟨b, o, a, rfl, hbB, ha, c0⟩ := hp.int hlt
        obtain ⟨b', o', z, rfl, hbB', hz, c1⟩ := hq.int hlt
        replace c0 := keep_cell hbel c0
        replace c1 := keep_cell hbel c1
        have l1 : (k : Int) < (m : Int) := by omega
        have HS := Lib.hid (bothTo_step (g := loF) ha hz)
        obtain ⟨a1, a2⟩ := inAll_at F3.out ha
        obtain ⟨z1, z2⟩ := inAll_at F4.out hz
        have bA := own_blk hown
        have zw := hbel.size
        have hnm : n' + 1 ≤ 1048576 := by omega
        clear ha hz
        go_wp2
        go_region_held3 (fun w' => w'.cell? ⟨b, o + k, none⟩ = some (.int .i64 a) ∧ w'.cell? ⟨b', o' + k, none⟩ = some (.int .i64 z)) (first | go_keep | exact ⟨k0, k1⟩)
          (first | (go_at_call 44; refine (impl_LowerPose_1 a1 a2 z1 z2).mono ?_; rintro e w2 ⟨rfl, rfl⟩) | (refine step_app (wr.drewN _) (by rfl) _ _ 22 (by rfl) w.heap.size 3 i0 (.int .i64 0) 1 8 Try.underlying22 hi hz0 hz1 hz2 rfl (by decide) (by rfl) (own_drewN hown _) [.int .i64 (loF a z)] rfl (by simp [Value.oneCell']) (by rfl) (by rfl) (by unfold maxLen; omega) (by omega) zw (by rfl) ?_; intro g2 c2 w2 hown2 hg2; have k0 := grown_keep hg2 bA hbB c0; have k1 := grown_keep hg2 bA hbB' c1))
        clear k0 k1
        go_wp2
        go_roundw
        case rel => exact ⟨k + 1, _, n' + 1, c2, by omega, by go_num, rfl, by omega, by rw [HS.out, ints_append]; exact hown2, bel_apart (below_drewN hbel _) hg2 bA (Nat.le_refl _)⟩
        case measure => simp [intOf]; omega
      · obtain rfl : k = m := by omega
        go_wp2
        go_ret
        exact ⟨A', n', c', rfl, by rw [bothL_yes E.out, hlp]; exact hown, by omega, hbel⟩

theorem tdiv_down {x : Int} (h : x.tmod 2 < 0) : x / 2 = x.tdiv 2 - 1 := by
  have := Int.mul_tdiv_add_tmod x 2
  have h1 := Int.lt_tmod_of_pos x (show (0 : Int) < 2 by decide)
  omega
theorem tdiv_same {x : Int} (h : ¬ x.tmod 2 < 0) : x / 2 = x.tdiv 2 := by
  have := Int.mul_tdiv_add_tmod x 2
  have h1 := Int.tmod_lt_of_pos x (show (0 : Int) < 2 by decide)
  omega

theorem impl_floor {x : Int} {w : World} (h1 : -4000 ≤ x) (h2 : x ≤ 4000) : Calls Try.prog 46 #[.int .i64 x, .int .i64 2] w fun e w' => e = .returned (.int .i64 (x / 2)) ∧ w = w' := by
  have hb1 := Int.mul_tdiv_add_tmod x 2
  have hb2 := Int.lt_tmod_of_pos x (show (0 : Int) < 2 by decide)
  have hb3 := Int.tmod_lt_of_pos x (show (0 : Int) < 2 by decide)
  have W1 : IntKind.i64.wrap (x.tdiv 2) = x.tdiv 2 := IntWalk.i64_in _ (by omega)
  by_cases h : x.tmod 2 < 0
  · have HD := Lib.hid (tdiv_down h)
    have b1 : -2001 ≤ x.tdiv 2 := by omega
    have b2 : x.tdiv 2 ≤ 2001 := by omega
    clear hb1 hb2 hb3
    go_enter Try.func46, Try.ntmps46
    go_wp2
    go_ret
    exact ⟨ret_int HD.out.symm, rfl⟩
  · have HD := Lib.hid (tdiv_same h)
    have b1 : -2001 ≤ x.tdiv 2 := by omega
    have b2 : x.tdiv 2 ≤ 2001 := by omega
    clear hb1 hb2 hb3
    go_enter Try.func46, Try.ntmps46
    go_wp2
    go_ret
    exact ⟨ret_int HD.out.symm, rfl⟩

theorem impl_MiddlePose_1 {a b : Int} {w : World} (h1 : -2000 ≤ a) (h2 : a ≤ 2000) (h3 : -2000 ≤ b) (h4 : b ≤ 2000) : Calls Try.prog 45 #[.int .i64 a, .int .i64 b] w fun e w' => e = .returned (.int .i64 (midF a b)) ∧ w = w' := by
  go_enter Try.func45, Try.ntmps45
  go_wp2_with (go_at_call 46; refine (impl_floor (by omega) (by omega)).mono ?_; rintro e w' ⟨rfl, rfl⟩)
  go_ret
  exact ⟨rfl, rfl⟩

set_option maxHeartbeats 4000000 in
theorem impl_both_MiddlePose {A B : Option Addr} {m n c d : Nat} {p q : List Int} {w : World} (hp : Reads w 1 A m (ints p)) (hm : m ≤ 1048576) (hq : Reads w 1 B n (ints q)) (hn : n ≤ 1048576) :
    Calls Try.prog 42 #[.slice A m c, .slice B n d, .func (.func 45) #[] #[]] w fun e w' => ∃ A' n' c', e = .returned (.slice A' n' c') ∧ w'.ownsRow w.heap.size 3 1 (.slice A' n' c') n' (ints (bothL midF p q)) ∧ n' ≤ 1048576 ∧ Below w.heap.size w w' := by
  have hlp := hp.len
  have hlq := hq.len
  cases hok : stepOk p q with
  | false =>
    have E := Lib.hid hok
    have S := Lib.hid (stepSize_no hok)
    clear hok
    go_enter Try.func42, Try.ntmps42
    go_wp2_with fail
    refine (impl_StepSize hp hm hq hn).mono ?_
    rintro e w1 ⟨rfl, hb1⟩
    rw [S.out]
    go_wp2
    go_ret
    exact ⟨none, 0, 0, rfl, by rw [bothL_no E.out]; exact World.ownsRow_nil _ _ _ _, by omega, hb1⟩
  | true =>
    obtain ⟨f1, f2, f3, f4⟩ := stepFacts hok
    have E := Lib.hid hok
    have S := Lib.hid (stepSize_yes hok)
    have hbd := (stepTo_bd f3 f4 p.length).1
    have F3 := Lib.hid f3
    have F4 := Lib.hid f4
    clear hok f3 f4
    obtain rfl : m = n := by omega
    obtain ⟨i0, hi, hz0, hz1, hz2⟩ := info_parts info_b
    generalize stepTo p q p.length = T at hbd S
    go_enter Try.func42, Try.ntmps42
    go_wp2_with fail
    refine (impl_StepSize hp hm hq hn).mono ?_
    rintro e w1 ⟨rfl, hb1⟩
    rw [S.out]
    have ho := ownsRow_le (own_empty w1 3 1) hb1.size
    have zB := hb1.size
    go_wp2
    go_loopw [7, 16] (fun v i wr => ∃ (k : Nat) (A' : Option Addr) (n' c' : Nat), k ≤ m ∧ i = .int .i64 k ∧ v = .slice A' n' c' ∧ n' ≤ k ∧ wr.ownsRow w.heap.size 3 1 (.slice A' n' c') n' (ints (bothTo midF p q k)) ∧ Below w.heap.size w wr) (fun _ i _ => m - (intOf i).toNat)
    case atStart => exact ⟨0, _, 0, 0, by omega, rfl, rfl, by omega, ho, hb1.trans ((by go_grown : Below w1.heap.size w1 _).mono zB)⟩
    case round =>
      obtain ⟨k, A', n', c', hk, rfl, rfl, hnb, hown, hbel⟩ := hrel
      clear ho hb1 zB
      by_cases hlt : k < m
      · obtain ⟨b, o, a, rfl, hbB, ha, c0⟩ := hp.int hlt
        obtain ⟨b', o', z, rfl, hbB', hz, c1⟩ := hq.int hlt
        replace c0 := keep_cell hbel c0
        replace c1 := keep_cell hbel c1
        have l1 : (k : Int) < (m : Int) := by omega
        have HS := Lib.hid (bothTo_step (g := midF) ha hz)
        obtain ⟨a1, a2⟩ := inAll_at F3.out ha
        obtain ⟨z1, z2⟩ := inAll_at F4.out hz
        have bA := own_blk hown
        have zw := hbel.size
        have hnm : n' + 1 ≤ 1048576 := by omega
        clear ha hz
        go_wp2
        go_region_held3 (fun w' => w'.cell? ⟨b, o + k, none⟩ = some (.int .i64 a) ∧ w'.cell? ⟨b', o' + k, none⟩ = some (.int .i64 z)) (first | go_keep | exact ⟨k0, k1⟩)
          (first | (go_at_call 45; refine (impl_MiddlePose_1 a1 a2 z1 z2).mono ?_; rintro e w2 ⟨rfl, rfl⟩) | (refine step_app (wr.drewN _) (by rfl) _ _ 22 (by rfl) w.heap.size 3 i0 (.int .i64 0) 1 8 Try.underlying22 hi hz0 hz1 hz2 rfl (by decide) (by rfl) (own_drewN hown _) [.int .i64 (midF a z)] rfl (by simp [Value.oneCell']) (by rfl) (by rfl) (by unfold maxLen; omega) (by omega) zw (by rfl) ?_; intro g2 c2 w2 hown2 hg2; have k0 := grown_keep hg2 bA hbB c0; have k1 := grown_keep hg2 bA hbB' c1))
        clear k0 k1
        go_wp2
        go_roundw
        case rel => exact ⟨k + 1, _, n' + 1, c2, by omega, by go_num, rfl, by omega, by rw [HS.out, ints_append]; exact hown2, bel_apart (below_drewN hbel _) hg2 bA (Nat.le_refl _)⟩
        case measure => simp [intOf]; omega
      · obtain rfl : k = m := by omega
        go_wp2
        go_ret
        exact ⟨A', n', c', rfl, by rw [bothL_yes E.out, hlp]; exact hown, by omega, hbel⟩

theorem impl_HighestPose {A B : Option Addr} {m n c d : Nat} {p q : List Int} {w : World} (hp : Reads w 1 A m (ints p)) (hm : m ≤ 1048576) (hq : Reads w 1 B n (ints q)) (hn : n ≤ 1048576) :
    Calls Try.prog 15 #[.slice A m c, .slice B n d] w fun e w' => ∃ A' n' c', e = .returned (.slice A' n' c') ∧ w'.ownsRow w.heap.size 3 1 (.slice A' n' c') n' (ints (bothL hiF p q)) ∧ n' ≤ 1048576 ∧ Below w.heap.size w w' := by
  go_enter Try.func15, Try.ntmps15
  go_wp2_with fail
  refine (impl_both_HighestPose hp hm hq hn).mono ?_
  rintro e w1 ⟨A', n', c', rfl, hown, hn', hb⟩
  go_wp2
  go_ret
  exact ⟨A', n', c', rfl, hown, hn', hb⟩

theorem impl_LowerPose {A B : Option Addr} {m n c d : Nat} {p q : List Int} {w : World} (hp : Reads w 1 A m (ints p)) (hm : m ≤ 1048576) (hq : Reads w 1 B n (ints q)) (hn : n ≤ 1048576) :
    Calls Try.prog 19 #[.slice A m c, .slice B n d] w fun e w' => ∃ A' n' c', e = .returned (.slice A' n' c') ∧ w'.ownsRow w.heap.size 3 1 (.slice A' n' c') n' (ints (bothL loF p q)) ∧ n' ≤ 1048576 ∧ Below w.heap.size w w' := by
  go_enter Try.func19, Try.ntmps19
  go_wp2_with fail
  refine (impl_both_LowerPose hp hm hq hn).mono ?_
  rintro e w1 ⟨A', n', c', rfl, hown, hn', hb⟩
  go_wp2
  go_ret
  exact ⟨A', n', c', rfl, hown, hn', hb⟩

theorem impl_MiddlePose {A B : Option Addr} {m n c d : Nat} {p q : List Int} {w : World} (hp : Reads w 1 A m (ints p)) (hm : m ≤ 1048576) (hq : Reads w 1 B n (ints q)) (hn : n ≤ 1048576) :
    Calls Try.prog 21 #[.slice A m c, .slice B n d] w fun e w' => ∃ A' n' c', e = .returned (.slice A' n' c') ∧ w'.ownsRow w.heap.size 3 1 (.slice A' n' c') n' (ints (bothL midF p q)) ∧ n' ≤ 1048576 ∧ Below w.heap.size w w' := by
  go_enter Try.func21, Try.ntmps21
  go_wp2_with fail
  refine (impl_both_MiddlePose hp hm hq hn).mono ?_
  rintro e w1 ⟨A', n', c', rfl, hown, hn', hb⟩
  go_wp2
  go_ret
  exact ⟨A', n', c', rfl, hown, hn', hb⟩

end Go.Proofs.Ytcdachkaalkjlaa
