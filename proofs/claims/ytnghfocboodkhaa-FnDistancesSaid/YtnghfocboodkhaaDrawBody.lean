/- The draw of a valid body; no condition beyond the length of the code. -/
import Derived.Test.YtnghfocboodkhaaDraw2
import Derived.Test.YtnghfocboodkhaaBodyS
import Derived.Test.YtnghfocboodkhaaSample
namespace Go.Proofs.Ytnghfocboodkhaa
open Go.ChangeShapes Go.WideShapes Go.ChangeAt Go.RowKit Go.Deep Go.Joins
set_option maxRecDepth 100000

theorem info_dl : (Try.prog.info? 52).map (fun i => (i.zero, i.size, i.bytes)) = some (some (.agg #[.int .i64 0, .int .i64 0, .int .i64 0]), 3, 24) := by kernel_rfl
theorem lbs_one (ls : List Lb) : ∀ u ∈ lbs ls, u.oneCell' = true := by
  intro u hu
  simp only [lbs, List.mem_flatMap] at hu
  obtain ⟨x, _, hx⟩ := hu
  simp only [Lb.cs, List.mem_cons, List.not_mem_nil, or_false] at hx
  rcases hx with rfl | rfl | rfl <;> rfl
theorem sample_ok : bodyOk 7 sampleLbs = true := by decide +kernel
theorem one_ok : bodyOk 1 [] = true := by decide +kernel
theorem body_short {n : Int} {ls : List Lb} (h : bodyOk n ls = true) : 1 ≤ n ∧ n ≤ 12 ∧ (ls.length : Int) = n - 1 := by
  obtain ⟨h1, h2, h3, _⟩ := tree_of h
  exact ⟨h1, h2, h3⟩

/-- A body in memory of the call's own. -/
def OwnBody (w : World) (base : Nat) (n : Int) (ls : List Lb) (e : Ending) (w' : World) : Prop :=
  ∃ (A : Option Addr) (m c : Nat), e = .returned (.agg #[.int .i64 n, .slice A m c]) ∧ w'.ownsRow base 52 3 (.slice A m c) m (lbs ls) ∧ Below w.heap.size w w'

theorem own_row_ne {w : World} {base size n c g : Nat} {e t : TypeId} {A : Option Addr} {xs cs : List Value} (h : w.ownsRow base e size (.slice A n c) n xs) (hr : Row w g t cs) (hne : e ≠ t) : A ≠ some ⟨g, 0, none⟩ := by
  rintro rfl
  rcases h.2 with ⟨hv, _⟩ | ⟨g1, cap, cur, hv, _, hh, _⟩
  · cases hv
  · have e1 : g = g1 := by
      injection hv with hv
      injection hv with hv
      injection hv
    subst e1
    unfold Row at hr
    rw [hr] at hh
    injection hh with hh
    injection hh with _ ht
    exact hne ht.symm
theorem own_set_row {w : World} {base size n c g i : Nat} {e t : TypeId} {A : Option Addr} {xs cs : List Value} (h : w.ownsRow base e size (.slice A n c) n xs) (hr : Row w g t cs) (hne : e ≠ t) (u : Value) : (w.setCell ⟨g, i, none⟩ u).ownsRow base e size (.slice A n c) n xs :=
  own_grown h (grown_setCell (World.grownBy.refl w (some g)) (p := ⟨g, i, none⟩) (.inl rfl) u) fun g' e' hc => by
    injection hc with hc
    subst hc
    exact own_row_ne h hr hne e'

set_option maxHeartbeats 4000000 in
theorem spec_l02Copy {n : Int} {A : Option Addr} {m c : Nat} {ls : List Lb} {w : World} (hr : Reads w 3 A m (lbs ls)) (hm : m ≤ 1048576) :
    Calls Try.prog 73 #[.agg #[.int .i64 n, .slice A m c]] w (OwnBody w w.heap.size n ls) := by
  obtain ⟨i0, hi, hz0, hz1, hz2⟩ := info_parts info_dl
  have hbx := (Row.new w 24 [.int .i64 n, .slice A m c]).alloc (.cells #[.int .i64 0, .slice none 0 0] 24)
  have hzr := Row.new (w.alloc (.cells #[.int .i64 n, .slice A m c] 24)) 24 [.int .i64 0, .slice none 0 0]
  rw [World.size_alloc] at hzr
  have hb0 : Below w.heap.size w ((w.alloc (.cells #[.int .i64 n, .slice A m c] 24)).alloc (.cells #[.int .i64 0, .slice none 0 0] 24)) := by go_grown
  have hz : ((w.alloc (.cells #[.int .i64 n, .slice A m c] 24)).alloc (.cells #[.int .i64 0, .slice none 0 0] 24)).heap.size = w.heap.size + 1 + 1 := by simp
  go_enter Try.func73, Try.ntmps73
  go_wp2
  generalize (w.alloc (.cells #[.int .i64 n, .slice A m c] 24)).alloc (.cells #[.int .i64 0, .slice none 0 0] 24) = W at *
  have HZ := Lib.hid hz
  have hrW := hr.below hb0
  have zl : w.heap.size + 1 < W.heap.size := by omega
  have zl0 : w.heap.size < W.heap.size := by omega
  have b0 := hbx.cell_ (i := 0) rfl
  have b1 := hbx.cell_ (i := 1) rfl
  have r0 := hzr.cell_ (i := 0) rfl
  have r1 := hzr.cell_ (i := 1) rfl
  have f0 := hzr.frozen 0
  have f1 := hzr.frozen 1
  have hlen : ls.length = m := by have := hr.1; rw [lbs_length] at this; omega
  have HLEN := Lib.hid hlen
  have ba : Below W.heap.size W (W.alloc (.cells #[] 52)).drew := by go_grown
  have oa : (W.alloc (.cells #[] 52)).drew.ownsRow W.heap.size 52 3 (.slice (some ⟨W.heap.size, 0, none⟩) 0 0) 0 [] := own_row0 (Row.new W 52 []) (Nat.le_refl _)
  have rd := hrW.below ba
  have b0' := keep_cell ba b0
  have b1' := keep_cell ba b1
  have HZR := Lib.hid hzr
  clear hz hlen
  go_region_held3 (fun w' => w'.cell? ⟨w.heap.size, 0, none⟩ = some (.int .i64 n) ∧ w'.cell? ⟨w.heap.size, 1, none⟩ = some (.slice A m c))
    (first | go_keep | exact ⟨k0, k1⟩)
    (first
      | ((with_reducible refine step_appl (w := (W.alloc (.cells #[] 52)).drew) (o := ⟨some 8, _, _, _, _, _⟩) (d := c) m (lbs ls) ?_ (.tmp 5) (.tmp 7) 22 ?_ W.heap.size 52 i0 (.agg #[.int .i64 0, .int .i64 0, .int .i64 0]) 3 24 Try.underlying22 hi hz0 hz1 hz2 ?_ ?_ ?_ oa ?_ rd (lbs_one _) ?_ ?_ ?_ ?_ ?_ ?_); rfl; rfl; rfl; decide; rfl; rfl; (unfold maxLen; omega); omega; exact ba.size; omega; rfl; intro A3 c3 w3 hown3 hg3; have k0 := grown_keep hg3 (own_blk oa) zl0 b0'; have k1 := grown_keep hg3 (own_blk oa) zl0 b1'; have rz := (HZR.out.below ba).grown hg3 (by intro hc; have hc2 : w.heap.size + 1 = W.heap.size := Option.some.inj hc; omega); have s0 := rz.cell_ (i := 0) rfl; have s1 := rz.cell_ (i := 1) rfl; have f2 := rz.frozen 0; have f3 := rz.frozen 1)
      | (fail "no arm"))
  clear k0 k1
  have hb3 : Below w.heap.size w w3 := bel_apart (hb0.trans (ba.mono (by omega))) hg3 (own_blk oa) (by omega)
  go_wp2
  refine bodyPost_ret (v := .agg #[.int .i64 n, .slice A3 m c3]) (by simp [results, Try.results73, go_sem, s0, s1]) rfl ⟨A3, m, c3, rfl, ?_, ?_⟩
  · exact ownsRow_le (ownsRow_setCell_below (ownsRow_setCell_below hown3 zl _) zl _) (by omega)
  · exact (hb3.setCell (by simp) _).setCell (by simp) _
/-- A valid body in memory of the call's own. -/
def AnyBody (w : World) (e : Ending) (w' : World) : Prop :=
  ∃ (n : Int) (ls : List Lb) (A : Option Addr) (m c : Nat), e = .returned (.agg #[.int .i64 n, .slice A m c]) ∧ w'.ownsRow w.heap.size 52 3 (.slice A m c) m (lbs ls) ∧ bodyOk n ls = true ∧ Below w.heap.size w w'
def AnyBody2 (w : World) (e : Ending) (w' : World) : Prop :=
  ∃ (n : Int) (ls : List Lb) (A : Option Addr) (m c : Nat) (ok : Bool), e = .returned (.tuple #[.agg #[.int .i64 n, .slice A m c], .bool ok]) ∧ w'.ownsRow w.heap.size 52 3 (.slice A m c) m (lbs ls) ∧ bodyOk n ls = true ∧ Below w.heap.size w w'

set_option maxHeartbeats 4000000 in
theorem spec_AddLimb {n j len : Int} {A : Option Addr} {m c : Nat} {ls : List Lb} {w : World} (hr : Reads w 3 A m (lbs ls)) (hm : m ≤ 1048576) (hok : bodyOk n ls = true) (j0 : 0 ≤ j) (j1 : j ≤ n - 1) :
    Calls Try.prog 71 #[.agg #[.int .i64 n, .slice A m c], .int .i64 j, .int .i64 len] w (AnyBody2 w) := by
  obtain ⟨h1, h12, hlen⟩ := body_short hok
  have hm12 : m ≤ 12 := by have := hr.1; rw [lbs_length] at this; omega
  obtain ⟨i0, hi, hz0, hz1, hz2⟩ := info_parts info_dl
  have hx := (Row.new w 24 [.int .i64 n, .slice A m c]).alloc (.cells #[.int .i64 0, .slice none 0 0] 24)
  have hzr := Row.new (w.alloc (.cells #[.int .i64 n, .slice A m c] 24)) 24 [.int .i64 0, .slice none 0 0]
  rw [World.size_alloc] at hzr
  have HOK := Lib.hid hok
  clear hok hlen
  go_enter Try.func71, Try.ntmps71
  go_wp2_with fail
  refine (spec_BodyOk (hr.below (by go_grown)) hm).mono ?_
  rintro e w1 ⟨rfl, hb1⟩
  rw [HOK.out]
  have hB : Below w.heap.size w w1 := (by go_grown : Below w.heap.size w _).trans (hb1.mono (by simp; omega))
  replace hx := hx.below hb1
  replace hzr := hzr.below hb1
  clear hb1
  have q0 := hx.cell_ (i := 0) rfl
  have q1 := hx.cell_ (i := 1) rfl
  go_wp2_with fail
  refine (l01In_t _ _ _ _ j0 j1).mono ?_
  rintro e w' ⟨rfl, rfl⟩
  go_wp2_with fail
  refine (spec_l02Copy (hr.below hB) hm).mono ?_
  rintro e w3 ⟨A3, m3, c3, rfl, ho3, hb3⟩
  obtain rfl : m3 = m := by have h5 := ho3.1; have h6 := hr.1; rw [lbs_length] at h5 h6; omega
  have zx := hzr.lt
  replace hx := hx.below hb3
  replace hzr := hzr.below hb3
  have hB3 := hB.trans (hb3.mono hB.size)
  have bA := own_blk ho3
  have z3 := hb3.size
  clear q0 q1 hb3
  have q0 := hx.cell_ (i := 0) rfl
  have q1 := hx.cell_ (i := 1) rfl
  have zl0 : w.heap.size < w3.heap.size := by omega
  have zl1 : w.heap.size + 1 < w3.heap.size := by omega
  have rb := Row.new w3 24 [.int .i64 (n + 1), .slice A3 m3 c3]
  have hoW := ho3.alloc (.cells #[.int .i64 (n + 1), .slice A3 m3 c3] 24)
  have hxW := hx.alloc (.cells #[.int .i64 (n + 1), .slice A3 m3 c3] 24)
  have hzW := hzr.alloc (.cells #[.int .i64 (n + 1), .slice A3 m3 c3] 24)
  have hBW := hB3.alloc hB3.size (.cells #[.int .i64 (n + 1), .slice A3 m3 c3] 24)
  have HRB := Lib.hid rb
  have HX := Lib.hid hxW
  have HZ := Lib.hid hzW
  clear rb hxW hzW hx hzr
  go_wp2_with (at_builtin; refine wp_app rfl _ _ 22 rfl w1.heap.size 52 i0 (.agg #[.int .i64 0, .int .i64 0, .int .i64 0]) 3 24 Try.underlying22 hi hz0 hz1 hz2 rfl (by decide) rfl hoW [.int .i64 j, .int .i64 n, .int .i64 len] rfl (by simp [Value.oneCell']) rfl (by simp) (by unfold maxLen; omega) (by omega) (by simp; omega) ?_; intro A5 c5 w5 hown5 hg5; have rb5 := row_apart HRB.out hg5 bA (by omega); have rx5 := row_apart HX.out hg5 bA (by omega); have rz5 := row_apart HZ.out hg5 bA (by omega); have s0 := rb5.cell_ (i := 0) rfl; have s1 := rb5.cell_ (i := 1) rfl; have f0 := rb5.frozen 0; have f1 := rb5.frozen 1)
  have hown6 := own_set_row (i := 1) hown5 rb5 (by decide) (.slice A5 (m3 + 1) c5)
  have rb6 := rb5.set 1 (.slice A5 (m3 + 1) c5)
  have rx6 := rx5.far (p := ⟨w3.heap.size, 1, none⟩) (by simp; omega) (.slice A5 (m3 + 1) c5)
  have rz6 := rz5.far (p := ⟨w3.heap.size, 1, none⟩) (by simp; omega) (.slice A5 (m3 + 1) c5)
  have hb6 := (bel_apart hBW hg5 bA (by omega)).setCell (p := ⟨w3.heap.size, 1, none⟩) (by simp; omega) (.slice A5 (m3 + 1) c5)
  simp only [List.set_cons_succ, List.set_cons_zero] at rb6
  clear s0 s1 f0 f1 rb5 rx5 rz5 hg5 hown5 hBW hoW q0 q1
  rw [show lbs ls ++ [.int .i64 j, .int .i64 n, .int .i64 len] = lbs (ls ++ [⟨j, n, len⟩]) by simp [lbs, Lb.cs]] at hown6
  generalize w5.setCell ⟨w3.heap.size, 1, none⟩ (.slice A5 (m3 + 1) c5) = w6 at *
  refine (spec_BodyOk (Reads.of_own hown6) (by omega)).mono ?_
  rintro e w7 ⟨rfl, hb7⟩
  have hown7 := own_below hown6 hb7
  have rb7 := rb6.below hb7
  have rx7 := rx6.below hb7
  have rz7 := rz6.below hb7
  have hB7 := hb6.trans (hb7.mono hb6.size)
  clear hown6 rb6 rx6 rz6 hb6 hb7
  cases hbo : bodyOk (n + 1) (ls ++ [⟨j, n, len⟩]) with
  | false =>
    clear hbo
    have q0 := rx7.cell_ (i := 0) rfl
    have q1 := rx7.cell_ (i := 1) rfl
    go_wp2_with fail
    refine (spec_l02Copy (hr.below hB7) hm).mono ?_
    rintro e w8 ⟨A8, m8, c8, rfl, ho8, hb8⟩
    have rz8 := rz7.below hb8
    have zz := rz7.lt
    have zb := hb8.size
    have s0 := rz8.cell_ (i := 0) rfl
    have s1 := rz8.cell_ (i := 1) rfl
    have f0 := rz8.frozen 0
    have f1 := rz8.frozen 1
    have hB8 := hB7.trans (hb8.mono hB7.size)
    clear q0 q1
    go_wp2
    refine bodyPost_ret (v := .tuple #[.agg #[.int .i64 n, .slice A8 m8 c8], .bool false]) (by simp [results, Try.results71, go_sem, s0, s1]) rfl ⟨n, ls, A8, m8, c8, false, rfl, ?_, HOK.out, ?_⟩
    · exact ownsRow_le (ownsRow_setCell_below (ownsRow_setCell_below ho8 zz _) zz _) (by omega)
    · exact (hB8.setCell (by simp) _).setCell (by simp) _
  | true =>
    have HBO := Lib.hid hbo
    clear hbo
    have q0 := rb7.cell_ (i := 0) rfl
    have q1 := rb7.cell_ (i := 1) rfl
    have s0 := rz7.cell_ (i := 0) rfl
    have s1 := rz7.cell_ (i := 1) rfl
    have f0 := rz7.frozen 0
    have f1 := rz7.frozen 1
    go_wp2
    refine bodyPost_ret (v := .tuple #[.agg #[.int .i64 (n + 1), .slice A5 (m3 + 1) c5], .bool true]) (by simp [results, Try.results71, go_sem, s0, s1]) rfl ⟨n + 1, _, A5, m3 + 1, c5, true, rfl, ?_, HBO.out, ?_⟩
    · exact ownsRow_le (ownsRow_setCell_below (ownsRow_setCell_below hown7 zx _) zx _) (by omega)
    · exact (hB7.setCell (by simp) _).setCell (by simp) _
end Go.Proofs.Ytnghfocboodkhaa
