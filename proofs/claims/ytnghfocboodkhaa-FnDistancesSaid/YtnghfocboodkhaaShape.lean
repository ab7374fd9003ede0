/- Contracts of AreSameShape of both sides; no condition beyond the slices' lengths. -/
import Derived.Test.YtnghfocboodkhaaDistI
import Derived.Test.YtnghfocboodkhaaSameI
import Derived.Lib.QuietBelow
namespace Go.Proofs.Ytnghfocboodkhaa
open Go.ChangeShapes Go.WideShapes Go.ChangeAt Go.RowKit Go.Deep Go.Joins
set_option maxRecDepth 100000
open Go.Sort

def rowsSame (N : Nat) (ls ls2 : List Lb) (i : Nat) : Bool := decide (tab (dist N ls i) N = tab (dist N ls2 i) N)
def sameShape (n : Int) (ls : List Lb) (n2 : Int) (ls2 : List Lb) : Bool := (bodyOk n ls && bodyOk n2 ls2) && (decide (n = n2) && (List.range n.toNat).all (rowsSame n.toNat ls ls2))
theorem shape_no1 {n n2 : Int} {ls ls2 : List Lb} (h : bodyOk n ls = false) : sameShape n ls n2 ls2 = false := by simp only [sameShape, h, Bool.false_and]
theorem shape_no2 {n n2 : Int} {ls ls2 : List Lb} (h : bodyOk n2 ls2 = false) : sameShape n ls n2 ls2 = false := by simp only [sameShape, h, Bool.false_and, Bool.and_false]
theorem shape_no3 {n n2 : Int} {ls ls2 : List Lb} (h : n ≠ n2) : sameShape n ls n2 ls2 = false := by
  have : decide (n = n2) = false := decide_eq_false h
  simp only [sameShape, this, Bool.false_and, Bool.and_false]
theorem shape_bad {N : Nat} {n2 : Int} {ls ls2 : List Lb} {i : Nat} (hi : i < N) (h : rowsSame N ls ls2 i = false) : sameShape (N : Int) ls n2 ls2 = false := by
  have : (List.range (N : Int).toNat).all (rowsSame (N : Int).toNat ls ls2) = false := by
    rw [Int.toNat_natCast, Bool.eq_false_iff]
    intro ha
    rw [List.all_eq_true.1 ha i (List.mem_range.2 hi)] at h
    cases h
  simp only [sameShape, this, Bool.and_false]
theorem shape_yes {N : Nat} {ls ls2 : List Lb} (h : bodyOk (N : Int) ls = true) (h2 : bodyOk (N : Int) ls2 = true) (hall : ∀ i, i < N → rowsSame N ls ls2 i = true) : sameShape (N : Int) ls (N : Int) ls2 = true := by
  have h3 : (List.range (N : Int).toNat).all (rowsSame (N : Int).toNat ls ls2) = true := by rw [Int.toNat_natCast]; exact List.all_eq_true.2 fun k hk => hall k (List.mem_range.1 hk)
  simp only [sameShape, h3, h, h2, decide_true, Bool.and_true]
theorem rows_next {N : Nat} {ls ls2 : List Lb} {k : Nat} (h : ∀ i, i < k → rowsSame N ls ls2 i = true) (hk : rowsSame N ls ls2 k = true) : ∀ i, i < k + 1 → rowsSame N ls ls2 i = true := by
  intro i hi
  rcases Nat.lt_or_ge i k with h1 | h1
  · exact h i h1
  · obtain rfl : i = k := by omega
    exact hk
theorem rows_of {N : Nat} {ls ls2 : List Lb} (t : Tree N ls) (t2 : Tree N ls2) (h : ∀ i j, j < i → i < N → dist N ls i j = dist N ls2 i j) : ∀ i, i < N → rowsSame N ls ls2 i = true := by
  intro i hi
  refine decide_eq_true ?_
  unfold tab
  refine List.map_congr_left fun v hv => ?_
  have hv := List.mem_range.1 hv
  rcases Nat.lt_trichotomy v i with hlt | rfl | hlt
  · exact h i v hlt hi
  · rw [t.self hv, t2.self hv]
  · rw [t.symm hi hv, t2.symm hi hv]; exact h v i hlt hv
theorem rows_bad {N : Nat} {ls ls2 : List Lb} {i j : Nat} (hj : j < N) (h : dist N ls i j ≠ dist N ls2 i j) : rowsSame N ls ls2 i = false := by
  refine decide_eq_false fun e => h ?_
  have h1 : (tab (dist N ls i) N)[j]? = some (dist N ls i j) := tab_get _ _ _ hj
  have h2 : (tab (dist N ls2 i) N)[j]? = some (dist N ls2 i j) := tab_get _ _ _ hj
  rw [e] at h1
  rw [h1] at h2
  exact Option.some.inj h2

set_option maxHeartbeats 4000000 in
theorem impl_AreSameShape {n n2 : Int} {A B : Option Addr} {m c q d : Nat} {ls ls2 : List Lb} {w : World} (hr : Reads w 3 A m (lbs ls)) (hm : m ≤ 1048576) (hr2 : Reads w 3 B q (lbs ls2)) (hq : q ≤ 1048576) :
    Calls Try.prog 36 #[.agg #[.int .i64 n, .slice A m c], .agg #[.int .i64 n2, .slice B q d]] w fun e w' => e = .returned (.bool (sameShape n ls n2 ls2)) ∧ Below w.heap.size w w' := by
  have hx := (Row.new w 24 [.int .i64 n, .slice A m c]).alloc (.cells #[.int .i64 n2, .slice B q d] 24)
  have hy := Row.new (w.alloc (.cells #[.int .i64 n, .slice A m c] 24)) 24 [.int .i64 n2, .slice B q d]
  rw [show (w.alloc (.cells #[.int .i64 n, .slice A m c] 24)).heap.size = w.heap.size + 1 from by simp] at hy
  go_enter Try.func36, Try.ntmps36
  go_wp2_with fail
  refine (impl_BodyOk (hr.below (by go_grown)) hm).mono ?_
  rintro e w1 ⟨rfl, hb1⟩
  have hB : Below w.heap.size w w1 := (by go_grown : Below w.heap.size w _).trans (hb1.mono (by simp; omega))
  replace hx := hx.below hb1
  replace hy := hy.below hb1
  clear hb1
  rcases Bool.eq_false_or_eq_true (bodyOk n ls) with hbo | hbo
  rotate_left
  · have S := Lib.hid (shape_no1 (n2 := n2) (ls2 := ls2) hbo)
    rw [hbo]
    clear hbo hx hy
    go_wp2
    go_ret
    exact ⟨ret_bool S.out.symm, hB⟩
  rw [hbo]
  have HO := Lib.hid hbo
  clear hbo
  have q0 := hy.cell_ (i := 0) rfl
  have q1 := hy.cell_ (i := 1) rfl
  go_wp2_with fail
  refine (impl_BodyOk (hr2.below hB) hq).mono ?_
  rintro e w2 ⟨rfl, hb2⟩
  have hB2 := hB.trans (hb2.mono hB.size)
  replace hx := hx.below hb2
  replace hy := hy.below hb2
  clear q0 q1 hb2 hB
  rcases Bool.eq_false_or_eq_true (bodyOk n2 ls2) with hbo | hbo
  rotate_left
  · have S := Lib.hid (shape_no2 (n := n) (ls := ls) hbo)
    rw [hbo]
    clear hbo hx hy
    go_wp2
    go_ret
    exact ⟨ret_bool S.out.symm, hB2⟩
  rw [hbo]
  have HO2 := Lib.hid hbo
  clear hbo
  have p0 := hx.cell_ (i := 0) rfl
  have q0 := hy.cell_ (i := 0) rfl
  by_cases hne : n = n2
  rotate_left
  · have S := Lib.hid (shape_no3 (ls := ls) (ls2 := ls2) hne)
    have e1 : (n == n2) = false := by simp [hne]
    have e2 : (n != n2) = true := by simp [hne]
    clear hne
    go_wp2
    go_ret
    exact ⟨ret_bool S.out.symm, hB2⟩
  subst hne
  obtain ⟨h1, h2, h3, t⟩ := tree_of HO.out
  obtain ⟨_, _, h4, t2⟩ := tree_of HO2.out
  obtain ⟨N, rfl⟩ := Int.eq_ofNat_of_zero_le (show 0 ≤ n by omega)
  rw [Int.toNat_natCast] at t t2
  have T := Lib.hid t
  have T2 := Lib.hid t2
  clear t t2 h3 h4
  go_wp2
  clear p0 q0
  go_loopw [23] (fun i wr => ∃ k : Nat, k ≤ N ∧ i = .int .i64 k ∧ (∀ i, i < k → rowsSame N ls ls2 i = true) ∧ Row wr w.heap.size 24 [.int .i64 N, .slice A m c] ∧ Row wr (w.heap.size + 1) 24 [.int .i64 N, .slice B q d] ∧ Below w.heap.size w wr) (fun i _ => N - (intOf i).toNat)
  case atStart => exact ⟨0, by omega, rfl, fun i hi => absurd hi (by omega), hx, hy, hB2⟩
  case round =>
    clear hx hy hB2
    obtain ⟨k, hk, rfl, hall, hx, hy, hbel⟩ := hrel
    have HA := Lib.hid hall
    clear hall
    by_cases hlt : k < N
    · have p0 := hx.cell_ (i := 0) rfl
      have p1 := hx.cell_ (i := 1) rfl
      have q0 := hy.cell_ (i := 0) rfl
      have q1 := hy.cell_ (i := 1) rfl
      have hyl := hy.lt
      go_wp2
      go_region_held3 (fun w' => w'.cell? ⟨w.heap.size, 0, none⟩ = some (.int .i64 (N : Int)) ∧ w'.cell? ⟨w.heap.size, 1, none⟩ = some (.slice A m c) ∧ w'.cell? ⟨w.heap.size + 1, 0, none⟩ = some (.int .i64 (N : Int)) ∧ w'.cell? ⟨w.heap.size + 1, 1, none⟩ = some (.slice B q d))
        (first | go_keep | exact ⟨k0, k1, k2, k3⟩ | exact ⟨m0, m1, m2, m3⟩ | exact ⟨l0, l1, l2, l3⟩)
        (first | (go_at_call_of 56 (Value.slice A m c); refine (impl_distances (S := k) ((hr.below hbel).below (by go_grown)) T.out.ok (by omega) hm rfl hlt).mono ?_; rintro e w2 ⟨g1, rfl, o1, hb1⟩; have k0 := keep_cell hb1 p0; have k1 := keep_cell hb1 p1; have k2 := keep_cell hb1 q0; have k3 := keep_cell hb1 q1) | (go_at_call_of 56 (Value.slice B q d); refine (impl_distances (S := k) (((hr2.below hbel).below (by go_grown)).below hb1) T2.out.ok (by omega) hq rfl hlt).mono ?_; rintro e w3 ⟨g2, rfl, o2, hb2⟩; have m0 := keep_cell hb2 k0; have m1 := keep_cell hb2 k1; have m2 := keep_cell hb2 k2; have m3 := keep_cell hb2 k3) | (go_at_call 61; refine (impl_sameInts ((Reads.of_own o1).below hb2) (Reads.of_own o2) (by omega) (by omega)).mono ?_; rintro e w4 ⟨rfl, q4, rfl⟩; have l0 := m0; have l1 := m1; have l2 := m2; have l3 := m3))
      have hb := below_of_drew (Below.trans hb1 (hb2.mono hb1.size))
      have hbel3 := below_drewN (hbel.trans (hb.mono hbel.size)) q4
      have hx3 := (hx.below hb).drewN q4
      have hy3 := (hy.below hb).drewN q4
      clear hb1 hb2 hb o1 o2
      rcases Bool.eq_false_or_eq_true (rowsSame N ls ls2 k) with hs | hs
      · have HN := Lib.hid (rows_next HA.out hs)
        rw [show decide (tab (dist N ls k) N = tab (dist N ls2 k) N) = true from hs]
        clear hs
        go_wp2
        go_roundw
        case rel => exact ⟨k + 1, by omega, by go_num, HN.out, hx3, hy3, hbel3⟩
        case measure => simp [intOf]; omega
      · have S := Lib.hid (shape_bad (n2 := (N : Int)) hlt hs)
        rw [show decide (tab (dist N ls k) N = tab (dist N ls2 k) N) = false from hs]
        clear hs
        go_wp2
        go_ret
        exact ⟨ret_bool S.out.symm, hbel3⟩
    · obtain rfl : k = N := by omega
      have S := Lib.hid (shape_yes HO.out HO2.out HA.out)
      have p0 := hx.cell_ (i := 0) rfl
      go_wp2
      go_ret
      exact ⟨ret_bool S.out.symm, hbel⟩

theorem same_next {N : Nat} {ls ls2 : List Lb} {k j : Nat} (h : ∀ v, v < j → dist N ls k v = dist N ls2 k v) (hk : dist N ls k j = dist N ls2 k j) : ∀ v, v < j + 1 → dist N ls k v = dist N ls2 k v := by
  intro v hv
  rcases Nat.lt_or_ge v j with h1 | h1
  · exact h v h1
  · obtain rfl : v = j := by omega
    exact hk
theorem same_rows {N : Nat} {ls ls2 : List Lb} {k : Nat} (h : ∀ i, i < k → ∀ v, v < i → dist N ls i v = dist N ls2 i v) (hk : ∀ v, v < k → dist N ls k v = dist N ls2 k v) : ∀ i, i < k + 1 → ∀ v, v < i → dist N ls i v = dist N ls2 i v := by
  intro i hi
  rcases Nat.lt_or_ge i k with h1 | h1
  · exact h i h1
  · obtain rfl : i = k := by omega
    exact hk
theorem distOf_in {N i j : Nat} {ls : List Lb} (h : bodyOk (N : Int) ls = true) (hi : i < N) (hj : j < N) : distOf (N : Int) ls (i : Int) (j : Int) = dist N ls i j := by
  have e1 : isJ (N : Int) ls (i : Int) = true := by simp only [isJ, h, Bool.true_and]; exact decide_eq_true (by omega)
  have e2 : isJ (N : Int) ls (j : Int) = true := by simp only [isJ, h, Bool.true_and]; exact decide_eq_true (by omega)
  simp [distOf, e1, e2]

set_option maxHeartbeats 4000000 in
theorem spec_AreSameShape {n n2 : Int} {A B : Option Addr} {m c q d : Nat} {ls ls2 : List Lb} {w : World} (hr : Reads w 3 A m (lbs ls)) (hm : m ≤ 1048576) (hr2 : Reads w 3 B q (lbs ls2)) (hq : q ≤ 1048576) :
    Calls Try.prog 35 #[.agg #[.int .i64 n, .slice A m c], .agg #[.int .i64 n2, .slice B q d]] w fun e w' => e = .returned (.bool (sameShape n ls n2 ls2)) ∧ Below w.heap.size w w' := by
  have hx := (Row.new w 24 [.int .i64 n, .slice A m c]).alloc (.cells #[.int .i64 n2, .slice B q d] 24)
  have hy := Row.new (w.alloc (.cells #[.int .i64 n, .slice A m c] 24)) 24 [.int .i64 n2, .slice B q d]
  rw [show (w.alloc (.cells #[.int .i64 n, .slice A m c] 24)).heap.size = w.heap.size + 1 from by simp] at hy
  go_enter Try.func35, Try.ntmps35
  go_wp2_with fail
  refine (spec_BodyOk (hr.below (by go_grown)) hm).mono ?_
  rintro e w1 ⟨rfl, hb1⟩
  have hB : Below w.heap.size w w1 := (by go_grown : Below w.heap.size w _).trans (hb1.mono (by simp; omega))
  replace hx := hx.below hb1
  replace hy := hy.below hb1
  clear hb1
  rcases Bool.eq_false_or_eq_true (bodyOk n ls) with hbo | hbo
  rotate_left
  · have S := Lib.hid (shape_no1 (n2 := n2) (ls2 := ls2) hbo)
    rw [hbo]
    clear hbo hx hy
    go_wp2
    go_ret
    exact ⟨ret_bool S.out.symm, hB⟩
  rw [hbo]
  have HO := Lib.hid hbo
  clear hbo
  have q0 := hy.cell_ (i := 0) rfl
  have q1 := hy.cell_ (i := 1) rfl
  go_wp2_with fail
  refine (spec_BodyOk (hr2.below hB) hq).mono ?_
  rintro e w2 ⟨rfl, hb2⟩
  have hB2 := hB.trans (hb2.mono hB.size)
  replace hx := hx.below hb2
  replace hy := hy.below hb2
  clear q0 q1 hb2 hB
  rcases Bool.eq_false_or_eq_true (bodyOk n2 ls2) with hbo | hbo
  rotate_left
  · have S := Lib.hid (shape_no2 (n := n) (ls := ls) hbo)
    rw [hbo]
    clear hbo hx hy
    go_wp2
    go_ret
    exact ⟨ret_bool S.out.symm, hB2⟩
  rw [hbo]
  have HO2 := Lib.hid hbo
  clear hbo
  have p0 := hx.cell_ (i := 0) rfl
  have q0 := hy.cell_ (i := 0) rfl
  by_cases hne : n = n2
  rotate_left
  · have S := Lib.hid (shape_no3 (ls := ls) (ls2 := ls2) hne)
    have e1 : (n == n2) = false := by simp [hne]
    have e2 : (n != n2) = true := by simp [hne]
    clear hne
    go_wp2
    go_ret
    exact ⟨ret_bool S.out.symm, hB2⟩
  subst hne
  obtain ⟨h1, h2, h3, t⟩ := tree_of HO.out
  obtain ⟨_, _, h4, t2⟩ := tree_of HO2.out
  obtain ⟨N, rfl⟩ := Int.eq_ofNat_of_zero_le (show 0 ≤ n by omega)
  rw [Int.toNat_natCast] at t t2
  have T := Lib.hid t
  have T2 := Lib.hid t2
  clear t t2 h3 h4
  go_wp2
  clear p0 q0
  go_loopw [5, 6] (fun i _ wr => ∃ k : Nat, k ≤ N ∧ i = .int .i64 k ∧ (∀ i, i < k → ∀ v, v < i → dist N ls i v = dist N ls2 i v) ∧ Row wr w.heap.size 24 [.int .i64 N, .slice A m c] ∧ Row wr (w.heap.size + 1) 24 [.int .i64 N, .slice B q d] ∧ Below w.heap.size w wr) (fun i _ _ => N - (intOf i).toNat)
  case atStart => exact ⟨0, by omega, rfl, fun i hi => absurd hi (by omega), hx, hy, hB2⟩
  case round =>
    clear hx hy hB2
    obtain ⟨k, hk, rfl, hall, hx, hy, hbel⟩ := hrel
    have HA := Lib.hid hall
    clear hall
    have p0 := hx.cell_ (i := 0) rfl
    by_cases hlt : k < N
    · go_wp2
      clear p0
      generalize hG : wr.heap.size = G at *
      go_loopw [6] (fun j wr => ∃ v : Nat, v ≤ k ∧ j = .int .i64 v ∧ (∀ u, u < v → dist N ls k u = dist N ls2 k u) ∧ Row wr w.heap.size 24 [.int .i64 N, .slice A m c] ∧ Row wr (w.heap.size + 1) 24 [.int .i64 N, .slice B q d] ∧ Below w.heap.size w wr) (fun j _ => k - (intOf j).toNat)
      case atStart => exact ⟨0, by omega, rfl, fun i hi => absurd hi (by omega), hx, hy, hbel⟩
      case round =>
        clear hx hy hbel
        obtain ⟨v, hv, rfl, hall, hx, hy, hbel⟩ := hrel
        have HV := Lib.hid hall
        clear hall
        by_cases hvk : v < k
        · have hvN : v < N := by omega
          have p0 := cell_regrown (hx.cell_ (i := 0) rfl)
          have p1 := cell_regrown (hx.cell_ (i := 1) rfl)
          have q0 := cell_regrown (hy.cell_ (i := 0) rfl)
          have q1 := cell_regrown (hy.cell_ (i := 1) rfl)
          have c1 : ∀ d0 os, Calls Try.prog 26 #[.agg #[.int .i64 (N : Int), .slice A m c], .int .i64 (k : Int), .int .i64 (v : Int)] (grow (redrawn wr d0) os) fun e w' => e = .returned (.int .i64 (distOf N ls k v)) ∧ ∃ p : Regrown, w' = grow (redrawn wr p.d) p.os :=
            fun d0 os => Calls.regrown_of (spec_DistanceOf ((hr.below hbel).below (below_regrown wr d0 os)) hm)
          have c2 : ∀ d0 os, Calls Try.prog 26 #[.agg #[.int .i64 (N : Int), .slice B q d], .int .i64 (k : Int), .int .i64 (v : Int)] (grow (redrawn wr d0) os) fun e w' => e = .returned (.int .i64 (distOf N ls2 k v)) ∧ ∃ p : Regrown, w' = grow (redrawn wr p.d) p.os :=
            fun d0 os => Calls.regrown_of (spec_DistanceOf ((hr2.below hbel).below (below_regrown wr d0 os)) hq)
          rw [distOf_in HO.out hlt hvN] at c1
          rw [distOf_in HO2.out hlt hvN] at c2
          obtain ⟨D1, hD1⟩ : ∃ D, D = dist N ls k v := ⟨_, rfl⟩
          obtain ⟨D2, hD2⟩ : ∃ D, D = dist N ls2 k v := ⟨_, rfl⟩
          rw [← hD1] at c1
          rw [← hD2] at c2
          have HD1 := Lib.hid hD1
          have HD2 := Lib.hid hD2
          clear hD1 hD2
          by_cases hDD : D1 = D2
          · have HN := Lib.hid (same_next HV.out (by rw [← HD1.out, ← HD2.out]; exact hDD))
            subst hDD
            go_wp2
            refine wp_region_quiet_below (by kernel_rfl) (by kernel_rfl) ?_
            repeat (go_big_quiet_step ((first | (go_at_call_of 26 (Value.slice A m c); exact c1 _ _) | (go_at_call_of 26 (Value.slice B q d); exact c2 _ _))))
            refine wpQuiet_nil ?_
            intro _ hw'
            obtain ⟨⟨dq, osq⟩, hw''⟩ := hw'
            subst hw''
            clear p0 p1 q0 q1 c1 c2
            go_wp2
            go_roundw
            case rel => exact ⟨v + 1, by omega, by go_num, HN.out, hx.below (below_regrown wr dq osq), hy.below (below_regrown wr dq osq), hbel.trans ((below_regrown wr dq osq).mono hbel.size)⟩
            case measure => simp [intOf]; omega
          · have S := Lib.hid (shape_bad (n2 := (N : Int)) (ls2 := ls2) hlt (rows_bad (ls := ls) (ls2 := ls2) (i := k) (j := v) hvN (by rw [← HD1.out, ← HD2.out]; exact hDD)))
            have e1 : (D1 == D2) = false := by simp [hDD]
            have e2 : (D1 != D2) = true := by simp [hDD]
            clear hDD
            go_wp2
            refine wp_region_quiet_below (by kernel_rfl) (by kernel_rfl) ?_
            repeat (go_big_quiet_step ((first | (go_at_call_of 26 (Value.slice A m c); exact c1 _ _) | (go_at_call_of 26 (Value.slice B q d); exact c2 _ _))))
            refine wpQuiet_nil ?_
            intro _ hw'
            obtain ⟨⟨dq, osq⟩, hw''⟩ := hw'
            subst hw''
            clear p0 p1 q0 q1 c1 c2
            go_wp2
            go_ret
            exact ⟨ret_bool S.out.symm, hbel.trans ((below_regrown wr dq osq).mono hbel.size)⟩
        · obtain rfl : v = k := by omega
          have HN := Lib.hid (same_rows HA.out HV.out)
          go_wp2
          go_roundw
          case rel => exact ⟨v + 1, by omega, by go_num, HN.out, hx, hy, hbel⟩
          case measure => simp [intOf]; omega
    · obtain rfl : k = N := by omega
      have S := Lib.hid (shape_yes HO.out HO2.out (rows_of T.out T2.out fun i j hj hi => HA.out i hi j hj))
      go_wp2
      go_ret
      exact ⟨ret_bool S.out.symm, hbel⟩
end Go.Proofs.Ytnghfocboodkhaa
