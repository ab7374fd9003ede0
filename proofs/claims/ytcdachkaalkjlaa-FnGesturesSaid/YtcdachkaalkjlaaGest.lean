/- Contracts of IsGesture of both sides; no condition beyond the slices' lengths. -/
import Derived.Test.YtcdachkaalkjlaaPose
import Derived.Test.YtcdachkaalkjlaaSS2
import Derived.Lib.QuietBelow
namespace Go.Proofs.Ytcdachkaalkjlaa
open Go.ChangeShapes Go.WideShapes Go.ChangeAt Go.RowKit Go.Deep Go.Joins
set_option maxRecDepth 100000
open Go.Sort

def gestK (n : Int) (ls : List Lb) (pss : List (List Int)) (most : Int) (k : Nat) : Bool :=
  poseOk n ls (pss.getD k []) && (decide (k = 0) || decide (stepSize (pss.getD (k - 1) []) (pss.getD k []) ≤ most))
def gestOk (n : Int) (ls : List Lb) (pss : List (List Int)) (most : Int) : Bool :=
  decide (1 ≤ pss.length ∧ pss.length ≤ 20) && (decide (0 ≤ most ∧ most ≤ 4000) && (List.range pss.length).all (gestK n ls pss most))
theorem gest_len {n : Int} {ls : List Lb} {pss : List (List Int)} {most : Int} (h : ¬ (1 ≤ pss.length ∧ pss.length ≤ 20)) : gestOk n ls pss most = false := by
  have : decide (1 ≤ pss.length ∧ pss.length ≤ 20) = false := decide_eq_false h
  simp only [gestOk, this, Bool.false_and]
theorem gest_most {n : Int} {ls : List Lb} {pss : List (List Int)} {most : Int} (h : ¬ (0 ≤ most ∧ most ≤ 4000)) : gestOk n ls pss most = false := by
  have : decide (0 ≤ most ∧ most ≤ 4000) = false := decide_eq_false h
  simp only [gestOk, this, Bool.false_and, Bool.and_false]
theorem gest_bad {n : Int} {ls : List Lb} {pss : List (List Int)} {most : Int} {k : Nat} (hk : k < pss.length) (h : gestK n ls pss most k = false) : gestOk n ls pss most = false := by
  have : (List.range pss.length).all (gestK n ls pss most) = false := by
    rw [Bool.eq_false_iff]
    intro ha
    rw [List.all_eq_true.1 ha k (List.mem_range.2 hk)] at h
    cases h
  simp only [gestOk, this, Bool.and_false]
theorem gest_yes {n : Int} {ls : List Lb} {pss : List (List Int)} {most : Int} (h : 1 ≤ pss.length ∧ pss.length ≤ 20) (h2 : 0 ≤ most ∧ most ≤ 4000) (hall : ∀ k, k < pss.length → gestK n ls pss most k = true) : gestOk n ls pss most = true := by
  have h3 : (List.range pss.length).all (gestK n ls pss most) = true := List.all_eq_true.2 fun k hk => hall k (List.mem_range.1 hk)
  simp only [gestOk, h3, decide_eq_true h, decide_eq_true h2, Bool.and_true]
theorem gest_body {n : Int} {ls : List Lb} {pss : List (List Int)} {most : Int} (h : bodyOk n ls = false) : gestOk n ls pss most = false := by
  by_cases hl : 1 ≤ pss.length ∧ pss.length ≤ 20
  · exact gest_bad (k := 0) (by omega) (by simp only [gestK, poseOk_no1 h, Bool.false_and])
  · exact gest_len hl
theorem gestK_pose {n : Int} {ls : List Lb} {pss : List (List Int)} {most : Int} {k : Nat} {xs : List Int} (hx : pss[k]? = some xs) (h : poseOk n ls xs = false) : gestK n ls pss most k = false := by
  simp only [gestK, List.getD, hx, Option.getD_some, h, Bool.false_and]
theorem gestK_0 {n : Int} {ls : List Lb} {pss : List (List Int)} {most : Int} {xs : List Int} (hx : pss[0]? = some xs) (h : poseOk n ls xs = true) : gestK n ls pss most 0 = true := by
  simp only [gestK, List.getD, hx, Option.getD_some, h, Bool.true_and, decide_true, Bool.true_or]
theorem gestK_s {n : Int} {ls : List Lb} {pss : List (List Int)} {most : Int} {k j : Nat} {xs ys : List Int} (hj : k = j + 1) (hx : pss[k]? = some xs) (hy : pss[j]? = some ys) (h : poseOk n ls xs = true) : gestK n ls pss most k = decide (stepSize ys xs ≤ most) := by
  subst hj
  simp only [gestK, List.getD, hx, Option.getD_some, h, Bool.true_and, Nat.add_sub_cancel, hy, Nat.add_eq_zero_iff, Nat.one_ne_zero, and_false, decide_false, Bool.false_or]
theorem gest_next {n : Int} {ls : List Lb} {pss : List (List Int)} {most : Int} {k : Nat} (h : ∀ i, i < k → gestK n ls pss most i = true) (hk : gestK n ls pss most k = true) : ∀ i, i < k + 1 → gestK n ls pss most i = true := by
  intro i hi
  rcases Nat.lt_or_ge i k with h1 | h1
  · exact h i h1
  · obtain rfl : i = k := by omega
    exact hk

set_option maxHeartbeats 4000000 in
theorem impl_IsGesture {n most : Int} {A B : Option Addr} {m c q d : Nat} {ls : List Lb} {pss : List (List Int)} {w : World} (hr : Reads w 3 A m (lbs ls)) (hm : m ≤ 1048576) (hp : ReadsSS w B q pss) (hq : q + totSS pss ≤ 1048576) :
    Calls Try.prog 27 #[.agg #[.int .i64 n, .slice A m c], .slice B q d, .int .i64 most] w fun e w' => e = .returned (.bool (gestOk n ls pss most)) ∧ Below w.heap.size w w' := by
  have hlen := hp.len
  have hx := Row.new w 37 [.int .i64 n, .slice A m c]
  go_enter Try.func27, Try.ntmps27
  go_wp2_with fail
  refine (impl_BodyOk (hr.below (by go_grown)) hm).mono ?_
  rintro e w1 ⟨rfl, hb1⟩
  have hB : Below w.heap.size w w1 := (by go_grown : Below w.heap.size w _).trans (hb1.mono (by simp))
  have hx1 := hx.below hb1
  clear hb1 hx
  rcases Bool.eq_false_or_eq_true (bodyOk n ls) with hbo | hbo
  rotate_left
  · have S := Lib.hid (gest_body (pss := pss) (most := most) hbo)
    rw [hbo]
    clear hbo
    go_wp2
    go_ret
    exact ⟨ret_bool S.out.symm, hB⟩
  rw [hbo]
  clear hbo
  by_cases hL : 1 ≤ pss.length ∧ pss.length ≤ 20
  rotate_left
  · have S := Lib.hid (gest_len (n := n) (ls := ls) (most := most) hL)
    have hL2 : (q : Int) < 1 ∨ 20 < (q : Int) := by omega
    clear hL hlen
    go_wp2_with (go_at_call 51; refine (within_f _ _ _ _ hL2).mono ?_; rintro e w' ⟨rfl, rfl⟩)
    go_ret
    exact ⟨ret_bool S.out.symm, hB⟩
  have HL := Lib.hid hL
  have l1 : (1 : Int) ≤ (q : Int) := by omega
  have l2 : (q : Int) ≤ 20 := by omega
  by_cases hM : 0 ≤ most ∧ most ≤ 4000
  rotate_left
  · have S := Lib.hid (gest_most (n := n) (ls := ls) (pss := pss) hM)
    have hM2 : most < 0 ∨ 4000 < most := by omega
    clear hL hlen hM
    go_wp2_with fail
    refine (within_t _ _ _ _ l1 l2).mono ?_
    rintro e w' ⟨rfl, rfl⟩
    go_wp2_with fail
    refine (within_f _ _ _ _ hM2).mono ?_
    rintro e w' ⟨rfl, rfl⟩
    go_wp2
    go_ret
    exact ⟨ret_bool S.out.symm, hB⟩
  have HM := Lib.hid hM
  obtain ⟨m1, m2⟩ := hM
  have HLEN := Lib.hid hlen
  clear hL hlen
  go_wp2_with fail
  refine (within_t _ _ _ _ l1 l2).mono ?_
  rintro e w' ⟨rfl, rfl⟩
  go_wp2_with fail
  refine (within_t _ _ _ _ m1 m2).mono ?_
  rintro e w' ⟨rfl, rfl⟩
  go_wp2
  go_loopw [25] (fun i wr => ∃ k : Nat, k ≤ q ∧ i = .int .i64 k ∧ (∀ i, i < k → gestK n ls pss most i = true) ∧ Row wr w.heap.size 37 [.int .i64 n, .slice A m c] ∧ Below w.heap.size w wr) (fun i _ => q - (intOf i).toNat)
  case atStart => exact ⟨0, by omega, rfl, fun i hi => absurd hi (by omega), hx1, hB⟩
  case round =>
    clear hx1 hB
    obtain ⟨k, hk, rfl, hall, hbx, hbel⟩ := hrel
    have HA := Lib.hid hall
    clear hall
    by_cases hlt : k < q
    · have hp1 := hp.below hbel
      obtain ⟨b, o, r, xs, rfl, hbB, hxk, c0, hr0, hr1⟩ := hp1.row hlt
      have hrn : r.n ≤ 1048576 := by have := totSS_row hxk; omega
      have HX := Lib.hid hxk
      have q0 := hbx.cell_ (i := 0) rfl
      have q1 := hbx.cell_ (i := 1) rfl
      clear hr1 hxk
      go_wp2_with fail
      refine (impl_PoseOk (hr.below hbel) hm hr0 hrn).mono ?_
      rintro e w2 ⟨rfl, hb2⟩
      have hbel2 := hbel.trans (hb2.mono hbel.size)
      have hbx2 := hbx.below hb2
      have c0' := keep_cell hb2 c0
      have hr0' := hr0.below hb2
      clear q0 q1 c0 hr0 hbx
      rcases Bool.eq_false_or_eq_true (poseOk n ls xs) with hpo | hpo
      rotate_left
      · have S := Lib.hid (gest_bad (by have := HLEN.out; omega) (gestK_pose (most := most) HX.out hpo))
        rw [hpo]
        clear hpo
        go_wp2
        go_ret
        exact ⟨ret_bool S.out.symm, hbel2⟩
      rw [hpo]
      have HP := Lib.hid hpo
      clear hpo
      rcases Nat.eq_zero_or_pos k with h0 | h0
      · subst h0
        have HN := Lib.hid (gest_next HA.out (gestK_0 (most := most) HX.out HP.out))
        go_wp2
        go_roundw
        case rel => exact ⟨1, by omega, by go_num, HN.out, hbx2, hbel2⟩
        case measure => simp [intOf]; omega
      · obtain ⟨j, hj⟩ : ∃ j, k = j + 1 := ⟨k - 1, by omega⟩
        have hj2 : j < q := by omega
        obtain ⟨b', o', s, ys, e', hbB', hyj, c1, hs0, hs1⟩ := (hp1.below hb2).row hj2
        injection e' with e'
        injection e' with e1 e2
        subst e1 e2
        have hsn : s.n ≤ 1048576 := by have := totSS_row hyj; omega
        have w1' : IntKind.i64.wrap ((k : Int) - 1) = (j : Int) := by rw [IntWalk.i64_in _ (by omega)]; omega
        have k0 : (0 : Int) < (k : Int) := by omega
        have l3 : (j : Int) < (q : Int) := by omega
        have HK := Lib.hid (gestK_s (most := most) hj HX.out hyj HP.out)
        obtain ⟨M, hMM⟩ : ∃ M, M = stepSize ys xs := ⟨_, rfl⟩
        have HMM := Lib.hid hMM
        clear hs1 hyj hj hMM
        go_wp2_with fail
        refine (impl_StepSize hs0 hsn hr0' hrn).mono ?_
        rintro e w3 ⟨rfl, hb3⟩
        have hbel3 := hbel2.trans (hb3.mono hbel2.size)
        have hbx3 := hbx2.below hb3
        rw [← HMM.out]
        by_cases hle : M ≤ most
        · have HN := Lib.hid (gest_next HA.out (by rw [HK.out, ← HMM.out]; exact decide_eq_true hle))
          go_wp2
          go_roundw
          case rel => exact ⟨k + 1, by omega, by go_num, HN.out, hbx3, hbel3⟩
          case measure => simp [intOf]; omega
        · have S := Lib.hid (gest_bad (by have := HLEN.out; omega) (show gestK n ls pss most k = false by rw [HK.out, ← HMM.out]; exact decide_eq_false hle))
          have hlt2 : most < M := by omega
          clear hle
          go_wp2
          go_ret
          exact ⟨ret_bool S.out.symm, hbel3⟩
    · obtain rfl : k = q := by omega
      have S := Lib.hid (gest_yes HL.out HM.out (fun i hi => HA.out i (by have := HLEN.out; omega)))
      go_wp2
      go_ret
      exact ⟨ret_bool S.out.symm, hbel⟩

set_option maxHeartbeats 4000000 in
theorem spec_IsGesture {n most : Int} {A B : Option Addr} {m c q d : Nat} {ls : List Lb} {pss : List (List Int)} {w : World} (hr : Reads w 3 A m (lbs ls)) (hm : m ≤ 1048576) (hp : ReadsSS w B q pss) (hq : q + totSS pss ≤ 1048576) :
    Calls Try.prog 24 #[.agg #[.int .i64 n, .slice A m c], .slice B q d, .int .i64 most] w fun e w' => e = .returned (.bool (gestOk n ls pss most)) ∧ Below w.heap.size w w' := by
  have hlen := hp.len
  have hx := Row.new w 37 [.int .i64 n, .slice A m c]
  by_cases hL : 1 ≤ pss.length ∧ pss.length ≤ 20
  rotate_left
  · have S := Lib.hid (gest_len (n := n) (ls := ls) (most := most) hL)
    have hL2 : (q : Int) < 1 ∨ 20 < (q : Int) := by omega
    clear hL hlen
    go_enter Try.func24, Try.ntmps24
    go_wp2_with (go_at_call 39; refine (l01In_f _ _ _ _ hL2).mono ?_; rintro e w' ⟨rfl, rfl⟩)
    go_ret
    exact ⟨ret_bool S.out.symm, by go_grown⟩
  have HL := Lib.hid hL
  have l1 : (1 : Int) ≤ (q : Int) := by omega
  have l2 : (q : Int) ≤ 20 := by omega
  by_cases hM : 0 ≤ most ∧ most ≤ 4000
  rotate_left
  · have S := Lib.hid (gest_most (n := n) (ls := ls) (pss := pss) hM)
    have hM2 : most < 0 ∨ 4000 < most := by omega
    clear hL hlen hM
    go_enter Try.func24, Try.ntmps24
    go_wp2_with fail
    refine (l01In_t _ _ _ _ l1 l2).mono ?_
    rintro e w' ⟨rfl, rfl⟩
    go_wp2_with fail
    refine (l01In_f _ _ _ _ hM2).mono ?_
    rintro e w' ⟨rfl, rfl⟩
    go_wp2
    go_ret
    exact ⟨ret_bool S.out.symm, by go_grown⟩
  have HM := Lib.hid hM
  obtain ⟨m1, m2⟩ := hM
  have HLEN := Lib.hid hlen
  clear hL hlen
  go_enter Try.func24, Try.ntmps24
  go_wp2_with fail
  refine (l01In_t _ _ _ _ l1 l2).mono ?_
  rintro e w' ⟨rfl, rfl⟩
  go_wp2_with fail
  refine (l01In_t _ _ _ _ m1 m2).mono ?_
  rintro e w' ⟨rfl, rfl⟩
  go_wp2
  go_loopw [7] (fun i wr => ∃ k : Nat, k ≤ q ∧ i = .int .i64 k ∧ (∀ i, i < k → gestK n ls pss most i = true) ∧ Row wr w.heap.size 37 [.int .i64 n, .slice A m c] ∧ Below w.heap.size w wr) (fun i _ => q - (intOf i).toNat)
  case atStart => exact ⟨0, by omega, rfl, fun i hi => absurd hi (by omega), hx, by go_grown⟩
  case round =>
    clear hx
    obtain ⟨k, hk, rfl, hall, hbx, hbel⟩ := hrel
    have HA := Lib.hid hall
    clear hall
    by_cases hlt : k < q
    · have hp1 := hp.below hbel
      obtain ⟨b, o, r, xs, rfl, hbB, hxk, c0, hr0, hr1⟩ := hp1.row hlt
      have hrn : r.n ≤ 1048576 := by have := totSS_row hxk; omega
      have HX := Lib.hid hxk
      have q0 := cell_regrown (hbx.cell_ (i := 0) rfl)
      have q1 := cell_regrown (hbx.cell_ (i := 1) rfl)
      have c0' := cell_regrown c0
      have ll : (k : Int) < (q : Int) := by omega
      have cP : ∀ d os, Calls Try.prog 37 #[.agg #[.int .i64 n, .slice A m c], .slice r.A r.n r.c] (grow (redrawn wr d) os) fun e w' => e = .returned (.bool (poseOk n ls xs)) ∧ ∃ p : Regrown, w' = grow (redrawn wr p.d) p.os :=
        fun d os => Calls.regrown_of (spec_PoseOk ((hr.below hbel).below (below_regrown wr d os)) hm (hr0.below (below_regrown wr d os)) hrn)
      clear hr1 hxk c0
      rcases Bool.eq_false_or_eq_true (poseOk n ls xs) with hpo | hpo
      rotate_left
      · have S := Lib.hid (gest_bad (by have := HLEN.out; omega) (gestK_pose (most := most) HX.out hpo))
        rw [hpo] at cP
        clear hpo
        go_wp2
        refine wp_region_quiet_below (by kernel_rfl) (by kernel_rfl) ?_
        repeat (go_big_quiet_step ((go_at_call 37; exact cP _ _)))
        refine wpQuiet_nil ?_
        intro _ hw'
        obtain ⟨⟨dq, osq⟩, hw''⟩ := hw'
        subst hw''
        go_wp2
        go_ret
        exact ⟨ret_bool S.out.symm, hbel.trans ((below_regrown wr dq osq).mono hbel.size)⟩
      have HP := Lib.hid hpo
      rw [hpo] at cP
      clear hpo
      rcases Nat.eq_zero_or_pos k with h0 | h0
      · subst h0
        have HN := Lib.hid (gest_next HA.out (gestK_0 (most := most) HX.out HP.out))
        simp only [Nat.add_zero] at c0'
        go_wp2
        refine wp_region_quiet_below (by kernel_rfl) (by kernel_rfl) ?_
        repeat (go_big_quiet_step ((go_at_call 37; exact cP _ _)))
        refine wpQuiet_nil ?_
        intro _ hw'
        obtain ⟨⟨dq, osq⟩, hw''⟩ := hw'
        subst hw''
        go_wp2
        go_roundw
        case rel => exact ⟨1, by omega, by go_num, HN.out, hbx.below (below_regrown wr dq osq), hbel.trans ((below_regrown wr dq osq).mono hbel.size)⟩
        case measure => simp [intOf]; omega
      · obtain ⟨j, hj⟩ : ∃ j, k = j + 1 := ⟨k - 1, by omega⟩
        have hj2 : j < q := by omega
        obtain ⟨b', o', s, ys, e', hbB', hyj, c1, hs0, hs1⟩ := hp1.row hj2
        injection e' with e'
        injection e' with e1 e2
        subst e1 e2
        have hsn : s.n ≤ 1048576 := by have := totSS_row hyj; omega
        have w1' : IntKind.i64.wrap ((k : Int) - 1) = (j : Int) := by rw [IntWalk.i64_in _ (by omega)]; omega
        have k0' : (0 : Int) < (k : Int) := by omega
        have l3 : (j : Int) < (q : Int) := by omega
        have c1' := cell_regrown c1
        have HK := Lib.hid (gestK_s (most := most) hj HX.out hyj HP.out)
        have cS : ∀ d os, Calls Try.prog 10 #[.slice s.A s.n s.c, .slice r.A r.n r.c] (grow (redrawn wr d) os) fun e w' => e = .returned (.int .i64 (stepSize ys xs)) ∧ ∃ p : Regrown, w' = grow (redrawn wr p.d) p.os :=
          fun d os => Calls.regrown_of (spec_StepSize (hs0.below (below_regrown wr d os)) hsn (hr0.below (below_regrown wr d os)) hrn)
        obtain ⟨M, hMM⟩ : ∃ M, M = stepSize ys xs := ⟨_, rfl⟩
        rw [← hMM] at cS
        have HMM := Lib.hid hMM
        clear hs1 hyj hj hMM c1 hr0 hs0
        by_cases hle : M ≤ most
        · have HN := Lib.hid (gest_next HA.out (by rw [HK.out, ← HMM.out]; exact decide_eq_true hle))
          go_wp2
          refine wp_region_quiet_below (by kernel_rfl) (by kernel_rfl) ?_
          repeat (go_big_quiet_step ((first | (go_at_call 37; exact cP _ _) | (go_at_call 10; exact cS _ _))))
          refine wpQuiet_nil ?_
          intro _ hw'
          obtain ⟨⟨dq, osq⟩, hw''⟩ := hw'
          subst hw''
          go_wp2
          go_roundw
          case rel => exact ⟨k + 1, by omega, by go_num, HN.out, hbx.below (below_regrown wr dq osq), hbel.trans ((below_regrown wr dq osq).mono hbel.size)⟩
          case measure => simp [intOf]; omega
        · have S := Lib.hid (gest_bad (by have := HLEN.out; omega) (show gestK n ls pss most k = false by rw [HK.out, ← HMM.out]; exact decide_eq_false hle))
          have hlt2 : most < M := by omega
          clear hle
          go_wp2
          refine wp_region_quiet_below (by kernel_rfl) (by kernel_rfl) ?_
          repeat (go_big_quiet_step ((first | (go_at_call 37; exact cP _ _) | (go_at_call 10; exact cS _ _))))
          refine wpQuiet_nil ?_
          intro _ hw'
          obtain ⟨⟨dq, osq⟩, hw''⟩ := hw'
          subst hw''
          go_wp2
          go_ret
          exact ⟨ret_bool S.out.symm, hbel.trans ((below_regrown wr dq osq).mono hbel.size)⟩
    · obtain rfl : k = q := by omega
      have S := Lib.hid (gest_yes HL.out HM.out (fun i hi => HA.out i (by have := HLEN.out; omega)))
      go_wp2
      go_ret
      exact ⟨ret_bool S.out.symm, hbel⟩
end Go.Proofs.Ytcdachkaalkjlaa
