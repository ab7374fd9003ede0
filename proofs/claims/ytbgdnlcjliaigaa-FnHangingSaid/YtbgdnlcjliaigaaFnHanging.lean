/- The given law FnHanging: the program and the reference agree for all arguments and share no memory, so the law returns true; no condition. -/
import Derived.Test.YtbgdnlcjliaigaaHangKit
namespace Go.Proofs.Ytbgdnlcjliaigaa.FnHanging
open Go.ChangeShapes Go.WideShapes Go.ChangeAt Go.RowKit Go.Deep Go.Joins
open Go.Sort
set_option maxRecDepth 100000

set_option maxHeartbeats 1000000 in
theorem walk (A_code : Option Addr) (n_code c_code : Nat) (xs_code : List Int) (w : World) (hr_code : Reads w 1 A_code n_code (u8s xs_code)) (hm_code : n_code ≤ 9223372036854775807) (hb_code : ∀ x ∈ xs_code, 0 ≤ x ∧ x ≤ 255) :
    Calls Try.prog 9 #[.slice A_code n_code c_code] w fun e w' => e = .returned (.bool true) ∧ Below w.heap.size w w' := by
  by_cases hbig : 1048576 < n_code
  · have D : Hid (decide (1048576 < n_code) = true) := Lib.hid (decide_eq_true hbig)
    clear hbig
    go_enter Try.func9, Try.ntmps9
    go_wp2_with fail
    refine (laws_big hm_code).mono ?_
    rintro e w1 ⟨rfl, rfl⟩
    rw [D.out]
    go_wp2
    go_ret
    exact ⟨rfl, Below.refl _ _⟩
  have D : Hid (decide (1048576 < n_code) = false) := Lib.hid (decide_eq_false hbig)
  have hn : n_code ≤ 1048576 := by omega
  clear hbig
  go_enter Try.func9, Try.ntmps9
  go_wp2_with fail
  refine (laws_big hm_code).mono ?_
  rintro e w1 ⟨rfl, rfl⟩
  rw [D.out]
  clear D
  go_wp2_with fail
  refine (spec_DrawHung hr_code hb_code hn).mono ?_
  rintro e w1 ⟨N, ls, B, m, d, C, f, ps, rfl, hol, hop, hpo, hb⟩
  have hpf := pullsFacts hpo
  obtain ⟨n1, n12, hll, htr⟩ := tree_of hpf.body
  rw [Int.toNat_natCast] at htr
  have hpl := own_len hop
  have hml : m = ls.length := by have := hol.1; rw [lbs_length] at this; omega
  have hm : m ≤ 1048576 := by omega
  have hN : N ≤ 1048576 := by omega
  have hN12 : N ≤ 12 := by omega
  have T := Lib.hid htr
  have HPO := Lib.hid hpo
  have HPL := Lib.hid hpl
  have HH : Hid (hangPose (N : Int) ls ps = tab (hangF N ls ps) N) := Lib.hid (hangPose_yes hpo)
  have HP1 : Hid (poseOk (N : Int) ls (tab (hangF N ls ps) N) = true) := Lib.hid (by rw [← HH.out]; exact hang_pose hpo)
  have HP2 : Hid (isHeld (N : Int) ls ps (tab (hangF N ls ps) N) = true) := Lib.hid (by rw [← HH.out]; exact hang_held hpo)
  have rl := (Reads.of_own hol).below (by go_grown : Below w1.heap.size w1 (w1.alloc (.cells #[.int .i64 (N : Int), .slice B m d] 30)))
  have rp := (Reads.of_own hop).below (by go_grown : Below w1.heap.size w1 (w1.alloc (.cells #[.int .i64 (N : Int), .slice B m d] 30)))
  have hx := Row.new w1 30 [.int .i64 (N : Int), .slice B m d]
  have hB := hb.alloc hb.size (.cells #[.int .i64 (N : Int), .slice B m d] 30)
  clear hol hop hpf htr hpl hml hpo hll hb
  go_wp2_with fail
  refine (impl_HangPose rl hm rp hN).mono ?_
  rintro e w2 ⟨A5, n5, c5, rfl, ho5, hn5, hb⟩
  rw [HH.out] at ho5
  have h5 := own_len ho5
  rw [tab_length] at h5
  subst h5
  have r5 := Reads.of_own ho5
  replace rl := rl.below hb
  replace rp := rp.below hb
  replace hx := hx.below hb
  replace hB := hB.trans (hb.mono hB.size)
  clear hb
  clear ho5
  have q0 := hx.cell_ (i := 0) rfl
  have q1 := hx.cell_ (i := 1) rfl
  go_wp2_with fail
  refine (impl_PoseOk rl hm r5 hN).mono ?_
  rintro e w3 ⟨rfl, hb⟩
  rw [HP1.out]
  replace rl := rl.below hb
  replace rp := rp.below hb
  replace r5 := r5.below hb
  replace hx := hx.below hb
  replace hB := hB.trans (hb.mono hB.size)
  clear hb
  clear q0 q1
  have q0 := hx.cell_ (i := 0) rfl
  have q1 := hx.cell_ (i := 1) rfl
  go_wp2_with fail
  refine (impl_IsHeld rl hm rp hN r5 hN).mono ?_
  rintro e w4 ⟨rfl, hb⟩
  rw [HP2.out]
  replace rl := rl.below hb
  replace rp := rp.below hb
  replace r5 := r5.below hb
  replace hx := hx.below hb
  replace hB := hB.trans (hb.mono hB.size)
  clear hb
  clear q0 q1
  have q0 := hx.cell_ (i := 0) rfl
  have q1 := hx.cell_ (i := 1) rfl
  go_wp2_with fail
  refine (impl_SlackStrings rl hm rp hN).mono ?_
  rintro e w5 ⟨A6, n6, c6, rfl, ho6, hn6, hb⟩
  rw [slackS_yes HPO.out] at ho6
  have r6 := Reads.of_own ho6
  replace rl := rl.below hb
  replace rp := rp.below hb
  replace r5 := r5.below hb
  replace hx := hx.below hb
  replace hB := hB.trans (hb.mono hB.size)
  clear hb
  clear q0 q1 ho6
  have zx := hx.lt
  go_wp2
  go_loopw [7] (fun jv wr => ∃ j : Nat, j ≤ n5 ∧ jv = .int .i64 j ∧ Row wr w1.heap.size 30 [.int .i64 (n5 : Int), .slice B m d] ∧ Below w5.heap.size w5 wr) (fun jv _ => n5 - (intOf jv).toNat)
  case atStart => exact ⟨0, by omega, rfl, hx, Below.refl _ _⟩
  case round =>
    clear hx
    obtain ⟨j, hj, rfl, hx, hbel⟩ := hrel
    have q0 := hx.cell_ (i := 0) rfl
    have q1 := hx.cell_ (i := 1) rfl
    by_cases hlt : j < n5
    · have l5 := r5.below hbel
      have lp := rp.below hbel
      have l6 := r6.below hbel
      have ll := rl.below hbel
      obtain ⟨b, o, pv, hC, hbB, hxp, cp⟩ := lp.int hlt
      obtain ⟨b', o', hv, hA5, hbB', hxh, ch⟩ := l5.int hlt
      have hhv : hangF n5 ls ps j = hv := by rw [tab_get _ n5 j hlt] at hxh; exact Option.some.inj hxh
      have hbd := hangF_bd T.out HPO.out hlt
      rw [hhv] at hbd
      have hge : 0 ≤ pv → pv ≤ hv := fun h0 => by
        have := hang_ge (N := n5) (ls := ls) (j := j) hxp h0 n5 hlt
        rw [T.out.self hlt] at this
        unfold hangF at hhv
        omega
      have hmem : decide ((j : Int) ∈ slackTo ps (tab (hangF n5 ls ps) n5) n5) = decide (0 ≤ pv ∧ pv < hv) := by
        rw [← slackB_at hxp hxh, Bool.eq_iff_iff, decide_eq_true_iff]
        exact slack_mem hlt
      have hlow := lower_not HPO.out hlt
      rw [HH.out, hhv] at hlow
      have HLOW := Lib.hid hlow
      subst hC hA5
      have jlt : (j : Int) < (n5 : Int) := by omega
      have cH : ∀ dd os, Calls Try.prog 35 #[.slice A6 n6 c6, .int .i64 (j : Int)] (grow (redrawn wr dd) os) fun e w' => e = .returned (.bool (decide (0 ≤ pv ∧ pv < hv))) ∧ ∃ p : Regrown, w' = grow (redrawn wr p.d) p.os :=
        fun dd os => by rw [← hmem]; exact Calls.regrown_of (laws_has (l6.below (below_regrown wr dd os)) hn6)
      have cp' := cell_regrown cp
      have ch' := cell_regrown ch
      have HXH := Lib.hid hxh
      have jl : j < (tab (hangF n5 ls ps) n5).length := by rw [tab_length]; exact hlt
      have JL := Lib.hid jl
      clear hxp hxh hhv hmem hlow jl
      by_cases hp0 : 0 ≤ pv
      · have hp1 := hge hp0
        have g1 : decide (0 ≤ pv) = true := decide_eq_true hp0
        have g2 : decide (hv < pv) = false := decide_eq_false (by omega)
        by_cases hp2 : pv < hv
        · have g3 : decide (pv < hv) = true := decide_eq_true hp2
          rw [show decide (0 ≤ pv ∧ pv < hv) = true from decide_eq_true ⟨hp0, hp2⟩] at cH
          clear hge hp0 hp1 hp2
          go_wp2
          refine wp_region_quiet_below (by kernel_rfl) (by kernel_rfl) ?_
          repeat (go_big_quiet_step ((go_at_call 35; exact cH _ _)))
          refine wpQuiet_nil ?_
          intro _ hw'
          obtain ⟨⟨dq, osq⟩, hw''⟩ := hw'
          subst hw''
          clear cH cp' ch' cp
          have hbr := below_regrown wr dq osq
          have hbel2 := hbel.trans (hbr.mono hbel.size)
          have hx2 := hx.below hbr
          have l52 := l5.below hbr
          have ch2 := keep_cell hbr ch
          have lp2 := lp.below hbr
          have ll2 := ll.below hbr
          clear hbr l5 lp ll ch q0 q1
          generalize grow (redrawn wr dq) osq = W at *
          obtain ⟨i0, hi, hz0, hz1, hz2⟩ := info_parts info_ho
          have hoE := own_empty W 3 1
          have chE := keep_cell (by go_grown : Below W.heap.size W (W.alloc (.cells #[] 3))) ch2
          have zxW := hx2.lt
          have bdW : b' < W.heap.size := World.block_lt_of_cell? W _ ch2
          go_wp2_with (at_builtin; refine wp_appn rfl _ _ 25 rfl W.heap.size 3 i0 (.int .i64 0) 1 8 Try.underlying25 hi hz0 hz1 hz2 rfl (by decide) rfl hoE rfl (l52.below (by go_grown)) (ints_one _) (by unfold maxLen; omega) (by omega) (by simp) ?_; intro A8 c8 w8 hown8 hg8; rw [Nat.zero_add, List.nil_append] at hown8; obtain ⟨g8, rfl, hg80, hg81⟩ := own_form hown8 (by omega); have ch8 := grown_keep hg8 (own_blk hoE) bdW chE; have d0 := own_int hown8 HXH.out; have f0 := own_frozen hown8 JL.out; have hx8 := (hx2.alloc (.cells #[] 3)).grown hg8 (by intro hc; have hc2 : w1.heap.size = W.heap.size := Option.some.inj hc; omega); have q0 := hx8.cell_ (i := 0) rfl; have q1 := hx8.cell_ (i := 1) rfl; have ne8 : w1.heap.size ≠ g8 := (by omega); have ne9 : g8 ≠ w1.heap.size := (by omega))
          have hb8 : Below W.heap.size W w8 := bel_apart (by go_grown) hg8 (own_blk hoE) (Nat.le_refl _)
          have hown9 := own_setI hown8 JL.out (hv - 1)
          have hx9 := hx8.far (p := ⟨g8, j, none⟩) ne8 (.int .i64 (hv - 1))
          have hb9 := hb8.setCell (p := ⟨g8, j, none⟩) hg80 (.int .i64 (hv - 1))
          clear hown8 hg8 hx8 hb8 hoE chE ch8 d0 f0 q0 q1
          generalize w8.setCell ⟨g8, j, none⟩ (.int .i64 (hv - 1)) = W9 at *
          refine (impl_IsHeld (ll2.below hb9) hm (lp2.below hb9) hN (Reads.of_own hown9) hN).mono ?_
          rintro e W10 ⟨rfl, hb⟩
          rw [HLOW.out]
          have hx10 := hx9.below hb
          have hbel10 := hbel2.trans ((hb9.trans (hb.mono hb9.size)).mono hbel2.size)
          clear hb hb9 hown9 hx9
          go_wp2
          go_roundw
          case rel => exact ⟨j + 1, by omega, by go_num, hx10, hbel10⟩
          case measure => simp [intOf]; omega
        · have g3 : decide (pv < hv) = false := decide_eq_false hp2
          rw [show decide (0 ≤ pv ∧ pv < hv) = false from decide_eq_false (by omega)] at cH
          clear hge hp0 hp1 hp2
          go_wp2
          refine wp_region_quiet_below (by kernel_rfl) (by kernel_rfl) ?_
          repeat (go_big_quiet_step ((go_at_call 35; exact cH _ _)))
          refine wpQuiet_nil ?_
          intro _ hw'
          obtain ⟨⟨dq, osq⟩, hw''⟩ := hw'
          subst hw''
          clear cH cp' ch' cp
          have hbr := below_regrown wr dq osq
          have hbel2 := hbel.trans (hbr.mono hbel.size)
          have hx2 := hx.below hbr
          have l52 := l5.below hbr
          have ch2 := keep_cell hbr ch
          have lp2 := lp.below hbr
          have ll2 := ll.below hbr
          clear hbr l5 lp ll ch q0 q1
          generalize grow (redrawn wr dq) osq = W at *
          obtain ⟨i0, hi, hz0, hz1, hz2⟩ := info_parts info_ho
          have hoE := own_empty W 3 1
          have chE := keep_cell (by go_grown : Below W.heap.size W (W.alloc (.cells #[] 3))) ch2
          have zxW := hx2.lt
          have bdW : b' < W.heap.size := World.block_lt_of_cell? W _ ch2
          go_wp2_with (at_builtin; refine wp_appn rfl _ _ 25 rfl W.heap.size 3 i0 (.int .i64 0) 1 8 Try.underlying25 hi hz0 hz1 hz2 rfl (by decide) rfl hoE rfl (l52.below (by go_grown)) (ints_one _) (by unfold maxLen; omega) (by omega) (by simp) ?_; intro A8 c8 w8 hown8 hg8; rw [Nat.zero_add, List.nil_append] at hown8; obtain ⟨g8, rfl, hg80, hg81⟩ := own_form hown8 (by omega); have ch8 := grown_keep hg8 (own_blk hoE) bdW chE; have d0 := own_int hown8 HXH.out; have f0 := own_frozen hown8 JL.out; have hx8 := (hx2.alloc (.cells #[] 3)).grown hg8 (by intro hc; have hc2 : w1.heap.size = W.heap.size := Option.some.inj hc; omega); have q0 := hx8.cell_ (i := 0) rfl; have q1 := hx8.cell_ (i := 1) rfl; have ne8 : w1.heap.size ≠ g8 := (by omega); have ne9 : g8 ≠ w1.heap.size := (by omega))
          have hb8 : Below W.heap.size W w8 := bel_apart (by go_grown) hg8 (own_blk hoE) (Nat.le_refl _)
          have hown9 := own_setI hown8 JL.out (hv - 1)
          have hx9 := hx8.far (p := ⟨g8, j, none⟩) ne8 (.int .i64 (hv - 1))
          have hb9 := hb8.setCell (p := ⟨g8, j, none⟩) hg80 (.int .i64 (hv - 1))
          clear hown8 hg8 hx8 hb8 hoE chE ch8 d0 f0 q0 q1
          generalize w8.setCell ⟨g8, j, none⟩ (.int .i64 (hv - 1)) = W9 at *
          refine (impl_IsHeld (ll2.below hb9) hm (lp2.below hb9) hN (Reads.of_own hown9) hN).mono ?_
          rintro e W10 ⟨rfl, hb⟩
          rw [HLOW.out]
          have hx10 := hx9.below hb
          have hbel10 := hbel2.trans ((hb9.trans (hb.mono hb9.size)).mono hbel2.size)
          clear hb hb9 hown9 hx9
          go_wp2
          go_roundw
          case rel => exact ⟨j + 1, by omega, by go_num, hx10, hbel10⟩
          case measure => simp [intOf]; omega
      · have g1 : decide (0 ≤ pv) = false := decide_eq_false hp0
        rw [show decide (0 ≤ pv ∧ pv < hv) = false from decide_eq_false (by omega)] at cH
        clear hge hp0
        go_wp2
        refine wp_region_quiet_below (by kernel_rfl) (by kernel_rfl) ?_
        repeat (go_big_quiet_step ((go_at_call 35; exact cH _ _)))
        refine wpQuiet_nil ?_
        intro _ hw'
        obtain ⟨⟨dq, osq⟩, hw''⟩ := hw'
        subst hw''
        clear cH cp' ch' cp
        have hbr := below_regrown wr dq osq
        have hbel2 := hbel.trans (hbr.mono hbel.size)
        have hx2 := hx.below hbr
        have l52 := l5.below hbr
        have ch2 := keep_cell hbr ch
        have lp2 := lp.below hbr
        have ll2 := ll.below hbr
        clear hbr l5 lp ll ch q0 q1
        generalize grow (redrawn wr dq) osq = W at *
        obtain ⟨i0, hi, hz0, hz1, hz2⟩ := info_parts info_ho
        have hoE := own_empty W 3 1
        have chE := keep_cell (by go_grown : Below W.heap.size W (W.alloc (.cells #[] 3))) ch2
        have zxW := hx2.lt
        have bdW : b' < W.heap.size := World.block_lt_of_cell? W _ ch2
        go_wp2_with (at_builtin; refine wp_appn rfl _ _ 25 rfl W.heap.size 3 i0 (.int .i64 0) 1 8 Try.underlying25 hi hz0 hz1 hz2 rfl (by decide) rfl hoE rfl (l52.below (by go_grown)) (ints_one _) (by unfold maxLen; omega) (by omega) (by simp) ?_; intro A8 c8 w8 hown8 hg8; rw [Nat.zero_add, List.nil_append] at hown8; obtain ⟨g8, rfl, hg80, hg81⟩ := own_form hown8 (by omega); have ch8 := grown_keep hg8 (own_blk hoE) bdW chE; have d0 := own_int hown8 HXH.out; have f0 := own_frozen hown8 JL.out; have hx8 := (hx2.alloc (.cells #[] 3)).grown hg8 (by intro hc; have hc2 : w1.heap.size = W.heap.size := Option.some.inj hc; omega); have q0 := hx8.cell_ (i := 0) rfl; have q1 := hx8.cell_ (i := 1) rfl; have ne8 : w1.heap.size ≠ g8 := (by omega); have ne9 : g8 ≠ w1.heap.size := (by omega))
        have hb8 : Below W.heap.size W w8 := bel_apart (by go_grown) hg8 (own_blk hoE) (Nat.le_refl _)
        have hown9 := own_setI hown8 JL.out (hv - 1)
        have hx9 := hx8.far (p := ⟨g8, j, none⟩) ne8 (.int .i64 (hv - 1))
        have hb9 := hb8.setCell (p := ⟨g8, j, none⟩) hg80 (.int .i64 (hv - 1))
        clear hown8 hg8 hx8 hb8 hoE chE ch8 d0 f0 q0 q1
        generalize w8.setCell ⟨g8, j, none⟩ (.int .i64 (hv - 1)) = W9 at *
        refine (impl_IsHeld (ll2.below hb9) hm (lp2.below hb9) hN (Reads.of_own hown9) hN).mono ?_
        rintro e W10 ⟨rfl, hb⟩
        rw [HLOW.out]
        have hx10 := hx9.below hb
        have hbel10 := hbel2.trans ((hb9.trans (hb.mono hb9.size)).mono hbel2.size)
        clear hb hb9 hown9 hx9
        go_wp2
        go_roundw
        case rel => exact ⟨j + 1, by omega, by go_num, hx10, hbel10⟩
        case measure => simp [intOf]; omega
    · obtain rfl : j = n5 := by omega
      replace rl := rl.below hbel
      replace rp := rp.below hbel
      replace r5 := r5.below hbel
      have hB := hB.trans (hbel.mono hB.size)
      clear r6 hbel
      go_wp2_with fail
      refine (impl_LowestPoint rl hm rp hN).mono ?_
      rintro e w6 ⟨rfl, hb⟩
      have hlg := low_ge HPO.out
      have hll : ∀ i, i < j → lowS j ls ps ≤ hangF j ls ps i := fun i hi => low_le HPO.out hi
      obtain ⟨L, hL⟩ : ∃ L, L = lowS j ls ps := ⟨_, rfl⟩
      rw [← hL] at hlg hll
      rw [← hL]
      have HLL := Lib.hid hll
      clear hL hll
      replace rl := rl.below hb
      replace rp := rp.below hb
      replace r5 := r5.below hb
      replace hx := hx.below hb
      replace hB := hB.trans (hb.mono hB.size)
      clear hb
      clear q0 q1
      go_wp2
      go_loop [10] (fun jv => ∃ k : Nat, k ≤ j ∧ jv = .int .i64 k) (fun jv => j - (intOf jv).toNat)
      case atStart => exact ⟨0, by omega, rfl⟩
      case round =>
        obtain ⟨k, hk, rfl⟩ := hrel
        have q0 := hx.cell_ (i := 0) rfl
        have q1 := hx.cell_ (i := 1) rfl
        by_cases hlt : k < j
        · obtain ⟨b', o', hv, hA5, hbB', hxh, ch⟩ := r5.int hlt
          have hhv : hangF j ls ps k = hv := by rw [tab_get _ j k hlt] at hxh; exact Option.some.inj hxh
          have hle := HLL.out k hlt
          rw [hhv] at hle
          subst hA5
          have klt : (k : Int) < (j : Int) := by omega
          clear hxh hhv
          go_wp2
          go_round
          case rel => exact ⟨k + 1, by omega, by go_num⟩
          case measure => simp [intOf]; omega
        · obtain rfl : k = j := by omega
          obtain ⟨i0, hi, hz0, hz1, hz2⟩ := info_parts info_ho
          have hown0 := own_empty w6 3 1
          have r5' := r5.below (by go_grown : Below w6.heap.size w6 (w6.alloc (.cells #[] 3)))
          have hx' := hx.alloc (.cells #[] 3)
          have zx6 := hx.lt
          go_wp2
          clear q0 q1
          go_loopw [11, 12] (fun ov jv w3r => ∃ (i : Nat) (A7 : Option Addr) (c7 : Nat), i ≤ k ∧ jv = .int .i64 i ∧ ov = .slice A7 i c7 ∧ w3r.ownsRow w6.heap.size 3 1 (.slice A7 i c7) i (ints (tab (fun j => hangF k ls ps j + 3) i)) ∧ Row w3r w1.heap.size 30 [.int .i64 (k : Int), .slice B m d] ∧ Below w6.heap.size w6 w3r) (fun _ jv _ => k - (intOf jv).toNat)
          case atStart => exact ⟨0, _, 0, by omega, rfl, rfl, hown0, hx', by go_grown⟩
          case round =>
            clear hown0 r5' hx'
            obtain ⟨i, A7, c7, hi7, rfl, rfl, hown, hx7, hbel7⟩ := hrel
            have q0 := hx7.cell_ (i := 0) rfl
            have q1 := hx7.cell_ (i := 1) rfl
            by_cases hlt : i < k
            · obtain ⟨b', o', hv, hA5, hbB', hxh, ch⟩ := (r5.below hbel7).int hlt
              have hhv : hangF k ls ps i = hv := by rw [tab_get _ k i hlt] at hxh; exact Option.some.inj hxh
              have hbd := hangF_bd T.out HPO.out hlt
              rw [hhv] at hbd
              have HT : Hid (tab (fun j => hangF k ls ps j + 3) (i + 1) = tab (fun j => hangF k ls ps j + 3) i ++ [hv + 3]) := Lib.hid (by rw [← hhv]; simp [tab, List.range_succ])
              subst hA5
              have ilt : (i : Int) < (k : Int) := by omega
              have bA := own_blk hown
              have zw := hbel7.size
              have HX7 := Lib.hid hx7
              clear hxh hhv hx7
              go_wp2_with (at_builtin; refine wp_app rfl _ _ 25 rfl w6.heap.size 3 i0 (.int .i64 0) 1 8 Try.underlying25 hi hz0 hz1 hz2 rfl (by decide) rfl hown [.int .i64 (hv + 3)] rfl (by simp [Value.oneCell']) rfl (by simp) (by unfold maxLen; omega) (by omega) zw ?_; intro A8 c8 w8 hown8 hg8)
              go_roundw
              case rel => exact ⟨i + 1, A8, c8, by omega, by go_num, rfl, by rw [HT.out, ints_append]; exact hown8, row_apart HX7.out hg8 bA (by omega), bel_apart hbel7 hg8 bA (Nat.le_refl _)⟩
              case measure => simp [intOf]; omega
            · obtain rfl : i = k := by omega
              have rl7 := rl.below hbel7
              have rp7 := rp.below hbel7
              have r7 := Reads.of_own hown
              have HP3 : Hid (isHeld (i : Int) ls ps (tab (fun j => hangF i ls ps j + 3) i) = true) := Lib.hid (lift_held HPO.out (by omega) (by omega))
              have hB7 := hB.trans (hbel7.mono hB.size)
              clear hown
              go_wp2_with fail
              refine (impl_PullsOk rl7 hm rp7 hN).mono ?_
              rintro e w9 ⟨rfl, hb⟩
              rw [HPO.out]
              replace rl7 := rl7.below hb
              replace rp7 := rp7.below hb
              replace r7 := r7.below hb
              replace hx7 := hx7.below hb
              replace hB7 := hB7.trans (hb.mono hB7.size)
              clear hb q0 q1
              have q0 := hx7.cell_ (i := 0) rfl
              have q1 := hx7.cell_ (i := 1) rfl
              go_wp2_with fail
              refine (impl_IsHeld rl7 hm rp7 hN r7 hN).mono ?_
              rintro e w10 ⟨rfl, hb⟩
              rw [HP3.out]
              replace hB7 := hB7.trans (hb.mono hB7.size)
              have lg : (-2000 : Int) ≤ L := hlg.1
              clear hb
              go_wp2
              go_ret
              exact ⟨rfl, hB7⟩

set_option maxRecDepth 100000 in
theorem lifted (os : Os) (started : os.Started) (H : Type) (enc : TypeId × Value → H) :
    ReturnsInHanded {} Try.checked os 9 .any (Rows.fnHangingSpec.pre6 enc Try.prog Try.f9 Rows.fnHangingRow.domain false) (Rows.fnHangingSpec.post enc Try.prog Try.f9 false true false false) := by
  refine returnsInHanded_of_change (C := Try.checked) own started (by kernel_rfl) Try.func9
    (ChangeSpec.witness6 (enc := enc) (C := Try.checked) false ⟨#[], #[.slice none 0 0], []⟩ 8 (by kernel_rfl) (by kernel_rfl) (by kernel_rfl) (by kernel_rfl)) ?_
  intro W base args ds gs before hval0 hW hcnd _
  have hval : ∀ (j : Nat) t v, Try.f9.params[j]? = some t → args[j]? = some v → Value.okWide Try.prog W .any base t v := hval0
  have hW' := hW
  obtain ⟨p, q, hA0, hV, rfl, hfz, hnd⟩ := hW
  have hA : DataW.TrodAll enc Try.prog W 0 (fun _ => true) true Try.f9.params.toList args.toList ds p := hA0
  rw [Try.params9] at hA hval
  obtain ⟨v0, vs0, d0, ds0, p0, q0, hargs, rfl, rfl, h0, r0⟩ := trodAll_cons hA
  obtain ⟨rfl, rfl, rfl⟩ := trodAll_nil r0
  obtain rfl : args = #[v0] := by cases args; simp_all
  obtain ⟨rfl, rfl⟩ := trodVars_none hV
  obtain ⟨A0, n0, c0, xs0, rfl, g0, m0, u0⟩ := open_byteA (hval 0 42 v0 rfl rfl) h0
  refine (walk A0 n0 c0 xs0 W g0 m0 u0).mono fun e W' ⟨he, hb⟩ => ?_
  subst he
  exact ⟨_, rfl, post_true laidOut rfl hW' rfl (by rw [Try.params9]; intro t ht; simp only [List.mem_cons, List.not_mem_nil, or_false] at ht; rcases ht with rfl <;> exact ⟨by kernel_rfl, of_decide_eq_true (by kernel_rfl)⟩) Try.underlying4 (by kernel_rfl) hb⟩

theorem over : Rows.fnHangingRow.holds Try.pinned (OpenSpec.ofChange Rows.fnHangingSpec) :=
  OpenClaim.holds_of_wide 9 Try.f9 rfl rfl rfl rfl rfl rfl rfl ⟨rfl, rfl, rfl, rfl, rfl⟩ rfl rfl rfl rfl rfl (by kernel_rfl) Try.func9 (by kernel_rfl)
    (of_decide_eq_true (by kernel_rfl)) (by unfold Func.isWrapper; first | (rw [if_pos (by decide +kernel)]; kernel_rfl) | (rw [if_neg (by decide +kernel)]; exact ⟨rfl, rfl⟩))
    (fun os started H enc _ => lifted os started H enc)

theorem proved : Rows.FnHangingSaid := over
end Go.Proofs.Ytbgdnlcjliaigaa.FnHanging
