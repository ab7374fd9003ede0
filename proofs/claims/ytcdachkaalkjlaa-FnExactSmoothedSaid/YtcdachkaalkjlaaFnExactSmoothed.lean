/- The given law FnExactSmoothed: the program and the reference agree for all arguments and share no memory, so the law returns true; no condition. -/
import Derived.Test.YtcdachkaalkjlaaOpenI
import Derived.Test.YtcdachkaalkjlaaSS3
import Derived.Test.YtcdachkaalkjlaaSmoothS
import Derived.Test.YtcdachkaalkjlaaBodyS
namespace Go.Proofs.Ytcdachkaalkjlaa.FnExactSmoothed
open Go.ChangeShapes Go.WideShapes Go.ChangeAt Go.RowKit Go.Deep Go.Joins
set_option maxRecDepth 100000

set_option maxHeartbeats 1000000 in
theorem walk (j_aB : Int) (A_aB : Option Addr) (n_aB c_aB : Nat) (xs_aB : List Lb) (A_aP : Option Addr) (n_aP c_aP : Nat) (xs_aP : List Int) (A_aQ : Option Addr) (n_aQ c_aQ : Nat) (xs_aQ : List Int) (aMost : Int) (w : World) (_bd_aB : -9223372036854775808 ≤ j_aB ∧ j_aB ≤ 9223372036854775807) (hr_aB : Reads w 3 A_aB n_aB (lbs xs_aB)) (hm_aB : n_aB ≤ 9223372036854775807) (hr_aP : Reads w 1 A_aP n_aP (ints xs_aP)) (hm_aP : n_aP ≤ 9223372036854775807) (hr_aQ : Reads w 1 A_aQ n_aQ (ints xs_aQ)) (hm_aQ : n_aQ ≤ 9223372036854775807) (bd_aMost : -9223372036854775808 ≤ aMost ∧ aMost ≤ 9223372036854775807) :
    Calls Try.prog 8 #[.agg #[.int .i64 j_aB, .slice A_aB n_aB c_aB], .slice A_aP n_aP c_aP, .slice A_aQ n_aQ c_aQ, .int .i64 aMost] w fun e w' => e = .returned (.bool true) ∧ Below w.heap.size w w' := by
  by_cases hn0 : n_aP ≤ 1048576
  rotate_left
  · skip
    have hB := Below.refl w.heap.size w
    have h_aB := Row.new w 30 [.int .i64 j_aB, .slice A_aB n_aB c_aB]
    go_enter Try.func8, Try.ntmps8
    go_wp2_with fail
    go_ret
    exact ⟨rfl, by go_grown⟩
  by_cases hn1 : n_aQ ≤ 1048576
  rotate_left
  · skip
    have hB := Below.refl w.heap.size w
    have h_aB := Row.new w 30 [.int .i64 j_aB, .slice A_aB n_aB c_aB]
    go_enter Try.func8, Try.ntmps8
    go_wp2_with fail
    go_ret
    exact ⟨rfl, by go_grown⟩
  by_cases hn2 : n_aB ≤ 1048576
  rotate_left
  · skip
    have hB := Below.refl w.heap.size w
    have h_aB := Row.new w 30 [.int .i64 j_aB, .slice A_aB n_aB c_aB]
    go_enter Try.func8, Try.ntmps8
    go_wp2_with fail
    refine (szBody_f _ _ _ _ _ _ (by omega) (by omega) (by omega) (by omega)).mono ?_
    rintro e w1 ⟨rfl, hb⟩
    have hg := step_below (a := w) (by go_grown) hb
    have z1 : w.heap.size < w1.heap.size := Nat.lt_of_lt_of_le (by first | (simp; done) | (simp; omega)) hb.size
    replace hB := bel_next hB hg nofun
    replace h_aB := h_aB.below hb
    clear hb hg
    go_wp2_with fail
    go_ret
    exact ⟨rfl, hB⟩
  have hB := Below.refl w.heap.size w
  have h_aB := Row.new w 30 [.int .i64 j_aB, .slice A_aB n_aB c_aB]
  go_enter Try.func8, Try.ntmps8
  go_wp2_with fail
  refine (szBody_t _ _ _ _ _ _ (by omega) (by omega)).mono ?_
  rintro e w1 ⟨rfl, hb⟩
  have hg := step_below (a := w) (by go_grown) hb
  have z1 : w.heap.size < w1.heap.size := Nat.lt_of_lt_of_le (by first | (simp; done) | (simp; omega)) hb.size
  replace hB := bel_next hB hg nofun
  replace h_aB := h_aB.below hb
  clear hb hg
  have q_aB_0 := h_aB.cell_ (i := 0) rfl
  have q_aB_1 := h_aB.cell_ (i := 1) rfl
  have q_aB_l := h_aB.lt
  go_wp2_with fail
  refine (toBody_any _ _ _ _ _ _ ((hr_aB.below hB).below (by go_grown)) (by omega)).mono ?_
  rintro e w2 ⟨g_t0, rfl, o_t0, hb⟩
  clear q_aB_0 q_aB_1 q_aB_l
  have hg := step_below (a := w1) (by go_grown) hb
  have z2 : w1.heap.size ≤ w2.heap.size := hg.size
  replace hB := bel_next hB hg nofun
  replace h_aB := h_aB.grown hg (by simp)
  clear hb hg
  replace o_t0 := ownsRow_le o_t0 (base' := w1.heap.size) (by simp)
  have b_t0 := own_blk o_t0
  go_wp2_with fail
  refine (toIntS_any _ _ _ _ _ ((hr_aP.below hB).below (by go_grown)) (by omega)).mono ?_
  rintro e w3 ⟨g_t1, rfl, o_t1, hb⟩
  have hg := step_below (a := w2) (by go_grown) hb
  have z3 : w2.heap.size ≤ w3.heap.size := hg.size
  replace hB := bel_next hB hg nofun
  replace h_aB := h_aB.grown hg (by simp)
  replace o_t0 := own_grown o_t0 hg (by simp)
  clear hb hg
  replace o_t1 := ownsRow_le o_t1 (base' := w2.heap.size) (by simp)
  have b_t1 := own_blk o_t1
  go_wp2_with fail
  refine (toIntS_any _ _ _ _ _ ((hr_aQ.below hB).below (by go_grown)) (by omega)).mono ?_
  rintro e w4 ⟨g_t2, rfl, o_t2, hb⟩
  have hg := step_below (a := w3) (by go_grown) hb
  have z4 : w3.heap.size ≤ w4.heap.size := hg.size
  replace hB := bel_next hB hg nofun
  replace h_aB := h_aB.grown hg (by simp)
  replace o_t0 := own_grown o_t0 hg (by simp)
  replace o_t1 := own_grown o_t1 hg (by simp)
  clear hb hg
  replace o_t2 := ownsRow_le o_t2 (base' := w3.heap.size) (by simp)
  have b_t2 := own_blk o_t2
  go_wp2_with fail
  refine (spec_Smoothed ((Reads.of_own o_t0).below (by go_grown)) (by omega) ((Reads.of_own o_t1).below (by go_grown)) (by omega) ((Reads.of_own o_t2).below (by go_grown)) (by omega)).mono ?_
  rintro e w5 ⟨A_w0, n_w0, c_w0, rfl, o_w0, l_w0, hb⟩
  have hg := step_below (a := w4) (by go_grown) hb
  have z5 : w4.heap.size ≤ w5.heap.size := hg.size
  replace hB := bel_next hB hg nofun
  replace h_aB := h_aB.grown hg (by simp)
  replace o_t0 := own_grown o_t0 hg (by simp)
  replace o_t1 := own_grown o_t1 hg (by simp)
  replace o_t2 := own_grown o_t2 hg (by simp)
  clear hb hg
  replace o_w0 := o_w0.lower (base' := w4.heap.size) (by simp)
  clear o_t0 b_t0
  clear o_t1 b_t1
  clear o_t2 b_t2
  have q_aB_0 := h_aB.cell_ (i := 0) rfl
  have q_aB_1 := h_aB.cell_ (i := 1) rfl
  have q_aB_l := h_aB.lt
  go_wp2_with fail
  refine (toBody_any _ _ _ _ _ _ ((hr_aB.below hB).below (by go_grown)) (by omega)).mono ?_
  rintro e w6 ⟨g_x0, rfl, o_x0, hb⟩
  clear q_aB_0 q_aB_1 q_aB_l
  have hg := step_below (a := w5) (by go_grown) hb
  have z6 : w5.heap.size ≤ w6.heap.size := hg.size
  replace hB := bel_next hB hg nofun
  replace h_aB := h_aB.grown hg (by simp)
  replace o_w0 := o_w0.grown hg nofun
  clear hb hg
  replace o_x0 := ownsRow_le o_x0 (base' := w5.heap.size) (by simp)
  have b_x0 := own_blk o_x0
  have h_x0 := Row.new w6 37 [.int .i64 j_aB, .slice (some ⟨g_x0, 0, none⟩) n_aB n_aB]
  go_wp2_with fail
  refine (toIntS_any _ _ _ _ _ ((hr_aP.below hB).below (by go_grown)) (by omega)).mono ?_
  rintro e w7 ⟨g_x1, rfl, o_x1, hb⟩
  have hg := step_below (a := w6) (by go_grown) hb
  have z7 : w6.heap.size < w7.heap.size := Nat.lt_of_lt_of_le (by first | (simp; done) | (simp; omega)) hb.size
  replace hB := bel_next hB hg nofun
  replace h_aB := h_aB.grown hg (by simp)
  replace h_x0 := h_x0.below hb
  replace o_w0 := o_w0.grown hg nofun
  replace o_x0 := own_grown o_x0 hg (by simp)
  clear hb hg
  replace o_x1 := ownsRow_le o_x1 (base' := w6.heap.size + 1) (by simp)
  have b_x1 := own_blk o_x1
  go_wp2_with fail
  refine (toIntS_any _ _ _ _ _ ((hr_aQ.below hB).below (by go_grown)) (by omega)).mono ?_
  rintro e w8 ⟨g_x2, rfl, o_x2, hb⟩
  have hg := step_below (a := w7) (by go_grown) hb
  have z8 : w7.heap.size ≤ w8.heap.size := hg.size
  replace hB := bel_next hB hg nofun
  replace h_aB := h_aB.grown hg (by simp)
  replace h_x0 := h_x0.grown hg (by simp)
  replace o_w0 := o_w0.grown hg nofun
  replace o_x0 := own_grown o_x0 hg (by simp)
  replace o_x1 := own_grown o_x1 hg (by simp)
  clear hb hg
  replace o_x2 := ownsRow_le o_x2 (base' := w7.heap.size) (by simp)
  have b_x2 := own_blk o_x2
  have q_x0_0 := h_x0.cell_ (i := 0) rfl
  have q_x0_1 := h_x0.cell_ (i := 1) rfl
  have q_x0_l := h_x0.lt
  go_wp2_with fail
  refine (impl_Smoothed ((Reads.of_own o_x0).below (by go_grown)) (by omega) ((Reads.of_own o_x1).below (by go_grown)) (by omega) ((Reads.of_own o_x2).below (by go_grown)) (by omega)).mono ?_
  rintro e w9 ⟨A_g0, n_g0, c_g0, rfl, o_g0, l_g0, hb⟩
  clear q_x0_0 q_x0_1 q_x0_l
  have hg := step_below (a := w8) (by go_grown) hb
  have z9 : w8.heap.size ≤ w9.heap.size := hg.size
  replace hB := bel_next hB hg nofun
  replace h_aB := h_aB.grown hg (by simp)
  replace h_x0 := h_x0.grown hg (by simp)
  replace o_w0 := o_w0.grown hg nofun
  replace o_x0 := own_grown o_x0 hg (by simp)
  replace o_x1 := own_grown o_x1 hg (by simp)
  replace o_x2 := own_grown o_x2 hg (by simp)
  clear hb hg
  replace o_g0 := o_g0.lower (base' := w8.heap.size) (by simp)
  go_wp2_with fail
  refine (eqIntSS_b (o_g0.reads.below (by go_grown)) (o_w0.reads.below (by go_grown)) (by omega) (by omega)).mono ?_
  rintro e w10 ⟨rfl, hb⟩
  have hg := step_below (a := w9) (by go_grown) hb
  have z10 : w9.heap.size ≤ w10.heap.size := hg.size
  replace hB := bel_next hB hg nofun
  replace h_aB := h_aB.grown hg (by simp)
  replace h_x0 := h_x0.grown hg (by simp)
  replace o_w0 := o_w0.grown hg nofun
  replace o_x0 := own_grown o_x0 hg (by simp)
  replace o_x1 := own_grown o_x1 hg (by simp)
  replace o_x2 := own_grown o_x2 hg (by simp)
  replace o_g0 := o_g0.grown hg nofun
  clear hb hg
  have q_x0_0 := h_x0.cell_ (i := 0) rfl
  have q_x0_1 := h_x0.cell_ (i := 1) rfl
  have q_x0_l := h_x0.lt
  have q_aB_0 := h_aB.cell_ (i := 0) rfl
  have q_aB_1 := h_aB.cell_ (i := 1) rfl
  have q_aB_l := h_aB.lt
  go_wp2_with fail
  go_region_held3 (fun w' => w'.cell? ⟨w6.heap.size, 0, none⟩ = some (.int .i64 j_aB) ∧ w'.cell? ⟨w6.heap.size, 1, none⟩ = some (.slice (some ⟨g_x0, 0, none⟩) n_aB n_aB) ∧ w'.cell? ⟨w.heap.size, 0, none⟩ = some (.int .i64 j_aB) ∧ w'.cell? ⟨w.heap.size, 1, none⟩ = some (.slice A_aB n_aB c_aB))
    (first | go_keep | exact ⟨k0, k1, k2, k3⟩ | exact ⟨m0, m1, m2, m3⟩)
    (first | (go_at_call 25; refine (toBody_any _ _ _ _ _ _ ((hr_aB.below hB).below (by go_grown)) (by omega)).mono ?_; rintro e w11 ⟨g_t3, rfl, o_t3, hb1⟩; have k0 := keep_cell hb1 q_x0_0; have k1 := keep_cell hb1 q_x0_1; have k2 := keep_cell hb1 q_aB_0; have k3 := keep_cell hb1 q_aB_1) | (go_at_call 28; refine (eqBody_t _ _ _ _ _ _ _ _ ((Reads.of_own o_x0).below (below_of_drew hb1)) (Reads.of_own o_t3) (by omega)).mono ?_; rintro e w12 ⟨rfl, hb2⟩; have m0 := keep_cell hb2 k0; have m1 := keep_cell hb2 k1; have m2 := keep_cell hb2 k2; have m3 := keep_cell hb2 k3))
  have hb := Below.trans hb1 (hb2.mono hb1.size)
  clear hb1 hb2 o_t3 k0 k1 k2 k3 m0 m1 m2 m3
  clear q_x0_0 q_x0_1 q_x0_l q_aB_0 q_aB_1 q_aB_l
  have hg := step_below (a := w10) (Below.drew (Below.refl _ _)) hb
  have z12 : w10.heap.size ≤ w12.heap.size := hg.size
  replace hB := bel_next hB hg nofun
  replace h_aB := h_aB.grown hg (by simp)
  replace h_x0 := h_x0.grown hg (by simp)
  replace o_w0 := o_w0.grown hg nofun
  replace o_x0 := own_grown o_x0 hg (by simp)
  replace o_x1 := own_grown o_x1 hg (by simp)
  replace o_x2 := own_grown o_x2 hg (by simp)
  replace o_g0 := o_g0.grown hg nofun
  clear hb hg
  go_wp2_with fail
  refine (toIntS_any _ _ _ _ _ ((hr_aP.below hB).below (by go_grown)) (by omega)).mono ?_
  rintro e w13 ⟨g_t4, rfl, o_t4, hb⟩
  have hg := step_below (a := w12) (by go_grown) hb
  have z13 : w12.heap.size ≤ w13.heap.size := hg.size
  replace hB := bel_next hB hg nofun
  replace h_aB := h_aB.grown hg (by simp)
  replace h_x0 := h_x0.grown hg (by simp)
  replace o_w0 := o_w0.grown hg nofun
  replace o_x0 := own_grown o_x0 hg (by simp)
  replace o_x1 := own_grown o_x1 hg (by simp)
  replace o_x2 := own_grown o_x2 hg (by simp)
  replace o_g0 := o_g0.grown hg nofun
  clear hb hg
  replace o_t4 := ownsRow_le o_t4 (base' := w12.heap.size) (by simp)
  have b_t4 := own_blk o_t4
  go_wp2_with fail
  refine (eqIntS_b ((Reads.of_own o_x1).below (by go_grown)) ((Reads.of_own o_t4).below (by go_grown)) (by omega)).mono ?_
  rintro e w14 ⟨rfl, hb⟩
  have hg := step_below (a := w13) (by go_grown) hb
  have z14 : w13.heap.size ≤ w14.heap.size := hg.size
  replace hB := bel_next hB hg nofun
  replace h_aB := h_aB.grown hg (by simp)
  replace h_x0 := h_x0.grown hg (by simp)
  replace o_w0 := o_w0.grown hg nofun
  replace o_x0 := own_grown o_x0 hg (by simp)
  replace o_x1 := own_grown o_x1 hg (by simp)
  replace o_x2 := own_grown o_x2 hg (by simp)
  replace o_g0 := o_g0.grown hg nofun
  replace o_t4 := own_grown o_t4 hg (by simp)
  clear hb hg
  clear o_t4 b_t4
  go_wp2_with fail
  refine (toIntS_any _ _ _ _ _ ((hr_aQ.below hB).below (by go_grown)) (by omega)).mono ?_
  rintro e w15 ⟨g_t5, rfl, o_t5, hb⟩
  have hg := step_below (a := w14) (by go_grown) hb
  have z15 : w14.heap.size ≤ w15.heap.size := hg.size
  replace hB := bel_next hB hg nofun
  replace h_aB := h_aB.grown hg (by simp)
  replace h_x0 := h_x0.grown hg (by simp)
  replace o_w0 := o_w0.grown hg nofun
  replace o_x0 := own_grown o_x0 hg (by simp)
  replace o_x1 := own_grown o_x1 hg (by simp)
  replace o_x2 := own_grown o_x2 hg (by simp)
  replace o_g0 := o_g0.grown hg nofun
  clear hb hg
  replace o_t5 := ownsRow_le o_t5 (base' := w14.heap.size) (by simp)
  have b_t5 := own_blk o_t5
  go_wp2_with fail
  refine (eqIntS_b ((Reads.of_own o_x2).below (by go_grown)) ((Reads.of_own o_t5).below (by go_grown)) (by omega)).mono ?_
  rintro e w16 ⟨rfl, hb⟩
  have hg := step_below (a := w15) (by go_grown) hb
  have z16 : w15.heap.size ≤ w16.heap.size := hg.size
  replace hB := bel_next hB hg nofun
  replace h_aB := h_aB.grown hg (by simp)
  replace h_x0 := h_x0.grown hg (by simp)
  replace o_w0 := o_w0.grown hg nofun
  replace o_x0 := own_grown o_x0 hg (by simp)
  replace o_x1 := own_grown o_x1 hg (by simp)
  replace o_x2 := own_grown o_x2 hg (by simp)
  replace o_g0 := o_g0.grown hg nofun
  replace o_t5 := own_grown o_t5 hg (by simp)
  clear hb hg
  clear o_t5 b_t5
  have q_x0_0 := h_x0.cell_ (i := 0) rfl
  have q_x0_1 := h_x0.cell_ (i := 1) rfl
  have q_x0_l := h_x0.lt
  go_wp2_with fail
  refine (markBody_any _ _ _ _ _ _ _ _ (own_below o_x0 (by go_grown)) (by omega) (by omega) (by omega)).mono ?_
  rintro e w17 ⟨rfl, o_x0, hb⟩
  clear q_x0_0 q_x0_1 q_x0_l
  have hg := step_grown (a := w16) (by go_grown) hb
  have z17 : w16.heap.size ≤ w17.heap.size := hg.size
  replace hB := bel_apart hB hg b_x0 (by omega)
  replace h_aB := row_apart h_aB hg b_x0 (by omega)
  replace h_x0 := row_apart h_x0 hg b_x0 (by omega)
  replace o_w0 := o_w0.grown hg (blk_off b_x0 (by omega))
  replace o_x1 := own_apart o_x1 hg b_x0 b_x1 (by omega)
  replace o_x2 := own_apart o_x2 hg b_x0 b_x2 (by omega)
  replace o_g0 := o_g0.grown hg (blk_off b_x0 (by omega))
  clear hb hg
  go_wp2_with fail
  refine (markIntS_any _ _ _ _ _ _ _ (own_below o_x1 (by go_grown)) (by omega) (by omega) (by omega)).mono ?_
  rintro e w18 ⟨rfl, o_x1, hb⟩
  have hg := step_grown (a := w17) (by go_grown) hb
  have z18 : w17.heap.size ≤ w18.heap.size := hg.size
  replace hB := bel_apart hB hg b_x1 (by omega)
  replace h_aB := row_apart h_aB hg b_x1 (by omega)
  replace h_x0 := row_apart h_x0 hg b_x1 (by omega)
  replace o_w0 := o_w0.grown hg (blk_off b_x1 (by omega))
  replace o_x0 := own_apart o_x0 hg b_x1 b_x0 (by omega)
  replace o_x2 := own_apart o_x2 hg b_x1 b_x2 (by omega)
  replace o_g0 := o_g0.grown hg (blk_off b_x1 (by omega))
  clear hb hg
  go_wp2_with fail
  refine (markIntS_any _ _ _ _ _ _ _ (own_below o_x2 (by go_grown)) (by omega) (by omega) (by omega)).mono ?_
  rintro e w19 ⟨rfl, o_x2, hb⟩
  have hg := step_grown (a := w18) (by go_grown) hb
  have z19 : w18.heap.size ≤ w19.heap.size := hg.size
  replace hB := bel_apart hB hg b_x2 (by omega)
  replace h_aB := row_apart h_aB hg b_x2 (by omega)
  replace h_x0 := row_apart h_x0 hg b_x2 (by omega)
  replace o_w0 := o_w0.grown hg (blk_off b_x2 (by omega))
  replace o_x0 := own_apart o_x0 hg b_x2 b_x0 (by omega)
  replace o_x1 := own_apart o_x1 hg b_x2 b_x1 (by omega)
  replace o_g0 := o_g0.grown hg (blk_off b_x2 (by omega))
  clear hb hg
  go_wp2_with fail
  refine (eqIntSS_b (o_g0.reads.below (by go_grown)) (o_w0.reads.below (by go_grown)) (by omega) (by omega)).mono ?_
  rintro e w20 ⟨rfl, hb⟩
  have hg := step_below (a := w19) (by go_grown) hb
  have z20 : w19.heap.size ≤ w20.heap.size := hg.size
  replace hB := bel_next hB hg nofun
  replace h_aB := h_aB.grown hg (by simp)
  replace h_x0 := h_x0.grown hg (by simp)
  replace o_w0 := o_w0.grown hg nofun
  replace o_x0 := own_grown o_x0 hg (by simp)
  replace o_x1 := own_grown o_x1 hg (by simp)
  replace o_x2 := own_grown o_x2 hg (by simp)
  replace o_g0 := o_g0.grown hg nofun
  clear hb hg
  go_wp2_with fail
  refine (markIntSS_any (o_g0.below (by go_grown)) (by omega) (by omega) (by omega) (by omega) (by first | omega | (simp; omega))).mono ?_
  clear o_g0
  rintro e w21 ⟨rfl, o_g0, hb⟩
  replace hb := below_onto (a := w20) (by go_grown) hb (by omega)
  have z21 : w20.heap.size ≤ w21.heap.size := hb.size
  replace hB := hB.trans (hb.mono (by omega))
  replace h_aB := h_aB.belowB hb (by omega)
  replace h_x0 := h_x0.belowB hb (by omega)
  replace o_w0 := o_w0.belowB hb (by omega)
  replace o_x0 := own_belowB o_x0 hb (fun g e => Nat.lt_of_lt_of_le (b_x0 _ e).2 (by omega))
  replace o_x1 := own_belowB o_x1 hb (fun g e => Nat.lt_of_lt_of_le (b_x1 _ e).2 (by omega))
  replace o_x2 := own_belowB o_x2 hb (fun g e => Nat.lt_of_lt_of_le (b_x2 _ e).2 (by omega))
  clear hb
  go_wp2_with fail
  refine (heldIntSS_any (o_g0.reads.below (by go_grown)) (by omega) (by omega) (by omega) (by omega)).mono ?_
  rintro e w22 ⟨rfl, hw⟩
  have hb := below_of_eq hw; clear hw
  have hg := step_below (a := w21) (by go_grown) hb
  have z22 : w21.heap.size ≤ w22.heap.size := hg.size
  replace hB := bel_next hB hg nofun
  replace h_aB := h_aB.grown hg (by simp)
  replace h_x0 := h_x0.grown hg (by simp)
  replace o_w0 := o_w0.grown hg nofun
  replace o_x0 := own_grown o_x0 hg (by simp)
  replace o_x1 := own_grown o_x1 hg (by simp)
  replace o_x2 := own_grown o_x2 hg (by simp)
  replace o_g0 := o_g0.grown hg nofun
  clear hb hg
  have q_aB_0 := h_aB.cell_ (i := 0) rfl
  have q_aB_1 := h_aB.cell_ (i := 1) rfl
  have q_aB_l := h_aB.lt
  go_wp2_with fail
  refine (toBody_any _ _ _ _ _ _ ((hr_aB.below hB).below (by go_grown)) (by omega)).mono ?_
  rintro e w23 ⟨g_t6, rfl, o_t6, hb⟩
  clear q_aB_0 q_aB_1 q_aB_l
  have hg := step_below (a := w22) (by go_grown) hb
  have z23 : w22.heap.size ≤ w23.heap.size := hg.size
  replace hB := bel_next hB hg nofun
  replace h_aB := h_aB.grown hg (by simp)
  replace h_x0 := h_x0.grown hg (by simp)
  replace o_w0 := o_w0.grown hg nofun
  replace o_x0 := own_grown o_x0 hg (by simp)
  replace o_x1 := own_grown o_x1 hg (by simp)
  replace o_x2 := own_grown o_x2 hg (by simp)
  replace o_g0 := o_g0.grown hg nofun
  clear hb hg
  replace o_t6 := ownsRow_le o_t6 (base' := w22.heap.size) (by simp)
  have b_t6 := own_blk o_t6
  go_wp2_with fail
  refine (toIntS_any _ _ _ _ _ ((hr_aP.below hB).below (by go_grown)) (by omega)).mono ?_
  rintro e w24 ⟨g_t7, rfl, o_t7, hb⟩
  have hg := step_below (a := w23) (by go_grown) hb
  have z24 : w23.heap.size ≤ w24.heap.size := hg.size
  replace hB := bel_next hB hg nofun
  replace h_aB := h_aB.grown hg (by simp)
  replace h_x0 := h_x0.grown hg (by simp)
  replace o_w0 := o_w0.grown hg nofun
  replace o_x0 := own_grown o_x0 hg (by simp)
  replace o_x1 := own_grown o_x1 hg (by simp)
  replace o_x2 := own_grown o_x2 hg (by simp)
  replace o_g0 := o_g0.grown hg nofun
  replace o_t6 := own_grown o_t6 hg (by simp)
  clear hb hg
  replace o_t7 := ownsRow_le o_t7 (base' := w23.heap.size) (by simp)
  have b_t7 := own_blk o_t7
  go_wp2_with fail
  refine (toIntS_any _ _ _ _ _ ((hr_aQ.below hB).below (by go_grown)) (by omega)).mono ?_
  rintro e w25 ⟨g_t8, rfl, o_t8, hb⟩
  have hg := step_below (a := w24) (by go_grown) hb
  have z25 : w24.heap.size ≤ w25.heap.size := hg.size
  replace hB := bel_next hB hg nofun
  replace h_aB := h_aB.grown hg (by simp)
  replace h_x0 := h_x0.grown hg (by simp)
  replace o_w0 := o_w0.grown hg nofun
  replace o_x0 := own_grown o_x0 hg (by simp)
  replace o_x1 := own_grown o_x1 hg (by simp)
  replace o_x2 := own_grown o_x2 hg (by simp)
  replace o_g0 := o_g0.grown hg nofun
  replace o_t6 := own_grown o_t6 hg (by simp)
  replace o_t7 := own_grown o_t7 hg (by simp)
  clear hb hg
  replace o_t8 := ownsRow_le o_t8 (base' := w24.heap.size) (by simp)
  have b_t8 := own_blk o_t8
  go_wp2_with fail
  refine (impl_Smoothed ((Reads.of_own o_t6).below (by go_grown)) (by omega) ((Reads.of_own o_t7).below (by go_grown)) (by omega) ((Reads.of_own o_t8).below (by go_grown)) (by omega)).mono ?_
  rintro e w26 ⟨A_h0, n_h0, c_h0, rfl, o_h0, l_h0, hb⟩
  have hg := step_below (a := w25) (by go_grown) hb
  have z26 : w25.heap.size ≤ w26.heap.size := hg.size
  replace hB := bel_next hB hg nofun
  replace h_aB := h_aB.grown hg (by simp)
  replace h_x0 := h_x0.grown hg (by simp)
  replace o_w0 := o_w0.grown hg nofun
  replace o_x0 := own_grown o_x0 hg (by simp)
  replace o_x1 := own_grown o_x1 hg (by simp)
  replace o_x2 := own_grown o_x2 hg (by simp)
  replace o_g0 := o_g0.grown hg nofun
  replace o_t6 := own_grown o_t6 hg (by simp)
  replace o_t7 := own_grown o_t7 hg (by simp)
  replace o_t8 := own_grown o_t8 hg (by simp)
  clear hb hg
  replace o_h0 := o_h0.lower (base' := w25.heap.size) (by simp)
  clear o_t6 b_t6
  clear o_t7 b_t7
  clear o_t8 b_t8
  go_wp2_with fail
  refine (eqIntSS_b (o_h0.reads.below (by go_grown)) (o_w0.reads.below (by go_grown)) (by omega) (by omega)).mono ?_
  rintro e w27 ⟨rfl, hb⟩
  have hg := step_below (a := w26) (by go_grown) hb
  have z27 : w26.heap.size ≤ w27.heap.size := hg.size
  replace hB := bel_next hB hg nofun
  replace h_aB := h_aB.grown hg (by simp)
  replace h_x0 := h_x0.grown hg (by simp)
  replace o_w0 := o_w0.grown hg nofun
  replace o_x0 := own_grown o_x0 hg (by simp)
  replace o_x1 := own_grown o_x1 hg (by simp)
  replace o_x2 := own_grown o_x2 hg (by simp)
  replace o_g0 := o_g0.grown hg nofun
  replace o_h0 := o_h0.grown hg nofun
  clear hb hg
  go_wp2_with fail
  refine (heldIntSS_any (o_g0.reads.below (by go_grown)) (by omega) (by omega) (by omega) (by omega)).mono ?_
  rintro e w28 ⟨rfl, hw⟩
  have hb := below_of_eq hw; clear hw
  have hg := step_below (a := w27) (by go_grown) hb
  have z28 : w27.heap.size ≤ w28.heap.size := hg.size
  replace hB := bel_next hB hg nofun
  replace h_aB := h_aB.grown hg (by simp)
  replace h_x0 := h_x0.grown hg (by simp)
  replace o_w0 := o_w0.grown hg nofun
  replace o_x0 := own_grown o_x0 hg (by simp)
  replace o_x1 := own_grown o_x1 hg (by simp)
  replace o_x2 := own_grown o_x2 hg (by simp)
  replace o_g0 := o_g0.grown hg nofun
  replace o_h0 := o_h0.grown hg nofun
  clear hb hg
  go_wp2_with fail
  go_ret
  exact ⟨rfl, hB⟩

set_option maxRecDepth 100000 in
theorem lifted (os : Os) (started : os.Started) (H : Type) (enc : TypeId × Value → H) :
    ReturnsInHanded {} Try.checked os 8 .any (Rows.fnExactSmoothedSpec.pre6 enc Try.prog Try.f8 Rows.fnExactSmoothedRow.domain false) (Rows.fnExactSmoothedSpec.post enc Try.prog Try.f8 false true false false) := by
  refine returnsInHanded_of_change (C := Try.checked) own started (by kernel_rfl) Try.func8
    (ChangeSpec.witness6 (enc := enc) (C := Try.checked) false ⟨#[], #[.agg #[.int .i64 0, .slice none 0 0], .slice none 0 0, .slice none 0 0, .int .i64 0], []⟩ 8 (by kernel_rfl) (by kernel_rfl) (by kernel_rfl) (by kernel_rfl)) ?_
  intro W base args ds gs before hval0 hW hcnd _
  have hval : ∀ (j : Nat) t v, Try.f8.params[j]? = some t → args[j]? = some v → Value.okWide Try.prog W .any base t v := hval0
  have hW' := hW
  obtain ⟨p, q, hA0, hV, rfl, hfz, hnd⟩ := hW
  have hA : DataW.TrodAll enc Try.prog W 0 (fun _ => true) true Try.f8.params.toList args.toList ds p := hA0
  rw [Try.params8] at hA hval
  obtain ⟨v0, vs0, d0, ds0, p0, q0, hargs, rfl, rfl, h0, r0⟩ := trodAll_cons hA
  obtain ⟨v1, vs1, d1, ds1, p1, q1, rfl, rfl, rfl, h1, r1⟩ := trodAll_cons r0
  obtain ⟨v2, vs2, d2, ds2, p2, q2, rfl, rfl, rfl, h2, r2⟩ := trodAll_cons r1
  obtain ⟨v3, vs3, d3, ds3, p3, q3, rfl, rfl, rfl, h3, r3⟩ := trodAll_cons r2
  obtain ⟨rfl, rfl, rfl⟩ := trodAll_nil r3
  obtain rfl : args = #[v0, v1, v2, v3] := by cases args; simp_all
  obtain ⟨rfl, rfl⟩ := trodVars_none hV
  obtain ⟨j0, A0, n0, c0, xs0, rfl, w0, g0, m0⟩ := open_body (hval 0 30 v0 rfl rfl) h0
  obtain ⟨A1, n1, c1, xs1, rfl, g1, m1⟩ := open_intA (hval 1 22 v1 rfl rfl) h1
  obtain ⟨A2, n2, c2, xs2, rfl, g2, m2⟩ := open_intA (hval 2 22 v2 rfl rfl) h2
  obtain ⟨a3, rfl, rfl, rfl, w3⟩ := open_int Try.underlying3 (hval 3 3 v3 rfl rfl) h3
  refine (walk j0 A0 n0 c0 xs0 A1 n1 c1 xs1 A2 n2 c2 xs2 a3 W (bounds_i64 w0) g0 m0 g1 m1 g2 m2 (bounds_i64 w3)).mono fun e W' ⟨he, hb⟩ => ?_
  subst he
  exact ⟨_, rfl, post_true laidOut rfl hW' rfl (by rw [Try.params8]; intro t ht; simp only [List.mem_cons, List.not_mem_nil, or_false] at ht; rcases ht with rfl | rfl | rfl | rfl <;> exact ⟨by kernel_rfl, of_decide_eq_true (by kernel_rfl)⟩) Try.underlying4 (by kernel_rfl) hb⟩

theorem over : Rows.fnExactSmoothedRow.holds Try.pinned (OpenSpec.ofChange Rows.fnExactSmoothedSpec) :=
  OpenClaim.holds_of_wide 8 Try.f8 rfl rfl rfl rfl rfl rfl rfl ⟨rfl, rfl, rfl, rfl, rfl⟩ rfl rfl rfl rfl rfl (by kernel_rfl) Try.func8 (by kernel_rfl)
    (of_decide_eq_true (by kernel_rfl)) (by unfold Func.isWrapper; first | (rw [if_pos (by decide +kernel)]; kernel_rfl) | (rw [if_neg (by decide +kernel)]; exact ⟨rfl, rfl⟩))
    (fun os started H enc _ => lifted os started H enc)

theorem proved : Rows.FnExactSmoothedSaid := over
end Go.Proofs.Ytcdachkaalkjlaa.FnExactSmoothed
