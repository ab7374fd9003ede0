/- The given law FnExactPullsOf: the program and the reference agree for all arguments and share no memory, so the law returns true; no condition. -/
import Derived.Test.YtbgdnlcjliaigaaOpenI
import Derived.Test.YtbgdnlcjliaigaaPullsOf
namespace Go.Proofs.Ytbgdnlcjliaigaa.FnExactPullsOf
open Go.ChangeShapes Go.WideShapes Go.ChangeAt Go.RowKit Go.Deep Go.Joins
set_option maxRecDepth 100000

set_option maxHeartbeats 1000000 in
theorem walk (j_aC : Int) (A_aC : Option Addr) (n_aC c_aC : Nat) (ar_aC : List Int) (B_aC : Option Addr) (q_aC d_aC : Nat) (xs_aC : List Lb) (aJoints : Int) (w : World) (_bd_aC : -9223372036854775808 ≤ j_aC ∧ j_aC ≤ 9223372036854775807) (hra_aC : Reads w 1 A_aC n_aC (ints ar_aC)) (hma_aC : n_aC ≤ 9223372036854775807) (hrc_aC : Reads w 3 B_aC q_aC (lbs xs_aC)) (hmc_aC : q_aC ≤ 9223372036854775807) (bd_aJoints : -9223372036854775808 ≤ aJoints ∧ aJoints ≤ 9223372036854775807) :
    Calls Try.prog 12 #[.agg #[.int .i64 j_aC, .slice A_aC n_aC c_aC, .slice B_aC q_aC d_aC], .int .i64 aJoints] w fun e w' => e = .returned (.bool true) ∧ Below w.heap.size w w' := by
  by_cases hn0 : n_aC + q_aC ≤ 1048576
  rotate_left
  · skip
    have hB := Below.refl w.heap.size w
    have h_aC := Row.new w 49 [.int .i64 j_aC, .slice A_aC n_aC c_aC, .slice B_aC q_aC d_aC]
    go_enter Try.func12, Try.ntmps12
    go_wp2_with fail
    refine (szControl_f _ _ _ _ _ _ _ _ _ (by omega) (by omega) (by omega) (by omega) (by omega)).mono ?_
    rintro e w1 ⟨rfl, hb⟩
    have hg := step_below (a := w) (by go_grown) hb
    have z1 : w.heap.size < w1.heap.size := Nat.lt_of_lt_of_le (by simp) hb.size
    replace hB := bel_next hB hg nofun
    replace h_aC := h_aC.below hb
    clear hb hg
    go_wp2_with fail
    go_ret
    exact ⟨rfl, hB⟩
  have hB := Below.refl w.heap.size w
  have h_aC := Row.new w 49 [.int .i64 j_aC, .slice A_aC n_aC c_aC, .slice B_aC q_aC d_aC]
  go_enter Try.func12, Try.ntmps12
  go_wp2_with fail
  refine (szControl_t _ _ _ _ _ _ _ _ _ (by omega) (by omega)).mono ?_
  rintro e w1 ⟨rfl, hb⟩
  have hg := step_below (a := w) (by go_grown) hb
  have z1 : w.heap.size < w1.heap.size := Nat.lt_of_lt_of_le (by simp) hb.size
  replace hB := bel_next hB hg nofun
  replace h_aC := h_aC.below hb
  clear hb hg
  have q_aC_0 := h_aC.cell_ (i := 0) rfl
  have q_aC_1 := h_aC.cell_ (i := 1) rfl
  have q_aC_2 := h_aC.cell_ (i := 2) rfl
  have q_aC_l := h_aC.lt
  go_wp2_with fail
  refine (toControl_any ((hra_aC.below hB).below (by go_grown)) (by omega) ((hrc_aC.below hB).below (by go_grown)) (by omega)).mono ?_
  rintro e w2 ⟨g_t0, g_t0c, z_t0, rfl, o_t0, bl, zz, o_t0c, hb⟩
  clear q_aC_0 q_aC_1 q_aC_2 q_aC_l
  have hg := step_below (a := w1) (by go_grown) hb
  have z2 : w1.heap.size ≤ w2.heap.size := hg.size
  replace hB := bel_next hB hg nofun
  replace h_aC := h_aC.grown hg (by simp)
  clear hb hg
  replace o_t0 := ownsRow_le o_t0 (base' := w1.heap.size) (by simp)
  have b_t0 : Blk (some ⟨g_t0, 0, none⟩) (w1.heap.size) z_t0 := fun a ha => by have := bl a ha; first | omega | (simp at this; omega)
  have zl_t0 := b_t0.at; clear bl
  have b_t0c := own_blk o_t0c
  go_wp2_with fail
  refine (spec_PullsOf bd_aJoints ((Reads.of_own o_t0).below (by go_grown)) (by omega) ((Reads.of_own o_t0c).below (by go_grown)) (by omega)).mono ?_
  rintro e w3 ⟨A_w0, n_w0, c_w0, rfl, o_w0, l_w0, hb⟩
  have hg := step_below (a := w2) (by go_grown) hb
  have z3 : w2.heap.size ≤ w3.heap.size := hg.size
  replace hB := bel_next hB hg nofun
  replace h_aC := h_aC.grown hg (by simp)
  replace o_t0 := own_grown o_t0 hg (by simp)
  replace o_t0c := own_grown o_t0c hg (by simp)
  clear hb hg
  replace o_w0 := ownsRow_le o_w0 (base' := w2.heap.size) (by simp)
  have b_w0 := own_blk o_w0
  clear o_t0 b_t0
  clear o_t0c b_t0c
  have q_aC_0 := h_aC.cell_ (i := 0) rfl
  have q_aC_1 := h_aC.cell_ (i := 1) rfl
  have q_aC_2 := h_aC.cell_ (i := 2) rfl
  have q_aC_l := h_aC.lt
  go_wp2_with fail
  refine (toControl_any ((hra_aC.below hB).below (by go_grown)) (by omega) ((hrc_aC.below hB).below (by go_grown)) (by omega)).mono ?_
  rintro e w4 ⟨g_x0, g_x0c, z_x0, rfl, o_x0, bl, zz, o_x0c, hb⟩
  clear q_aC_0 q_aC_1 q_aC_2 q_aC_l
  have hg := step_below (a := w3) (by go_grown) hb
  have z4 : w3.heap.size ≤ w4.heap.size := hg.size
  replace hB := bel_next hB hg nofun
  replace h_aC := h_aC.grown hg (by simp)
  replace o_w0 := own_grown o_w0 hg (by simp)
  clear hb hg
  replace o_x0 := ownsRow_le o_x0 (base' := w3.heap.size) (by simp)
  have b_x0 : Blk (some ⟨g_x0, 0, none⟩) (w3.heap.size) z_x0 := fun a ha => by have := bl a ha; first | omega | (simp at this; omega)
  have zl_x0 := b_x0.at; clear bl
  have b_x0c := own_blk o_x0c
  have h_x0 := Row.new w4 54 [.int .i64 j_aC, .slice (some ⟨g_x0, 0, none⟩) n_aC n_aC, .slice (some ⟨g_x0c, 0, none⟩) q_aC q_aC]
  go_wp2_with fail
  refine (impl_PullsOf ((Reads.of_own o_x0).below (by go_grown)) (by omega) ((Reads.of_own o_x0c).below (by go_grown)) (by omega)).mono ?_
  rintro e w5 ⟨A_g0, n_g0, c_g0, rfl, o_g0, l_g0, hb⟩
  have hg := step_below (a := w4) (by go_grown) hb
  have z5 : w4.heap.size < w5.heap.size := Nat.lt_of_lt_of_le (by simp) hb.size
  replace hB := bel_next hB hg nofun
  replace h_aC := h_aC.grown hg (by simp)
  replace h_x0 := h_x0.below hb
  replace o_w0 := own_grown o_w0 hg (by simp)
  replace o_x0 := own_grown o_x0 hg (by simp)
  replace o_x0c := own_grown o_x0c hg (by simp)
  clear hb hg
  replace o_g0 := ownsRow_le o_g0 (base' := w4.heap.size + 1) (by simp)
  have b_g0 := own_blk o_g0
  go_wp2_with fail
  refine (eqIntS_b ((Reads.of_own o_g0).below (by go_grown)) ((Reads.of_own o_w0).below (by go_grown)) (by omega)).mono ?_
  rintro e w6 ⟨rfl, hb⟩
  have hg := step_below (a := w5) (by go_grown) hb
  have z6 : w5.heap.size ≤ w6.heap.size := hg.size
  replace hB := bel_next hB hg nofun
  replace h_aC := h_aC.grown hg (by simp)
  replace h_x0 := h_x0.grown hg (by simp)
  replace o_w0 := own_grown o_w0 hg (by simp)
  replace o_x0 := own_grown o_x0 hg (by simp)
  replace o_x0c := own_grown o_x0c hg (by simp)
  replace o_g0 := own_grown o_g0 hg (by simp)
  clear hb hg
  have q_x0_0 := h_x0.cell_ (i := 0) rfl
  have q_x0_1 := h_x0.cell_ (i := 1) rfl
  have q_x0_2 := h_x0.cell_ (i := 2) rfl
  have q_x0_l := h_x0.lt
  have q_aC_0 := h_aC.cell_ (i := 0) rfl
  have q_aC_1 := h_aC.cell_ (i := 1) rfl
  have q_aC_2 := h_aC.cell_ (i := 2) rfl
  have q_aC_l := h_aC.lt
  go_wp2_with fail
  go_region_held3 (fun w' => w'.cell? ⟨w4.heap.size, 0, none⟩ = some (.int .i64 j_aC) ∧ w'.cell? ⟨w4.heap.size, 1, none⟩ = some (.slice (some ⟨g_x0, 0, none⟩) n_aC n_aC) ∧ w'.cell? ⟨w4.heap.size, 2, none⟩ = some (.slice (some ⟨g_x0c, 0, none⟩) q_aC q_aC) ∧ w'.cell? ⟨w.heap.size, 0, none⟩ = some (.int .i64 j_aC) ∧ w'.cell? ⟨w.heap.size, 1, none⟩ = some (.slice A_aC n_aC c_aC) ∧ w'.cell? ⟨w.heap.size, 2, none⟩ = some (.slice B_aC q_aC d_aC))
    (first | go_keep | exact ⟨k0, k1, k2, k3, k4, k5⟩ | exact ⟨m0, m1, m2, m3, m4, m5⟩)
    (first | (go_at_call 38; refine (toControl_any ((hra_aC.below hB).below (by go_grown)) (by omega) ((hrc_aC.below hB).below (by go_grown)) (by omega)).mono ?_; rintro e w7 ⟨g_t1, g_t1c, z_t1, rfl, o_t1, bl, zz, o_t1c, hb1⟩; have k0 := keep_cell hb1 q_x0_0; have k1 := keep_cell hb1 q_x0_1; have k2 := keep_cell hb1 q_x0_2; have k3 := keep_cell hb1 q_aC_0; have k4 := keep_cell hb1 q_aC_1; have k5 := keep_cell hb1 q_aC_2) | (go_at_call 40; refine (eqControl_t ((Reads.of_own o_x0).below (below_of_drew hb1)) (Reads.of_own o_t1) (by omega) ((Reads.of_own o_x0c).below (below_of_drew hb1)) (Reads.of_own o_t1c) (by omega)).mono ?_; rintro e w8 ⟨rfl, hb2⟩; have m0 := keep_cell hb2 k0; have m1 := keep_cell hb2 k1; have m2 := keep_cell hb2 k2; have m3 := keep_cell hb2 k3; have m4 := keep_cell hb2 k4; have m5 := keep_cell hb2 k5))
  have hb := Below.trans hb1 (hb2.mono hb1.size)
  clear hb1 hb2 o_t1 bl zz o_t1c k0 k1 k2 k3 k4 k5 m0 m1 m2 m3 m4 m5
  clear q_x0_0 q_x0_1 q_x0_2 q_x0_l q_aC_0 q_aC_1 q_aC_2 q_aC_l
  have hg := step_below (a := w6) (Below.drew (Below.refl _ _)) hb
  have z8 : w6.heap.size ≤ w8.heap.size := hg.size
  replace hB := bel_next hB hg nofun
  replace h_aC := h_aC.grown hg (by simp)
  replace h_x0 := h_x0.grown hg (by simp)
  replace o_w0 := own_grown o_w0 hg (by simp)
  replace o_x0 := own_grown o_x0 hg (by simp)
  replace o_x0c := own_grown o_x0c hg (by simp)
  replace o_g0 := own_grown o_g0 hg (by simp)
  clear hb hg
  have q_x0_0 := h_x0.cell_ (i := 0) rfl
  have q_x0_1 := h_x0.cell_ (i := 1) rfl
  have q_x0_2 := h_x0.cell_ (i := 2) rfl
  have q_x0_l := h_x0.lt
  go_wp2_with fail
  refine (markControl_any (own_below o_x0 (by go_grown)) b_x0 (by omega) (own_below o_x0c (by go_grown)) (Nat.le_refl _) (by omega) (by omega) (by omega)).mono ?_
  rintro e w10 ⟨w9, rfl, hb, hbc⟩
  clear o_x0 o_x0c
  clear q_x0_0 q_x0_1 q_x0_2 q_x0_l
  have hg := step_grown (a := w8) (by go_grown) hb
  have z9 : w8.heap.size ≤ w9.heap.size := hg.size
  replace hB := bel_apart hB hg b_x0 (by omega)
  replace h_aC := row_apart h_aC hg b_x0 (by omega)
  replace h_x0 := row_apart h_x0 hg b_x0 (by omega)
  replace o_w0 := own_apart o_w0 hg b_x0 b_w0 (by omega)
  replace o_g0 := own_apart o_g0 hg b_x0 b_g0 (by omega)
  clear hb hg
  have hb := hbc; clear hbc
  have hg := step_grown (a := w9) (by go_grown) hb
  have z10 : w9.heap.size ≤ w10.heap.size := hg.size
  replace hB := bel_apart hB hg b_x0c (by omega)
  replace h_aC := row_apart h_aC hg b_x0c (by omega)
  replace h_x0 := row_apart h_x0 hg b_x0c (by omega)
  replace o_w0 := own_apart o_w0 hg b_x0c b_w0 (by omega)
  replace o_g0 := own_apart o_g0 hg b_x0c b_g0 (by omega)
  clear hb hg
  go_wp2_with fail
  refine (eqIntS_b ((Reads.of_own o_g0).below (by go_grown)) ((Reads.of_own o_w0).below (by go_grown)) (by omega)).mono ?_
  rintro e w11 ⟨rfl, hb⟩
  have hg := step_below (a := w10) (by go_grown) hb
  have z11 : w10.heap.size ≤ w11.heap.size := hg.size
  replace hB := bel_next hB hg nofun
  replace h_aC := h_aC.grown hg (by simp)
  replace h_x0 := h_x0.grown hg (by simp)
  replace o_w0 := own_grown o_w0 hg (by simp)
  replace o_g0 := own_grown o_g0 hg (by simp)
  clear hb hg
  go_wp2_with fail
  refine (markIntS_any _ _ _ _ _ _ _ (own_below o_g0 (by go_grown)) (by omega) (by omega) (by omega)).mono ?_
  rintro e w12 ⟨rfl, o_g0, hb⟩
  have hg := step_grown (a := w11) (by go_grown) hb
  have z12 : w11.heap.size ≤ w12.heap.size := hg.size
  replace hB := bel_apart hB hg b_g0 (by omega)
  replace h_aC := row_apart h_aC hg b_g0 (by omega)
  replace h_x0 := row_apart h_x0 hg b_g0 (by omega)
  replace o_w0 := own_apart o_w0 hg b_g0 b_w0 (by omega)
  clear hb hg
  go_wp2_with fail
  refine (heldIntS_any _ _ _ _ _ ((Reads.of_own o_g0).below (by go_grown)) (by omega) (by omega) (by omega)).mono ?_
  rintro e w13 ⟨rfl, hw⟩
  have hb := below_of_eq hw; clear hw
  have hg := step_below (a := w12) (by go_grown) hb
  have z13 : w12.heap.size ≤ w13.heap.size := hg.size
  replace hB := bel_next hB hg nofun
  replace h_aC := h_aC.grown hg (by simp)
  replace h_x0 := h_x0.grown hg (by simp)
  replace o_w0 := own_grown o_w0 hg (by simp)
  replace o_g0 := own_grown o_g0 hg (by simp)
  clear hb hg
  have q_aC_0 := h_aC.cell_ (i := 0) rfl
  have q_aC_1 := h_aC.cell_ (i := 1) rfl
  have q_aC_2 := h_aC.cell_ (i := 2) rfl
  have q_aC_l := h_aC.lt
  go_wp2_with fail
  refine (toControl_any ((hra_aC.below hB).below (by go_grown)) (by omega) ((hrc_aC.below hB).below (by go_grown)) (by omega)).mono ?_
  rintro e w14 ⟨g_t2, g_t2c, z_t2, rfl, o_t2, bl, zz, o_t2c, hb⟩
  clear q_aC_0 q_aC_1 q_aC_2 q_aC_l
  have hg := step_below (a := w13) (by go_grown) hb
  have z14 : w13.heap.size ≤ w14.heap.size := hg.size
  replace hB := bel_next hB hg nofun
  replace h_aC := h_aC.grown hg (by simp)
  replace h_x0 := h_x0.grown hg (by simp)
  replace o_w0 := own_grown o_w0 hg (by simp)
  replace o_g0 := own_grown o_g0 hg (by simp)
  clear hb hg
  replace o_t2 := ownsRow_le o_t2 (base' := w13.heap.size) (by simp)
  have b_t2 : Blk (some ⟨g_t2, 0, none⟩) (w13.heap.size) z_t2 := fun a ha => by have := bl a ha; first | omega | (simp at this; omega)
  have zl_t2 := b_t2.at; clear bl
  have b_t2c := own_blk o_t2c
  go_wp2_with fail
  refine (impl_PullsOf ((Reads.of_own o_t2).below (by go_grown)) (by omega) ((Reads.of_own o_t2c).below (by go_grown)) (by omega)).mono ?_
  rintro e w15 ⟨A_h0, n_h0, c_h0, rfl, o_h0, l_h0, hb⟩
  have hg := step_below (a := w14) (by go_grown) hb
  have z15 : w14.heap.size ≤ w15.heap.size := hg.size
  replace hB := bel_next hB hg nofun
  replace h_aC := h_aC.grown hg (by simp)
  replace h_x0 := h_x0.grown hg (by simp)
  replace o_w0 := own_grown o_w0 hg (by simp)
  replace o_g0 := own_grown o_g0 hg (by simp)
  replace o_t2 := own_grown o_t2 hg (by simp)
  replace o_t2c := own_grown o_t2c hg (by simp)
  clear hb hg
  replace o_h0 := ownsRow_le o_h0 (base' := w14.heap.size) (by simp)
  have b_h0 := own_blk o_h0
  clear o_t2 b_t2
  clear o_t2c b_t2c
  go_wp2_with fail
  refine (eqIntS_b ((Reads.of_own o_h0).below (by go_grown)) ((Reads.of_own o_w0).below (by go_grown)) (by omega)).mono ?_
  rintro e w16 ⟨rfl, hb⟩
  have hg := step_below (a := w15) (by go_grown) hb
  have z16 : w15.heap.size ≤ w16.heap.size := hg.size
  replace hB := bel_next hB hg nofun
  replace h_aC := h_aC.grown hg (by simp)
  replace h_x0 := h_x0.grown hg (by simp)
  replace o_w0 := own_grown o_w0 hg (by simp)
  replace o_g0 := own_grown o_g0 hg (by simp)
  replace o_h0 := own_grown o_h0 hg (by simp)
  clear hb hg
  go_wp2_with fail
  refine (heldIntS_any _ _ _ _ _ ((Reads.of_own o_g0).below (by go_grown)) (by omega) (by omega) (by omega)).mono ?_
  rintro e w17 ⟨rfl, hw⟩
  have hb := below_of_eq hw; clear hw
  have hg := step_below (a := w16) (by go_grown) hb
  have z17 : w16.heap.size ≤ w17.heap.size := hg.size
  replace hB := bel_next hB hg nofun
  replace h_aC := h_aC.grown hg (by simp)
  replace h_x0 := h_x0.grown hg (by simp)
  replace o_w0 := own_grown o_w0 hg (by simp)
  replace o_g0 := own_grown o_g0 hg (by simp)
  replace o_h0 := own_grown o_h0 hg (by simp)
  clear hb hg
  go_wp2_with fail
  go_ret
  exact ⟨rfl, hB⟩

set_option maxRecDepth 100000 in
theorem lifted (os : Os) (started : os.Started) (H : Type) (enc : TypeId × Value → H) :
    ReturnsInHanded {} Try.checked os 12 .any (Rows.fnExactPullsOfSpec.pre6 enc Try.prog Try.f12 Rows.fnExactPullsOfRow.domain false) (Rows.fnExactPullsOfSpec.post enc Try.prog Try.f12 false true false false) := by
  refine returnsInHanded_of_change (C := Try.checked) own started (by kernel_rfl) Try.func12
    (ChangeSpec.witness6 (enc := enc) (C := Try.checked) false ⟨#[], #[.agg #[.int .i64 0, .slice none 0 0, .slice none 0 0], .int .i64 0], []⟩ 8 (by kernel_rfl) (by kernel_rfl) (by kernel_rfl) (by kernel_rfl)) ?_
  intro W base args ds gs before hval0 hW hcnd _
  have hval : ∀ (j : Nat) t v, Try.f12.params[j]? = some t → args[j]? = some v → Value.okWide Try.prog W .any base t v := hval0
  have hW' := hW
  obtain ⟨p, q, hA0, hV, rfl, hfz, hnd⟩ := hW
  have hA : DataW.TrodAll enc Try.prog W 0 (fun _ => true) true Try.f12.params.toList args.toList ds p := hA0
  rw [Try.params12] at hA hval
  obtain ⟨v0, vs0, d0, ds0, p0, q0, hargs, rfl, rfl, h0, r0⟩ := trodAll_cons hA
  obtain ⟨v1, vs1, d1, ds1, p1, q1, rfl, rfl, rfl, h1, r1⟩ := trodAll_cons r0
  obtain ⟨rfl, rfl, rfl⟩ := trodAll_nil r1
  obtain rfl : args = #[v0, v1] := by cases args; simp_all
  obtain ⟨rfl, rfl⟩ := trodVars_none hV
  obtain ⟨j0, A0, n0, c0, ar0, B0, q0', e0, xs0, rfl, w0, g0, m0, k0, l0⟩ := open_control (hval 0 49 v0 rfl rfl) h0
  obtain ⟨a1, rfl, rfl, rfl, w1⟩ := open_int Try.underlying3 (hval 1 3 v1 rfl rfl) h1
  refine (walk j0 A0 n0 c0 ar0 B0 q0' e0 xs0 a1 W (bounds_i64 w0) g0 m0 k0 l0 (bounds_i64 w1)).mono fun e W' ⟨he, hb⟩ => ?_
  subst he
  exact ⟨_, rfl, post_true laidOut rfl hW' rfl (by rw [Try.params12]; intro t ht; simp only [List.mem_cons, List.not_mem_nil, or_false] at ht; rcases ht with rfl | rfl <;> exact ⟨by kernel_rfl, of_decide_eq_true (by kernel_rfl)⟩) Try.underlying4 (by kernel_rfl) hb⟩

theorem over : Rows.fnExactPullsOfRow.holds Try.pinned (OpenSpec.ofChange Rows.fnExactPullsOfSpec) :=
  OpenClaim.holds_of_wide 12 Try.f12 rfl rfl rfl rfl rfl rfl rfl ⟨rfl, rfl, rfl, rfl, rfl⟩ rfl rfl rfl rfl rfl (by kernel_rfl) Try.func12 (by kernel_rfl)
    (of_decide_eq_true (by kernel_rfl)) (by unfold Func.isWrapper; first | (rw [if_pos (by decide +kernel)]; kernel_rfl) | (rw [if_neg (by decide +kernel)]; exact ⟨rfl, rfl⟩))
    (fun os started H enc _ => lifted os started H enc)

theorem proved : Rows.FnExactPullsOfSaid := over
end Go.Proofs.Ytbgdnlcjliaigaa.FnExactPullsOf
