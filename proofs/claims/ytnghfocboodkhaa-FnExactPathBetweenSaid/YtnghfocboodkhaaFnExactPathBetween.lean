/- The given law FnExactPathBetween: the program and the reference agree for all arguments and share no memory, so the law returns true; no condition. -/
import Derived.Test.YtnghfocboodkhaaPathI
namespace Go.Proofs.Ytnghfocboodkhaa.FnExactPathBetween
open Go.ChangeShapes Go.WideShapes Go.ChangeAt Go.RowKit Go.Deep Go.Joins
set_option maxRecDepth 100000

set_option maxHeartbeats 1000000 in
theorem walk (j_aB : Int) (A_aB : Option Addr) (n_aB c_aB : Nat) (xs_aB : List Lb) (aI : Int) (aJ : Int) (w : World) (_bd_aB : -9223372036854775808 ≤ j_aB ∧ j_aB ≤ 9223372036854775807) (hr_aB : Reads w 3 A_aB n_aB (lbs xs_aB)) (hm_aB : n_aB ≤ 9223372036854775807) (bd_aI : -9223372036854775808 ≤ aI ∧ aI ≤ 9223372036854775807) (bd_aJ : -9223372036854775808 ≤ aJ ∧ aJ ≤ 9223372036854775807) :
    Calls Try.prog 12 #[.agg #[.int .i64 j_aB, .slice A_aB n_aB c_aB], .int .i64 aI, .int .i64 aJ] w fun e w' => e = .returned (.bool true) ∧ Below w.heap.size w w' := by
  by_cases hn0 : n_aB ≤ 1048576
  rotate_left
  · skip
    have hB := Below.refl w.heap.size w
    have h_aB := Row.new w 31 [.int .i64 j_aB, .slice A_aB n_aB c_aB]
    go_enter Try.func12, Try.ntmps12
    go_wp2_with fail
    refine (szBody_f _ _ _ _ _ _ (by omega) (by omega) (by omega) (by omega)).mono ?_
    rintro e w1 ⟨rfl, hb⟩
    have hg := step_below (a := w) (by go_grown) hb
    have z1 : w.heap.size < w1.heap.size := Nat.lt_of_lt_of_le (by first | (simp; done) | (simp; omega)) hb.size
    replace hB := bel_next hB hg nofun
    replace h_aB := h_aB.below hb
    clear hb hg
    go_wp2_with fail
    go_ret
    exact ⟨rfl, hB⟩
  have hB := Below.refl w.heap.size w
  have h_aB := Row.new w 31 [.int .i64 j_aB, .slice A_aB n_aB c_aB]
  go_enter Try.func12, Try.ntmps12
  go_wp2_with fail
  refine (szBody_t _ _ _ _ _ _ (by omega) (by omega)).mono ?_
  rintro e w1 ⟨rfl, hb⟩
  have hg := step_below (a := w) (by go_grown) hb
  have z1 : w.heap.size < w1.heap.size := Nat.lt_of_lt_of_le (by first | (simp; done) | (simp; omega)) hb.size
  replace hB := bel_next hB hg nofun
  replace h_aB := h_aB.below hb
  clear hb hg
  have q_aB_0 := h_aB.cell_ (i := 0) rfl
  have q_aB_1 := h_aB.cell_ (i := 1) rfl
  have q_aB_l := h_aB.lt
  go_wp2_with fail
  refine (toBody_any _ _ _ _ _ _ ((hr_aB.below hB).below (by go_grown)) (by omega)).mono ?_
  rintro e w2 ⟨g_t0, rfl, o_t0, hb⟩
  clear q_aB_0 q_aB_1 q_aB_l
  have hg := step_below (a := w1) (by go_grown) hb
  have z2 : w1.heap.size ≤ w2.heap.size := hg.size
  replace hB := bel_next hB hg nofun
  replace h_aB := h_aB.grown hg (by simp)
  clear hb hg
  replace o_t0 := ownsRow_le o_t0 (base' := w1.heap.size) (by simp)
  have b_t0 := own_blk o_t0
  go_wp2_with fail
  refine (spec_PathBetween ((Reads.of_own o_t0).below (by go_grown)) (by omega)).mono ?_
  rintro e w3 ⟨A_w0, n_w0, c_w0, rfl, o_w0, l_w0, hb⟩
  have hg := step_below (a := w2) (by go_grown) hb
  have z3 : w2.heap.size ≤ w3.heap.size := hg.size
  replace hB := bel_next hB hg nofun
  replace h_aB := h_aB.grown hg (by simp)
  replace o_t0 := own_grown o_t0 hg (by simp)
  clear hb hg
  replace o_w0 := ownsRow_le o_w0 (base' := w2.heap.size) (by simp)
  have b_w0 := own_blk o_w0
  clear o_t0 b_t0
  have q_aB_0 := h_aB.cell_ (i := 0) rfl
  have q_aB_1 := h_aB.cell_ (i := 1) rfl
  have q_aB_l := h_aB.lt
  go_wp2_with fail
  refine (toBody_any _ _ _ _ _ _ ((hr_aB.below hB).below (by go_grown)) (by omega)).mono ?_
  rintro e w4 ⟨g_x0, rfl, o_x0, hb⟩
  clear q_aB_0 q_aB_1 q_aB_l
  have hg := step_below (a := w3) (by go_grown) hb
  have z4 : w3.heap.size ≤ w4.heap.size := hg.size
  replace hB := bel_next hB hg nofun
  replace h_aB := h_aB.grown hg (by simp)
  replace o_w0 := own_grown o_w0 hg (by simp)
  clear hb hg
  replace o_x0 := ownsRow_le o_x0 (base' := w3.heap.size) (by simp)
  have b_x0 := own_blk o_x0
  have h_x0 := Row.new w4 24 [.int .i64 j_aB, .slice (some ⟨g_x0, 0, none⟩) n_aB n_aB]
  go_wp2_with fail
  refine (impl_PathBetween ((Reads.of_own o_x0).below (by go_grown)) (by omega)).mono ?_
  rintro e w5 ⟨A_g0, n_g0, c_g0, rfl, o_g0, l_g0, hb⟩
  have hg := step_below (a := w4) (by go_grown) hb
  have z5 : w4.heap.size < w5.heap.size := Nat.lt_of_lt_of_le (by first | (simp; done) | (simp; omega)) hb.size
  replace hB := bel_next hB hg nofun
  replace h_aB := h_aB.grown hg (by simp)
  replace h_x0 := h_x0.below hb
  replace o_w0 := own_grown o_w0 hg (by simp)
  replace o_x0 := own_grown o_x0 hg (by simp)
  clear hb hg
  replace o_g0 := ownsRow_le o_g0 (base' := w4.heap.size + 1) (by simp)
  have b_g0 := own_blk o_g0
  go_wp2_with fail
  refine (eqIntS_b ((Reads.of_own o_g0).below (by go_grown)) ((Reads.of_own o_w0).below (by go_grown)) (by omega)).mono ?_
  rintro e w6 ⟨rfl, hb⟩
  have hg := step_below (a := w5) (by go_grown) hb
  have z6 : w5.heap.size ≤ w6.heap.size := hg.size
  replace hB := bel_next hB hg nofun
  replace h_aB := h_aB.grown hg (by simp)
  replace h_x0 := h_x0.grown hg (by simp)
  replace o_w0 := own_grown o_w0 hg (by simp)
  replace o_x0 := own_grown o_x0 hg (by simp)
  replace o_g0 := own_grown o_g0 hg (by simp)
  clear hb hg
  have q_x0_0 := h_x0.cell_ (i := 0) rfl
  have q_x0_1 := h_x0.cell_ (i := 1) rfl
  have q_x0_l := h_x0.lt
  have q_aB_0 := h_aB.cell_ (i := 0) rfl
  have q_aB_1 := h_aB.cell_ (i := 1) rfl
  have q_aB_l := h_aB.lt
  go_wp2_with fail
  go_region_held3 (fun w' => w'.cell? ⟨w4.heap.size, 0, none⟩ = some (.int .i64 j_aB) ∧ w'.cell? ⟨w4.heap.size, 1, none⟩ = some (.slice (some ⟨g_x0, 0, none⟩) n_aB n_aB) ∧ w'.cell? ⟨w.heap.size, 0, none⟩ = some (.int .i64 j_aB) ∧ w'.cell? ⟨w.heap.size, 1, none⟩ = some (.slice A_aB n_aB c_aB))
    (first | go_keep | exact ⟨k0, k1, k2, k3⟩ | exact ⟨m0, m1, m2, m3⟩)
    (first | (go_at_call 22; refine (toBody_any _ _ _ _ _ _ ((hr_aB.below hB).below (by go_grown)) (by omega)).mono ?_; rintro e w7 ⟨g_t1, rfl, o_t1, hb1⟩; have k0 := keep_cell hb1 q_x0_0; have k1 := keep_cell hb1 q_x0_1; have k2 := keep_cell hb1 q_aB_0; have k3 := keep_cell hb1 q_aB_1) | (go_at_call 17; refine (eqBody_t _ _ _ _ _ _ _ _ ((Reads.of_own o_x0).below (below_of_drew hb1)) (Reads.of_own o_t1) (by omega)).mono ?_; rintro e w8 ⟨rfl, hb2⟩; have m0 := keep_cell hb2 k0; have m1 := keep_cell hb2 k1; have m2 := keep_cell hb2 k2; have m3 := keep_cell hb2 k3))
  have hb := Below.trans hb1 (hb2.mono hb1.size)
  clear hb1 hb2 o_t1 k0 k1 k2 k3 m0 m1 m2 m3
  clear q_x0_0 q_x0_1 q_x0_l q_aB_0 q_aB_1 q_aB_l
  have hg := step_below (a := w6) (Below.drew (Below.refl _ _)) hb
  have z8 : w6.heap.size ≤ w8.heap.size := hg.size
  replace hB := bel_next hB hg nofun
  replace h_aB := h_aB.grown hg (by simp)
  replace h_x0 := h_x0.grown hg (by simp)
  replace o_w0 := own_grown o_w0 hg (by simp)
  replace o_x0 := own_grown o_x0 hg (by simp)
  replace o_g0 := own_grown o_g0 hg (by simp)
  clear hb hg
  have q_x0_0 := h_x0.cell_ (i := 0) rfl
  have q_x0_1 := h_x0.cell_ (i := 1) rfl
  have q_x0_l := h_x0.lt
  go_wp2_with fail
  refine (markBody_any _ _ _ _ _ _ _ _ (own_below o_x0 (by go_grown)) (by omega) (by omega) (by omega)).mono ?_
  rintro e w9 ⟨rfl, o_x0, hb⟩
  clear q_x0_0 q_x0_1 q_x0_l
  have hg := step_grown (a := w8) (by go_grown) hb
  have z9 : w8.heap.size ≤ w9.heap.size := hg.size
  replace hB := bel_apart hB hg b_x0 (by omega)
  replace h_aB := row_apart h_aB hg b_x0 (by omega)
  replace h_x0 := row_apart h_x0 hg b_x0 (by omega)
  replace o_w0 := own_apart o_w0 hg b_x0 b_w0 (by omega)
  replace o_g0 := own_apart o_g0 hg b_x0 b_g0 (by omega)
  clear hb hg
  go_wp2_with fail
  refine (eqIntS_b ((Reads.of_own o_g0).below (by go_grown)) ((Reads.of_own o_w0).below (by go_grown)) (by omega)).mono ?_
  rintro e w10 ⟨rfl, hb⟩
  have hg := step_below (a := w9) (by go_grown) hb
  have z10 : w9.heap.size ≤ w10.heap.size := hg.size
  replace hB := bel_next hB hg nofun
  replace h_aB := h_aB.grown hg (by simp)
  replace h_x0 := h_x0.grown hg (by simp)
  replace o_w0 := own_grown o_w0 hg (by simp)
  replace o_x0 := own_grown o_x0 hg (by simp)
  replace o_g0 := own_grown o_g0 hg (by simp)
  clear hb hg
  go_wp2_with fail
  refine (markIntS_any _ _ _ _ _ _ _ (own_below o_g0 (by go_grown)) (by omega) (by omega) (by omega)).mono ?_
  rintro e w11 ⟨rfl, o_g0, hb⟩
  have hg := step_grown (a := w10) (by go_grown) hb
  have z11 : w10.heap.size ≤ w11.heap.size := hg.size
  replace hB := bel_apart hB hg b_g0 (by omega)
  replace h_aB := row_apart h_aB hg b_g0 (by omega)
  replace h_x0 := row_apart h_x0 hg b_g0 (by omega)
  replace o_w0 := own_apart o_w0 hg b_g0 b_w0 (by omega)
  replace o_x0 := own_apart o_x0 hg b_g0 b_x0 (by omega)
  clear hb hg
  go_wp2_with fail
  refine (heldIntS_any _ _ _ _ _ ((Reads.of_own o_g0).below (by go_grown)) (by omega) (by omega) (by omega)).mono ?_
  rintro e w12 ⟨rfl, hw⟩
  have hb := below_of_eq hw; clear hw
  have hg := step_below (a := w11) (by go_grown) hb
  have z12 : w11.heap.size ≤ w12.heap.size := hg.size
  replace hB := bel_next hB hg nofun
  replace h_aB := h_aB.grown hg (by simp)
  replace h_x0 := h_x0.grown hg (by simp)
  replace o_w0 := own_grown o_w0 hg (by simp)
  replace o_x0 := own_grown o_x0 hg (by simp)
  replace o_g0 := own_grown o_g0 hg (by simp)
  clear hb hg
  have q_aB_0 := h_aB.cell_ (i := 0) rfl
  have q_aB_1 := h_aB.cell_ (i := 1) rfl
  have q_aB_l := h_aB.lt
  go_wp2_with fail
  refine (toBody_any _ _ _ _ _ _ ((hr_aB.below hB).below (by go_grown)) (by omega)).mono ?_
  rintro e w13 ⟨g_t2, rfl, o_t2, hb⟩
  clear q_aB_0 q_aB_1 q_aB_l
  have hg := step_below (a := w12) (by go_grown) hb
  have z13 : w12.heap.size ≤ w13.heap.size := hg.size
  replace hB := bel_next hB hg nofun
  replace h_aB := h_aB.grown hg (by simp)
  replace h_x0 := h_x0.grown hg (by simp)
  replace o_w0 := own_grown o_w0 hg (by simp)
  replace o_x0 := own_grown o_x0 hg (by simp)
  replace o_g0 := own_grown o_g0 hg (by simp)
  clear hb hg
  replace o_t2 := ownsRow_le o_t2 (base' := w12.heap.size) (by simp)
  have b_t2 := own_blk o_t2
  go_wp2_with fail
  refine (impl_PathBetween ((Reads.of_own o_t2).below (by go_grown)) (by omega)).mono ?_
  rintro e w14 ⟨A_h0, n_h0, c_h0, rfl, o_h0, l_h0, hb⟩
  have hg := step_below (a := w13) (by go_grown) hb
  have z14 : w13.heap.size ≤ w14.heap.size := hg.size
  replace hB := bel_next hB hg nofun
  replace h_aB := h_aB.grown hg (by simp)
  replace h_x0 := h_x0.grown hg (by simp)
  replace o_w0 := own_grown o_w0 hg (by simp)
  replace o_x0 := own_grown o_x0 hg (by simp)
  replace o_g0 := own_grown o_g0 hg (by simp)
  replace o_t2 := own_grown o_t2 hg (by simp)
  clear hb hg
  replace o_h0 := ownsRow_le o_h0 (base' := w13.heap.size) (by simp)
  have b_h0 := own_blk o_h0
  clear o_t2 b_t2
  go_wp2_with fail
  refine (eqIntS_b ((Reads.of_own o_h0).below (by go_grown)) ((Reads.of_own o_w0).below (by go_grown)) (by omega)).mono ?_
  rintro e w15 ⟨rfl, hb⟩
  have hg := step_below (a := w14) (by go_grown) hb
  have z15 : w14.heap.size ≤ w15.heap.size := hg.size
  replace hB := bel_next hB hg nofun
  replace h_aB := h_aB.grown hg (by simp)
  replace h_x0 := h_x0.grown hg (by simp)
  replace o_w0 := own_grown o_w0 hg (by simp)
  replace o_x0 := own_grown o_x0 hg (by simp)
  replace o_g0 := own_grown o_g0 hg (by simp)
  replace o_h0 := own_grown o_h0 hg (by simp)
  clear hb hg
  go_wp2_with fail
  refine (heldIntS_any _ _ _ _ _ ((Reads.of_own o_g0).below (by go_grown)) (by omega) (by omega) (by omega)).mono ?_
  rintro e w16 ⟨rfl, hw⟩
  have hb := below_of_eq hw; clear hw
  have hg := step_below (a := w15) (by go_grown) hb
  have z16 : w15.heap.size ≤ w16.heap.size := hg.size
  replace hB := bel_next hB hg nofun
  replace h_aB := h_aB.grown hg (by simp)
  replace h_x0 := h_x0.grown hg (by simp)
  replace o_w0 := own_grown o_w0 hg (by simp)
  replace o_x0 := own_grown o_x0 hg (by simp)
  replace o_g0 := own_grown o_g0 hg (by simp)
  replace o_h0 := own_grown o_h0 hg (by simp)
  clear hb hg
  go_wp2_with fail
  go_ret
  exact ⟨rfl, hB⟩

set_option maxRecDepth 100000 in
theorem lifted (os : Os) (started : os.Started) (H : Type) (enc : TypeId × Value → H) :
    ReturnsInHanded {} Try.checked os 12 .any (Rows.fnExactPathBetweenSpec.pre6 enc Try.prog Try.f12 Rows.fnExactPathBetweenRow.domain false) (Rows.fnExactPathBetweenSpec.post enc Try.prog Try.f12 false true false false) := by
  refine returnsInHanded_of_change (C := Try.checked) own started (by kernel_rfl) Try.func12
    (ChangeSpec.witness6 (enc := enc) (C := Try.checked) false ⟨#[], #[.agg #[.int .i64 0, .slice none 0 0], .int .i64 0, .int .i64 0], []⟩ 8 (by kernel_rfl) (by kernel_rfl) (by kernel_rfl) (by kernel_rfl)) ?_
  intro W base args ds gs before hval0 hW hcnd _
  have hval : ∀ (j : Nat) t v, Try.f12.params[j]? = some t → args[j]? = some v → Value.okWide Try.prog W .any base t v := hval0
  have hW' := hW
  obtain ⟨p, q, hA0, hV, rfl, hfz, hnd⟩ := hW
  have hA : DataW.TrodAll enc Try.prog W 0 (fun _ => true) true Try.f12.params.toList args.toList ds p := hA0
  rw [Try.params12] at hA hval
  obtain ⟨v0, vs0, d0, ds0, p0, q0, hargs, rfl, rfl, h0, r0⟩ := trodAll_cons hA
  obtain ⟨v1, vs1, d1, ds1, p1, q1, rfl, rfl, rfl, h1, r1⟩ := trodAll_cons r0
  obtain ⟨v2, vs2, d2, ds2, p2, q2, rfl, rfl, rfl, h2, r2⟩ := trodAll_cons r1
  obtain ⟨rfl, rfl, rfl⟩ := trodAll_nil r2
  obtain rfl : args = #[v0, v1, v2] := by cases args; simp_all
  obtain ⟨rfl, rfl⟩ := trodVars_none hV
  obtain ⟨j0, A0, n0, c0, xs0, rfl, w0, g0, m0⟩ := open_body (hval 0 31 v0 rfl rfl) h0
  obtain ⟨a1, rfl, rfl, rfl, w1⟩ := open_int Try.underlying3 (hval 1 3 v1 rfl rfl) h1
  obtain ⟨a2, rfl, rfl, rfl, w2⟩ := open_int Try.underlying3 (hval 2 3 v2 rfl rfl) h2
  refine (walk j0 A0 n0 c0 xs0 a1 a2 W (bounds_i64 w0) g0 m0 (bounds_i64 w1) (bounds_i64 w2)).mono fun e W' ⟨he, hb⟩ => ?_
  subst he
  exact ⟨_, rfl, post_true laidOut rfl hW' rfl (by rw [Try.params12]; intro t ht; simp only [List.mem_cons, List.not_mem_nil, or_false] at ht; rcases ht with rfl | rfl | rfl <;> exact ⟨by kernel_rfl, of_decide_eq_true (by kernel_rfl)⟩) Try.underlying4 (by kernel_rfl) hb⟩

theorem over : Rows.fnExactPathBetweenRow.holds Try.pinned (OpenSpec.ofChange Rows.fnExactPathBetweenSpec) :=
  OpenClaim.holds_of_wide 12 Try.f12 rfl rfl rfl rfl rfl rfl rfl ⟨rfl, rfl, rfl, rfl, rfl⟩ rfl rfl rfl rfl rfl (by kernel_rfl) Try.func12 (by kernel_rfl)
    (of_decide_eq_true (by kernel_rfl)) (by unfold Func.isWrapper; first | (rw [if_pos (by decide +kernel)]; kernel_rfl) | (rw [if_neg (by decide +kernel)]; exact ⟨rfl, rfl⟩))
    (fun os started H enc _ => lifted os started H enc)

theorem proved : Rows.FnExactPathBetweenSaid := over
end Go.Proofs.Ytnghfocboodkhaa.FnExactPathBetween
