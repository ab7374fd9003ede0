/- The given law FnExactCenterOf: the program and the reference agree for all arguments and share no memory, so the law returns true; no condition. -/
import Derived.Test.YtnghfocboodkhaaSpanS
namespace Go.Proofs.Ytnghfocboodkhaa.FnExactCenterOf
open Go.ChangeShapes Go.WideShapes Go.ChangeAt Go.RowKit Go.Deep Go.Joins
set_option maxRecDepth 100000

set_option maxHeartbeats 1000000 in
theorem walk (j_aB : Int) (A_aB : Option Addr) (n_aB c_aB : Nat) (xs_aB : List Lb) (w : World) (bd_aB : -9223372036854775808 ≤ j_aB ∧ j_aB ≤ 9223372036854775807) (hr_aB : Reads w 3 A_aB n_aB (lbs xs_aB)) (hm_aB : n_aB ≤ 9223372036854775807) :
    Calls Try.prog 11 #[.agg #[.int .i64 j_aB, .slice A_aB n_aB c_aB]] w fun e w' => e = .returned (.bool true) ∧ Below w.heap.size w w' := by
  by_cases hn0 : n_aB ≤ 1048576
  rotate_left
  · skip
    have hB := Below.refl w.heap.size w
    have h_aB := Row.new w 31 [.int .i64 j_aB, .slice A_aB n_aB c_aB]
    go_enter Try.func11, Try.ntmps11
    go_wp2_with fail
    refine (szBody_f _ _ _ _ _ _ (by omega) (by omega) (by omega) (by omega)).mono ?_
    rintro e w1 ⟨rfl, hb⟩
    have hg := step_below (a := w) (by go_grown) hb
    have z1 : w.heap.size < w1.heap.size := Nat.lt_of_lt_of_le (by simp) hb.size
    replace hB := bel_next hB hg nofun
    replace h_aB := h_aB.below hb
    clear hb hg
    go_wp2_with fail
    go_ret
    exact ⟨rfl, hB⟩
  have hB := Below.refl w.heap.size w
  have h_aB := Row.new w 31 [.int .i64 j_aB, .slice A_aB n_aB c_aB]
  go_enter Try.func11, Try.ntmps11
  go_wp2_with fail
  refine (szBody_t _ _ _ _ _ _ (by omega) (by omega)).mono ?_
  rintro e w1 ⟨rfl, hb⟩
  have hg := step_below (a := w) (by go_grown) hb
  have z1 : w.heap.size < w1.heap.size := Nat.lt_of_lt_of_le (by simp) hb.size
  replace hB := bel_next hB hg nofun
  replace h_aB := h_aB.below hb
  clear hb hg
  have q_aB_0 := h_aB.cell_ (i := 0) rfl
  have q_aB_1 := h_aB.cell_ (i := 1) rfl
  have q_aB_l := h_aB.lt
  go_wp2_with fail
  refine (toBody_any _ _ _ _ _ _ ((hr_aB.below hB).below (by go_grown)) (by omega)).mono ?_
  rintro e w2 ⟨g_t0, rfl, o_t0, hb⟩
  clear q_aB_0 q_aB_1 q_aB_l
  have hg := step_below (a := w1) (by go_grown) hb
  have z2 : w1.heap.size ≤ w2.heap.size := hg.size
  replace hB := bel_next hB hg nofun
  replace h_aB := h_aB.grown hg (by simp)
  clear hb hg
  replace o_t0 := ownsRow_le o_t0 (base' := w1.heap.size) (by simp)
  have b_t0 := own_blk o_t0
  go_wp2_with fail
  refine (spec_CenterOf ((Reads.of_own o_t0).below (by go_grown)) (by omega)).mono ?_
  rintro e w3 ⟨rfl, hb⟩
  have hg := step_below (a := w2) (by go_grown) hb
  have z3 : w2.heap.size ≤ w3.heap.size := hg.size
  replace hB := bel_next hB hg nofun
  replace h_aB := h_aB.grown hg (by simp)
  replace o_t0 := own_grown o_t0 hg (by simp)
  clear hb hg
  clear o_t0 b_t0
  have q_aB_0 := h_aB.cell_ (i := 0) rfl
  have q_aB_1 := h_aB.cell_ (i := 1) rfl
  have q_aB_l := h_aB.lt
  go_wp2_with fail
  refine (toBody_any _ _ _ _ _ _ ((hr_aB.below hB).below (by go_grown)) (by omega)).mono ?_
  rintro e w4 ⟨g_x0, rfl, o_x0, hb⟩
  clear q_aB_0 q_aB_1 q_aB_l
  have hg := step_below (a := w3) (by go_grown) hb
  have z4 : w3.heap.size ≤ w4.heap.size := hg.size
  replace hB := bel_next hB hg nofun
  replace h_aB := h_aB.grown hg (by simp)
  clear hb hg
  replace o_x0 := ownsRow_le o_x0 (base' := w3.heap.size) (by simp)
  have b_x0 := own_blk o_x0
  have h_x0 := Row.new w4 24 [.int .i64 j_aB, .slice (some ⟨g_x0, 0, none⟩) n_aB n_aB]
  go_wp2_with fail
  refine (impl_CenterOf ((Reads.of_own o_x0).below (by go_grown)) (by omega)).mono ?_
  rintro e w5 ⟨rfl, hb⟩
  have hg := step_below (a := w4) (by go_grown) hb
  have z5 : w4.heap.size < w5.heap.size := Nat.lt_of_lt_of_le (by simp) hb.size
  replace hB := bel_next hB hg nofun
  replace h_aB := h_aB.grown hg (by simp)
  replace h_x0 := h_x0.below hb
  replace o_x0 := own_grown o_x0 hg (by simp)
  clear hb hg
  have q_x0_0 := h_x0.cell_ (i := 0) rfl
  have q_x0_1 := h_x0.cell_ (i := 1) rfl
  have q_x0_l := h_x0.lt
  have q_aB_0 := h_aB.cell_ (i := 0) rfl
  have q_aB_1 := h_aB.cell_ (i := 1) rfl
  have q_aB_l := h_aB.lt
  go_wp2_with fail
  go_region_held3 (fun w' => w'.cell? ⟨w4.heap.size, 0, none⟩ = some (.int .i64 j_aB) ∧ w'.cell? ⟨w4.heap.size, 1, none⟩ = some (.slice (some ⟨g_x0, 0, none⟩) n_aB n_aB) ∧ w'.cell? ⟨w.heap.size, 0, none⟩ = some (.int .i64 j_aB) ∧ w'.cell? ⟨w.heap.size, 1, none⟩ = some (.slice A_aB n_aB c_aB))
    (first | go_keep | exact ⟨k0, k1, k2, k3⟩ | exact ⟨m0, m1, m2, m3⟩)
    (first | (go_at_call 22; refine (toBody_any _ _ _ _ _ _ ((hr_aB.below hB).below (by go_grown)) (by omega)).mono ?_; rintro e w6 ⟨g_t1, rfl, o_t1, hb1⟩; have k0 := keep_cell hb1 q_x0_0; have k1 := keep_cell hb1 q_x0_1; have k2 := keep_cell hb1 q_aB_0; have k3 := keep_cell hb1 q_aB_1) | (go_at_call 17; refine (eqBody_t _ _ _ _ _ _ _ _ ((Reads.of_own o_x0).below (below_of_drew hb1)) (Reads.of_own o_t1) (by omega)).mono ?_; rintro e w7 ⟨rfl, hb2⟩; have m0 := keep_cell hb2 k0; have m1 := keep_cell hb2 k1; have m2 := keep_cell hb2 k2; have m3 := keep_cell hb2 k3))
  have hb := Below.trans hb1 (hb2.mono hb1.size)
  clear hb1 hb2 o_t1 k0 k1 k2 k3 m0 m1 m2 m3
  clear q_x0_0 q_x0_1 q_x0_l q_aB_0 q_aB_1 q_aB_l
  have hg := step_below (a := w5) (Below.drew (Below.refl _ _)) hb
  have z7 : w5.heap.size ≤ w7.heap.size := hg.size
  replace hB := bel_next hB hg nofun
  replace h_aB := h_aB.grown hg (by simp)
  replace h_x0 := h_x0.grown hg (by simp)
  replace o_x0 := own_grown o_x0 hg (by simp)
  clear hb hg
  go_wp2_with fail
  go_ret
  exact ⟨rfl, hB⟩

set_option maxRecDepth 100000 in
theorem lifted (os : Os) (started : os.Started) (H : Type) (enc : TypeId × Value → H) :
    ReturnsInHanded {} Try.checked os 11 .any (Rows.fnExactCenterOfSpec.pre6 enc Try.prog Try.f11 Rows.fnExactCenterOfRow.domain false) (Rows.fnExactCenterOfSpec.post enc Try.prog Try.f11 false true false false) := by
  refine returnsInHanded_of_change (C := Try.checked) own started (by kernel_rfl) Try.func11
    (ChangeSpec.witness6 (enc := enc) (C := Try.checked) false ⟨#[], #[.agg #[.int .i64 0, .slice none 0 0]], []⟩ 8 (by kernel_rfl) (by kernel_rfl) (by kernel_rfl) (by kernel_rfl)) ?_
  intro W base args ds gs before hval0 hW hcnd _
  have hval : ∀ (j : Nat) t v, Try.f11.params[j]? = some t → args[j]? = some v → Value.okWide Try.prog W .any base t v := hval0
  have hW' := hW
  obtain ⟨p, q, hA0, hV, rfl, hfz, hnd⟩ := hW
  have hA : DataW.TrodAll enc Try.prog W 0 (fun _ => true) true Try.f11.params.toList args.toList ds p := hA0
  rw [Try.params11] at hA hval
  obtain ⟨v0, vs0, d0, ds0, p0, q0, hargs, rfl, rfl, h0, r0⟩ := trodAll_cons hA
  obtain ⟨rfl, rfl, rfl⟩ := trodAll_nil r0
  obtain rfl : args = #[v0] := by cases args; simp_all
  obtain ⟨rfl, rfl⟩ := trodVars_none hV
  obtain ⟨j0, A0, n0, c0, xs0, rfl, w0, g0, m0⟩ := open_body (hval 0 31 v0 rfl rfl) h0
  refine (walk j0 A0 n0 c0 xs0 W (bounds_i64 w0) g0 m0).mono fun e W' ⟨he, hb⟩ => ?_
  subst he
  exact ⟨_, rfl, post_true laidOut rfl hW' rfl (by rw [Try.params11]; intro t ht; simp only [List.mem_cons, List.not_mem_nil, or_false] at ht; rcases ht with rfl <;> exact ⟨by kernel_rfl, of_decide_eq_true (by kernel_rfl)⟩) Try.underlying4 (by kernel_rfl) hb⟩

theorem over : Rows.fnExactCenterOfRow.holds Try.pinned (OpenSpec.ofChange Rows.fnExactCenterOfSpec) :=
  OpenClaim.holds_of_wide 11 Try.f11 rfl rfl rfl rfl rfl rfl rfl ⟨rfl, rfl, rfl, rfl, rfl⟩ rfl rfl rfl rfl rfl (by kernel_rfl) Try.func11 (by kernel_rfl)
    (of_decide_eq_true (by kernel_rfl)) (by unfold Func.isWrapper; first | (rw [if_pos (by decide +kernel)]; kernel_rfl) | (rw [if_neg (by decide +kernel)]; exact ⟨rfl, rfl⟩))
    (fun os started H enc _ => lifted os started H enc)

theorem proved : Rows.FnExactCenterOfSaid := over
end Go.Proofs.Ytnghfocboodkhaa.FnExactCenterOf
