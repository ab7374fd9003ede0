/- The given law FnExactAreSameShape: the program and the reference agree for all arguments and share no memory, so the law returns true; no condition. -/
import Derived.Test.YtnghfocboodkhaaShape
namespace Go.Proofs.Ytnghfocboodkhaa.FnExactAreSameShape
open Go.ChangeShapes Go.WideShapes Go.ChangeAt Go.RowKit Go.Deep Go.Joins
set_option maxRecDepth 100000

set_option maxHeartbeats 1000000 in
theorem walk (j_aB : Int) (A_aB : Option Addr) (n_aB c_aB : Nat) (xs_aB : List Lb) (j_aC : Int) (A_aC : Option Addr) (n_aC c_aC : Nat) (xs_aC : List Lb) (w : World) (_bd_aB : -9223372036854775808 ≤ j_aB ∧ j_aB ≤ 9223372036854775807) (hr_aB : Reads w 3 A_aB n_aB (lbs xs_aB)) (hm_aB : n_aB ≤ 9223372036854775807) (_bd_aC : -9223372036854775808 ≤ j_aC ∧ j_aC ≤ 9223372036854775807) (hr_aC : Reads w 3 A_aC n_aC (lbs xs_aC)) (hm_aC : n_aC ≤ 9223372036854775807) :
    Calls Try.prog 9 #[.agg #[.int .i64 j_aB, .slice A_aB n_aB c_aB], .agg #[.int .i64 j_aC, .slice A_aC n_aC c_aC]] w fun e w' => e = .returned (.bool true) ∧ Below w.heap.size w w' := by
  by_cases hn0 : n_aB ≤ 1048576
  rotate_left
  · skip
    have hB := Below.refl w.heap.size w
    have h_aB := Row.new w 31 [.int .i64 j_aB, .slice A_aB n_aB c_aB]
    replace h_aB := h_aB.alloc (.cells #[.int .i64 j_aC, .slice A_aC n_aC c_aC] 31)
    have h_aC := Row.new (w.alloc (.cells #[.int .i64 j_aB, .slice A_aB n_aB c_aB] 31)) 31 [.int .i64 j_aC, .slice A_aC n_aC c_aC]
    rw [show (w.alloc (.cells #[.int .i64 j_aB, .slice A_aB n_aB c_aB] 31)).heap.size = w.heap.size + 1 from by simp] at h_aC
    go_enter Try.func9, Try.ntmps9
    go_wp2_with fail
    refine (szBody_f _ _ _ _ _ _ (by omega) (by omega) (by omega) (by omega)).mono ?_
    rintro e w1 ⟨rfl, hb⟩
    have hg := step_below (a := w) (by go_grown) hb
    have z1 : w.heap.size < w1.heap.size := Nat.lt_of_lt_of_le (by first | (simp; done) | (simp; omega)) hb.size
    replace hB := bel_next hB hg nofun
    replace h_aB := h_aB.below hb
    replace h_aC := h_aC.below hb
    clear hb hg
    go_wp2_with fail
    go_ret
    exact ⟨rfl, hB⟩
  by_cases hn1 : n_aB + n_aC ≤ 1048576
  rotate_left
  · skip
    have hB := Below.refl w.heap.size w
    have h_aB := Row.new w 31 [.int .i64 j_aB, .slice A_aB n_aB c_aB]
    replace h_aB := h_aB.alloc (.cells #[.int .i64 j_aC, .slice A_aC n_aC c_aC] 31)
    have h_aC := Row.new (w.alloc (.cells #[.int .i64 j_aB, .slice A_aB n_aB c_aB] 31)) 31 [.int .i64 j_aC, .slice A_aC n_aC c_aC]
    rw [show (w.alloc (.cells #[.int .i64 j_aB, .slice A_aB n_aB c_aB] 31)).heap.size = w.heap.size + 1 from by simp] at h_aC
    go_enter Try.func9, Try.ntmps9
    go_wp2_with fail
    refine (szBody_t _ _ _ _ _ _ (by omega) (by omega)).mono ?_
    rintro e w1 ⟨rfl, hb⟩
    have hg := step_below (a := w) (by go_grown) hb
    have z1 : w.heap.size < w1.heap.size := Nat.lt_of_lt_of_le (by first | (simp; done) | (simp; omega)) hb.size
    replace hB := bel_next hB hg nofun
    replace h_aB := h_aB.below hb
    replace h_aC := h_aC.below hb
    clear hb hg
    have q_aC_0 := h_aC.cell_ (i := 0) rfl
    have q_aC_1 := h_aC.cell_ (i := 1) rfl
    have q_aC_l := h_aC.lt
    go_wp2_with fail
    refine (szBody_f _ _ _ _ _ _ (by omega) (by omega) (by omega) (by omega)).mono ?_
    rintro e w2 ⟨rfl, hb⟩
    clear q_aC_0 q_aC_1 q_aC_l
    have hg := step_below (a := w1) (by go_grown) hb
    have z2 : w1.heap.size ≤ w2.heap.size := hg.size
    replace hB := bel_next hB hg nofun
    replace h_aB := h_aB.grown hg (by simp)
    replace h_aC := h_aC.grown hg (by simp)
    clear hb hg
    go_wp2_with fail
    go_ret
    exact ⟨rfl, hB⟩
  have hB := Below.refl w.heap.size w
  have h_aB := Row.new w 31 [.int .i64 j_aB, .slice A_aB n_aB c_aB]
  replace h_aB := h_aB.alloc (.cells #[.int .i64 j_aC, .slice A_aC n_aC c_aC] 31)
  have h_aC := Row.new (w.alloc (.cells #[.int .i64 j_aB, .slice A_aB n_aB c_aB] 31)) 31 [.int .i64 j_aC, .slice A_aC n_aC c_aC]
  rw [show (w.alloc (.cells #[.int .i64 j_aB, .slice A_aB n_aB c_aB] 31)).heap.size = w.heap.size + 1 from by simp] at h_aC
  go_enter Try.func9, Try.ntmps9
  go_wp2_with fail
  refine (szBody_t _ _ _ _ _ _ (by omega) (by omega)).mono ?_
  rintro e w1 ⟨rfl, hb⟩
  have hg := step_below (a := w) (by go_grown) hb
  have z1 : w.heap.size < w1.heap.size := Nat.lt_of_lt_of_le (by first | (simp; done) | (simp; omega)) hb.size
  replace hB := bel_next hB hg nofun
  replace h_aB := h_aB.below hb
  replace h_aC := h_aC.below hb
  clear hb hg
  have q_aC_0 := h_aC.cell_ (i := 0) rfl
  have q_aC_1 := h_aC.cell_ (i := 1) rfl
  have q_aC_l := h_aC.lt
  go_wp2_with fail
  refine (szBody_t _ _ _ _ _ _ (by omega) (by omega)).mono ?_
  rintro e w2 ⟨rfl, hb⟩
  clear q_aC_0 q_aC_1 q_aC_l
  have hg := step_below (a := w1) (by go_grown) hb
  have z2 : w1.heap.size ≤ w2.heap.size := hg.size
  replace hB := bel_next hB hg nofun
  replace h_aB := h_aB.grown hg (by simp)
  replace h_aC := h_aC.grown hg (by simp)
  clear hb hg
  have q_aB_0 := h_aB.cell_ (i := 0) rfl
  have q_aB_1 := h_aB.cell_ (i := 1) rfl
  have q_aB_l := h_aB.lt
  have q_aC_0 := h_aC.cell_ (i := 0) rfl
  have q_aC_1 := h_aC.cell_ (i := 1) rfl
  have q_aC_l := h_aC.lt
  go_wp2_with fail
  go_region_held3 (fun w' => w'.cell? ⟨w.heap.size, 0, none⟩ = some (.int .i64 j_aB) ∧ w'.cell? ⟨w.heap.size, 1, none⟩ = some (.slice A_aB n_aB c_aB) ∧ w'.cell? ⟨w.heap.size + 1, 0, none⟩ = some (.int .i64 j_aC) ∧ w'.cell? ⟨w.heap.size + 1, 1, none⟩ = some (.slice A_aC n_aC c_aC))
    (first | go_keep | exact ⟨k0, k1, k2, k3⟩ | exact ⟨l0, l1, l2, l3⟩ | exact ⟨m0, m1, m2, m3⟩)
    (first | (go_at_call_of 22 (Value.slice A_aB n_aB c_aB); refine (toBody_any _ _ _ _ _ _ ((hr_aB.below hB).below (by go_grown)) (by omega)).mono ?_; rintro e w3 ⟨g_t0, rfl, o_t0, hb1⟩; have k0 := keep_cell hb1 q_aB_0; have k1 := keep_cell hb1 q_aB_1; have k2 := keep_cell hb1 q_aC_0; have k3 := keep_cell hb1 q_aC_1) | (go_at_call_of 22 (Value.slice A_aC n_aC c_aC); refine (toBody_any _ _ _ _ _ _ (((hr_aC.below hB).below (by go_grown)).below hb1) (by omega)).mono ?_; rintro e w4 ⟨g_t1, rfl, o_t1, hb2⟩; have l0 := keep_cell hb2 k0; have l1 := keep_cell hb2 k1; have l2 := keep_cell hb2 k2; have l3 := keep_cell hb2 k3) | (go_at_call 35; refine (spec_AreSameShape ((Reads.of_own o_t0).below hb2) (by omega) (Reads.of_own o_t1) (by omega)).mono ?_; rintro e w5 ⟨rfl, hb3⟩; have m0 := keep_cell hb3 l0; have m1 := keep_cell hb3 l1; have m2 := keep_cell hb3 l2; have m3 := keep_cell hb3 l3))
  have hb := (Below.trans hb1 ((Below.trans hb2 (hb3.mono hb2.size)).mono hb1.size))
  clear hb1 hb2 hb3 o_t0 o_t1 k0 k1 k2 k3 l0 l1 l2 l3 m0 m1 m2 m3
  clear q_aB_0 q_aB_1 q_aB_l q_aC_0 q_aC_1 q_aC_l
  have hg := step_below (a := w2) (Below.drew (Below.refl _ _)) hb
  have z5 : w2.heap.size ≤ w5.heap.size := hg.size
  replace hB := bel_next hB hg nofun
  replace h_aB := h_aB.grown hg (by simp)
  replace h_aC := h_aC.grown hg (by simp)
  clear hb hg
  have q_aB_0 := h_aB.cell_ (i := 0) rfl
  have q_aB_1 := h_aB.cell_ (i := 1) rfl
  have q_aB_l := h_aB.lt
  go_wp2_with fail
  refine (toBody_any _ _ _ _ _ _ ((hr_aB.below hB).below (by go_grown)) (by omega)).mono ?_
  rintro e w6 ⟨g_x0, rfl, o_x0, hb⟩
  clear q_aB_0 q_aB_1 q_aB_l
  have hg := step_below (a := w5) (by go_grown) hb
  have z6 : w5.heap.size ≤ w6.heap.size := hg.size
  replace hB := bel_next hB hg nofun
  replace h_aB := h_aB.grown hg (by simp)
  replace h_aC := h_aC.grown hg (by simp)
  clear hb hg
  replace o_x0 := ownsRow_le o_x0 (base' := w5.heap.size) (by simp)
  have b_x0 := own_blk o_x0
  have h_x0 := Row.new w6 24 [.int .i64 j_aB, .slice (some ⟨g_x0, 0, none⟩) n_aB n_aB]
  have q_aC_0 := h_aC.cell_ (i := 0) rfl
  have q_aC_1 := h_aC.cell_ (i := 1) rfl
  have q_aC_l := h_aC.lt
  go_wp2_with fail
  refine (toBody_any _ _ _ _ _ _ ((hr_aC.below hB).below (by go_grown)) (by omega)).mono ?_
  rintro e w7 ⟨g_x1, rfl, o_x1, hb⟩
  clear q_aC_0 q_aC_1 q_aC_l
  have hg := step_below (a := w6) (by go_grown) hb
  have z7 : w6.heap.size < w7.heap.size := Nat.lt_of_lt_of_le (by first | (simp; done) | (simp; omega)) hb.size
  replace hB := bel_next hB hg nofun
  replace h_aB := h_aB.grown hg (by simp)
  replace h_aC := h_aC.grown hg (by simp)
  replace h_x0 := h_x0.below hb
  replace o_x0 := own_grown o_x0 hg (by simp)
  clear hb hg
  replace o_x1 := ownsRow_le o_x1 (base' := w6.heap.size + 1) (by simp)
  have b_x1 := own_blk o_x1
  have h_x1 := Row.new w7 24 [.int .i64 j_aC, .slice (some ⟨g_x1, 0, none⟩) n_aC n_aC]
  have q_x0_0 := h_x0.cell_ (i := 0) rfl
  have q_x0_1 := h_x0.cell_ (i := 1) rfl
  have q_x0_l := h_x0.lt
  go_wp2_with fail
  refine (impl_AreSameShape ((Reads.of_own o_x0).below (by go_grown)) (by omega) ((Reads.of_own o_x1).below (by go_grown)) (by omega)).mono ?_
  rintro e w8 ⟨rfl, hb⟩
  clear q_x0_0 q_x0_1 q_x0_l
  have hg := step_below (a := w7) (by go_grown) hb
  have z8 : w7.heap.size < w8.heap.size := Nat.lt_of_lt_of_le (by first | (simp; done) | (simp; omega)) hb.size
  replace hB := bel_next hB hg nofun
  replace h_aB := h_aB.grown hg (by simp)
  replace h_aC := h_aC.grown hg (by simp)
  replace h_x0 := h_x0.grown hg (by simp)
  replace h_x1 := h_x1.below hb
  replace o_x0 := own_grown o_x0 hg (by simp)
  replace o_x1 := own_grown o_x1 hg (by simp)
  clear hb hg
  have q_x0_0 := h_x0.cell_ (i := 0) rfl
  have q_x0_1 := h_x0.cell_ (i := 1) rfl
  have q_x0_l := h_x0.lt
  have q_aB_0 := h_aB.cell_ (i := 0) rfl
  have q_aB_1 := h_aB.cell_ (i := 1) rfl
  have q_aB_l := h_aB.lt
  go_wp2_with fail
  go_region_held3 (fun w' => w'.cell? ⟨w6.heap.size, 0, none⟩ = some (.int .i64 j_aB) ∧ w'.cell? ⟨w6.heap.size, 1, none⟩ = some (.slice (some ⟨g_x0, 0, none⟩) n_aB n_aB) ∧ w'.cell? ⟨w.heap.size, 0, none⟩ = some (.int .i64 j_aB) ∧ w'.cell? ⟨w.heap.size, 1, none⟩ = some (.slice A_aB n_aB c_aB))
    (first | go_keep | exact ⟨k0, k1, k2, k3⟩ | exact ⟨m0, m1, m2, m3⟩)
    (first | (go_at_call 22; refine (toBody_any _ _ _ _ _ _ ((hr_aB.below hB).below (by go_grown)) (by omega)).mono ?_; rintro e w9 ⟨g_t2, rfl, o_t2, hb1⟩; have k0 := keep_cell hb1 q_x0_0; have k1 := keep_cell hb1 q_x0_1; have k2 := keep_cell hb1 q_aB_0; have k3 := keep_cell hb1 q_aB_1) | (go_at_call 17; refine (eqBody_t _ _ _ _ _ _ _ _ ((Reads.of_own o_x0).below (below_of_drew hb1)) (Reads.of_own o_t2) (by omega)).mono ?_; rintro e w10 ⟨rfl, hb2⟩; have m0 := keep_cell hb2 k0; have m1 := keep_cell hb2 k1; have m2 := keep_cell hb2 k2; have m3 := keep_cell hb2 k3))
  have hb := Below.trans hb1 (hb2.mono hb1.size)
  clear hb1 hb2 o_t2 k0 k1 k2 k3 m0 m1 m2 m3
  clear q_x0_0 q_x0_1 q_x0_l q_aB_0 q_aB_1 q_aB_l
  have hg := step_below (a := w8) (Below.drew (Below.refl _ _)) hb
  have z10 : w8.heap.size ≤ w10.heap.size := hg.size
  replace hB := bel_next hB hg nofun
  replace h_aB := h_aB.grown hg (by simp)
  replace h_aC := h_aC.grown hg (by simp)
  replace h_x0 := h_x0.grown hg (by simp)
  replace h_x1 := h_x1.grown hg (by simp)
  replace o_x0 := own_grown o_x0 hg (by simp)
  replace o_x1 := own_grown o_x1 hg (by simp)
  clear hb hg
  have q_x1_0 := h_x1.cell_ (i := 0) rfl
  have q_x1_1 := h_x1.cell_ (i := 1) rfl
  have q_x1_l := h_x1.lt
  have q_aC_0 := h_aC.cell_ (i := 0) rfl
  have q_aC_1 := h_aC.cell_ (i := 1) rfl
  have q_aC_l := h_aC.lt
  go_wp2_with fail
  go_region_held3 (fun w' => w'.cell? ⟨w7.heap.size, 0, none⟩ = some (.int .i64 j_aC) ∧ w'.cell? ⟨w7.heap.size, 1, none⟩ = some (.slice (some ⟨g_x1, 0, none⟩) n_aC n_aC) ∧ w'.cell? ⟨w.heap.size + 1, 0, none⟩ = some (.int .i64 j_aC) ∧ w'.cell? ⟨w.heap.size + 1, 1, none⟩ = some (.slice A_aC n_aC c_aC))
    (first | go_keep | exact ⟨k0, k1, k2, k3⟩ | exact ⟨m0, m1, m2, m3⟩)
    (first | (go_at_call 22; refine (toBody_any _ _ _ _ _ _ ((hr_aC.below hB).below (by go_grown)) (by omega)).mono ?_; rintro e w11 ⟨g_t3, rfl, o_t3, hb1⟩; have k0 := keep_cell hb1 q_x1_0; have k1 := keep_cell hb1 q_x1_1; have k2 := keep_cell hb1 q_aC_0; have k3 := keep_cell hb1 q_aC_1) | (go_at_call 17; refine (eqBody_t _ _ _ _ _ _ _ _ ((Reads.of_own o_x1).below (below_of_drew hb1)) (Reads.of_own o_t3) (by omega)).mono ?_; rintro e w12 ⟨rfl, hb2⟩; have m0 := keep_cell hb2 k0; have m1 := keep_cell hb2 k1; have m2 := keep_cell hb2 k2; have m3 := keep_cell hb2 k3))
  have hb := Below.trans hb1 (hb2.mono hb1.size)
  clear hb1 hb2 o_t3 k0 k1 k2 k3 m0 m1 m2 m3
  clear q_x1_0 q_x1_1 q_x1_l q_aC_0 q_aC_1 q_aC_l
  have hg := step_below (a := w10) (Below.drew (Below.refl _ _)) hb
  have z12 : w10.heap.size ≤ w12.heap.size := hg.size
  replace hB := bel_next hB hg nofun
  replace h_aB := h_aB.grown hg (by simp)
  replace h_aC := h_aC.grown hg (by simp)
  replace h_x0 := h_x0.grown hg (by simp)
  replace h_x1 := h_x1.grown hg (by simp)
  replace o_x0 := own_grown o_x0 hg (by simp)
  replace o_x1 := own_grown o_x1 hg (by simp)
  clear hb hg
  go_wp2_with fail
  go_ret
  exact ⟨rfl, hB⟩

set_option maxRecDepth 100000 in
theorem lifted (os : Os) (started : os.Started) (H : Type) (enc : TypeId × Value → H) :
    ReturnsInHanded {} Try.checked os 9 .any (Rows.fnExactAreSameShapeSpec.pre6 enc Try.prog Try.f9 Rows.fnExactAreSameShapeRow.domain false) (Rows.fnExactAreSameShapeSpec.post enc Try.prog Try.f9 false true false false) := by
  refine returnsInHanded_of_change (C := Try.checked) own started (by kernel_rfl) Try.func9
    (ChangeSpec.witness6 (enc := enc) (C := Try.checked) false ⟨#[], #[.agg #[.int .i64 0, .slice none 0 0], .agg #[.int .i64 0, .slice none 0 0]], []⟩ 8 (by kernel_rfl) (by kernel_rfl) (by kernel_rfl) (by kernel_rfl)) ?_
  intro W base args ds gs before hval0 hW hcnd _
  have hval : ∀ (j : Nat) t v, Try.f9.params[j]? = some t → args[j]? = some v → Value.okWide Try.prog W .any base t v := hval0
  have hW' := hW
  obtain ⟨p, q, hA0, hV, rfl, hfz, hnd⟩ := hW
  have hA : DataW.TrodAll enc Try.prog W 0 (fun _ => true) true Try.f9.params.toList args.toList ds p := hA0
  rw [Try.params9] at hA hval
  obtain ⟨v0, vs0, d0, ds0, p0, q0, hargs, rfl, rfl, h0, r0⟩ := trodAll_cons hA
  obtain ⟨v1, vs1, d1, ds1, p1, q1, rfl, rfl, rfl, h1, r1⟩ := trodAll_cons r0
  obtain ⟨rfl, rfl, rfl⟩ := trodAll_nil r1
  obtain rfl : args = #[v0, v1] := by cases args; simp_all
  obtain ⟨rfl, rfl⟩ := trodVars_none hV
  obtain ⟨j0, A0, n0, c0, xs0, rfl, w0, g0, m0⟩ := open_body (hval 0 31 v0 rfl rfl) h0
  obtain ⟨j1, A1, n1, c1, xs1, rfl, w1, g1, m1⟩ := open_body (hval 1 31 v1 rfl rfl) h1
  refine (walk j0 A0 n0 c0 xs0 j1 A1 n1 c1 xs1 W (bounds_i64 w0) g0 m0 (bounds_i64 w1) g1 m1).mono fun e W' ⟨he, hb⟩ => ?_
  subst he
  exact ⟨_, rfl, post_true laidOut rfl hW' rfl (by rw [Try.params9]; intro t ht; simp only [List.mem_cons, List.not_mem_nil, or_false] at ht; rcases ht with rfl | rfl <;> exact ⟨by kernel_rfl, of_decide_eq_true (by kernel_rfl)⟩) Try.underlying4 (by kernel_rfl) hb⟩

theorem over : Rows.fnExactAreSameShapeRow.holds Try.pinned (OpenSpec.ofChange Rows.fnExactAreSameShapeSpec) :=
  OpenClaim.holds_of_wide 9 Try.f9 rfl rfl rfl rfl rfl rfl rfl ⟨rfl, rfl, rfl, rfl, rfl⟩ rfl rfl rfl rfl rfl (by kernel_rfl) Try.func9 (by kernel_rfl)
    (of_decide_eq_true (by kernel_rfl)) (by unfold Func.isWrapper; first | (rw [if_pos (by decide +kernel)]; kernel_rfl) | (rw [if_neg (by decide +kernel)]; exact ⟨rfl, rfl⟩))
    (fun os started H enc _ => lifted os started H enc)

theorem proved : Rows.FnExactAreSameShapeSaid := over
end Go.Proofs.Ytnghfocboodkhaa.FnExactAreSameShape
