/- The given law FnExactSampleBody: the program and the reference agree for all arguments and share no memory, so the law returns true; no condition. -/
import Derived.Test.YtnghfocboodkhaaSample
namespace Go.Proofs.Ytnghfocboodkhaa.FnExactSampleBody
open Go.ChangeShapes Go.WideShapes Go.ChangeAt Go.RowKit Go.Deep Go.Joins
set_option maxRecDepth 100000

set_option maxHeartbeats 1000000 in
theorem walk  (w : World)  :
    Calls Try.prog 3 #[] w fun e w' => e = .returned (.bool true) ∧ Below w.heap.size w w' := by
  have hB := Below.refl w.heap.size w
  go_enter Try.func3, Try.ntmps3
  go_wp2_with fail
  refine (spec_SampleBody).mono ?_
  rintro e w1 ⟨g_w0, rfl, o_w0, hb⟩
  have hg := step_below (a := w) (by go_grown) hb
  have z1 : w.heap.size ≤ w1.heap.size := hg.size
  replace hB := bel_next hB hg nofun
  clear hb hg
  replace o_w0 := ownsRow_le o_w0 (base' := w.heap.size) (by simp)
  have b_w0 := own_blk o_w0
  have h_w0 := Row.new w1 24 [.int .i64 7, .slice (some ⟨g_w0, 0, none⟩) 6 6]
  go_wp2_with fail
  refine (impl_SampleBody).mono ?_
  rintro e w2 ⟨g_g0, rfl, o_g0, hb⟩
  have hg := step_below (a := w1) (by go_grown) hb
  have z2 : w1.heap.size < w2.heap.size := Nat.lt_of_lt_of_le (by simp) hb.size
  replace hB := bel_next hB hg nofun
  replace h_w0 := h_w0.below hb
  replace o_w0 := own_grown o_w0 hg (by simp)
  clear hb hg
  replace o_g0 := ownsRow_le o_g0 (base' := w1.heap.size + 1) (by simp)
  have b_g0 := own_blk o_g0
  have h_g0 := Row.new w2 24 [.int .i64 7, .slice (some ⟨g_g0, 0, none⟩) 6 6]
  have q_w0_0 := h_w0.cell_ (i := 0) rfl
  have q_w0_1 := h_w0.cell_ (i := 1) rfl
  have q_w0_l := h_w0.lt
  go_wp2_with fail
  refine (eqBody_t _ _ _ _ _ _ _ _ ((Reads.of_own o_g0).below (by go_grown)) ((Reads.of_own o_w0).below (by go_grown)) (by omega)).mono ?_
  rintro e w3 ⟨rfl, hb⟩
  clear q_w0_0 q_w0_1 q_w0_l
  have hg := step_below (a := w2) (by go_grown) hb
  have z3 : w2.heap.size < w3.heap.size := Nat.lt_of_lt_of_le (by simp) hb.size
  replace hB := bel_next hB hg nofun
  replace h_w0 := h_w0.grown hg (by simp)
  replace h_g0 := h_g0.below hb
  replace o_w0 := own_grown o_w0 hg (by simp)
  replace o_g0 := own_grown o_g0 hg (by simp)
  clear hb hg
  have q_g0_0 := h_g0.cell_ (i := 0) rfl
  have q_g0_1 := h_g0.cell_ (i := 1) rfl
  have q_g0_l := h_g0.lt
  go_wp2_with fail
  refine (markBody_any _ _ _ _ _ _ _ _ (own_below o_g0 (by go_grown)) (by omega) (by omega) (by omega)).mono ?_
  rintro e w4 ⟨rfl, o_g0, hb⟩
  clear q_g0_0 q_g0_1 q_g0_l
  have hg := step_grown (a := w3) (by go_grown) hb
  have z4 : w3.heap.size ≤ w4.heap.size := hg.size
  replace hB := bel_apart hB hg b_g0 (by omega)
  replace h_w0 := row_apart h_w0 hg b_g0 (by omega)
  replace h_g0 := row_apart h_g0 hg b_g0 (by omega)
  replace o_w0 := own_apart o_w0 hg b_g0 b_w0 (by omega)
  clear hb hg
  have q_g0_0 := h_g0.cell_ (i := 0) rfl
  have q_g0_1 := h_g0.cell_ (i := 1) rfl
  have q_g0_l := h_g0.lt
  go_wp2_with fail
  refine (heldBody_any _ _ _ _ _ _ ((Reads.of_own o_g0).below (by go_grown)) (by omega) (by omega) (by omega)).mono ?_
  rintro e w5 ⟨rfl, hb⟩
  clear q_g0_0 q_g0_1 q_g0_l
  have hg := step_below (a := w4) (by go_grown) hb
  have z5 : w4.heap.size ≤ w5.heap.size := hg.size
  replace hB := bel_next hB hg nofun
  replace h_w0 := h_w0.grown hg (by simp)
  replace h_g0 := h_g0.grown hg (by simp)
  replace o_w0 := own_grown o_w0 hg (by simp)
  replace o_g0 := own_grown o_g0 hg (by simp)
  clear hb hg
  go_wp2_with fail
  refine (impl_SampleBody).mono ?_
  rintro e w6 ⟨g_h0, rfl, o_h0, hb⟩
  have hg := step_below (a := w5) (by go_grown) hb
  have z6 : w5.heap.size ≤ w6.heap.size := hg.size
  replace hB := bel_next hB hg nofun
  replace h_w0 := h_w0.grown hg (by simp)
  replace h_g0 := h_g0.grown hg (by simp)
  replace o_w0 := own_grown o_w0 hg (by simp)
  replace o_g0 := own_grown o_g0 hg (by simp)
  clear hb hg
  replace o_h0 := ownsRow_le o_h0 (base' := w5.heap.size) (by simp)
  have b_h0 := own_blk o_h0
  have h_h0 := Row.new w6 24 [.int .i64 7, .slice (some ⟨g_h0, 0, none⟩) 6 6]
  have q_w0_0 := h_w0.cell_ (i := 0) rfl
  have q_w0_1 := h_w0.cell_ (i := 1) rfl
  have q_w0_l := h_w0.lt
  go_wp2_with fail
  refine (eqBody_t _ _ _ _ _ _ _ _ ((Reads.of_own o_h0).below (by go_grown)) ((Reads.of_own o_w0).below (by go_grown)) (by omega)).mono ?_
  rintro e w7 ⟨rfl, hb⟩
  clear q_w0_0 q_w0_1 q_w0_l
  have hg := step_below (a := w6) (by go_grown) hb
  have z7 : w6.heap.size < w7.heap.size := Nat.lt_of_lt_of_le (by simp) hb.size
  replace hB := bel_next hB hg nofun
  replace h_w0 := h_w0.grown hg (by simp)
  replace h_g0 := h_g0.grown hg (by simp)
  replace h_h0 := h_h0.below hb
  replace o_w0 := own_grown o_w0 hg (by simp)
  replace o_g0 := own_grown o_g0 hg (by simp)
  replace o_h0 := own_grown o_h0 hg (by simp)
  clear hb hg
  have q_g0_0 := h_g0.cell_ (i := 0) rfl
  have q_g0_1 := h_g0.cell_ (i := 1) rfl
  have q_g0_l := h_g0.lt
  go_wp2_with fail
  refine (heldBody_any _ _ _ _ _ _ ((Reads.of_own o_g0).below (by go_grown)) (by omega) (by omega) (by omega)).mono ?_
  rintro e w8 ⟨rfl, hb⟩
  clear q_g0_0 q_g0_1 q_g0_l
  have hg := step_below (a := w7) (by go_grown) hb
  have z8 : w7.heap.size ≤ w8.heap.size := hg.size
  replace hB := bel_next hB hg nofun
  replace h_w0 := h_w0.grown hg (by simp)
  replace h_g0 := h_g0.grown hg (by simp)
  replace h_h0 := h_h0.grown hg (by simp)
  replace o_w0 := own_grown o_w0 hg (by simp)
  replace o_g0 := own_grown o_g0 hg (by simp)
  replace o_h0 := own_grown o_h0 hg (by simp)
  clear hb hg
  go_wp2_with fail
  go_ret
  exact ⟨rfl, hB⟩

set_option maxRecDepth 100000 in
theorem lifted (os : Os) (started : os.Started) (H : Type) (enc : TypeId × Value → H) :
    ReturnsInHanded {} Try.checked os 3 .any (Rows.fnExactSampleBodySpec.pre6 enc Try.prog Try.f3 Rows.fnExactSampleBodyRow.domain false) (Rows.fnExactSampleBodySpec.post enc Try.prog Try.f3 false true false false) := by
  refine returnsInHanded_of_change (C := Try.checked) own started (by kernel_rfl) Try.func3
    (ChangeSpec.witness6 (enc := enc) (C := Try.checked) false ⟨#[], #[], []⟩ 8 (by kernel_rfl) (by kernel_rfl) (by kernel_rfl) (by kernel_rfl)) ?_
  intro W base args ds gs before hval0 hW hcnd _
  have hval : ∀ (j : Nat) t v, Try.f3.params[j]? = some t → args[j]? = some v → Value.okWide Try.prog W .any base t v := hval0
  have hW' := hW
  obtain ⟨p, q, hA0, hV, rfl, hfz, hnd⟩ := hW
  have hA : DataW.TrodAll enc Try.prog W 0 (fun _ => true) true Try.f3.params.toList args.toList ds p := hA0
  rw [Try.params3] at hA hval
  obtain ⟨rfl, rfl, rfl⟩ := trodAll_none hA
  obtain ⟨rfl, rfl⟩ := trodVars_none hV
  refine (walk  W ).mono fun e W' ⟨he, hb⟩ => ?_
  subst he
  exact ⟨_, rfl, post_true laidOut rfl hW' rfl (by rw [Try.params3]; intro t ht; simp at ht) Try.underlying4 (by kernel_rfl) hb⟩

theorem over : Rows.fnExactSampleBodyRow.holds Try.pinned (OpenSpec.ofChange Rows.fnExactSampleBodySpec) :=
  OpenClaim.holds_of_wide 3 Try.f3 rfl rfl rfl rfl rfl rfl rfl ⟨rfl, rfl, rfl, rfl, rfl⟩ rfl rfl rfl rfl rfl (by kernel_rfl) Try.func3 (by kernel_rfl)
    (of_decide_eq_true (by kernel_rfl)) (by unfold Func.isWrapper; first | (rw [if_pos (by decide +kernel)]; kernel_rfl) | (rw [if_neg (by decide +kernel)]; exact ⟨rfl, rfl⟩))
    (fun os started H enc _ => lifted os started H enc)

theorem proved : Rows.FnExactSampleBodySaid := over
end Go.Proofs.Ytnghfocboodkhaa.FnExactSampleBody
