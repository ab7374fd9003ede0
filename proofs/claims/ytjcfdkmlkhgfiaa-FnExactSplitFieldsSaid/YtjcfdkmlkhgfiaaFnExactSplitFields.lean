/- The given law FnExactSplitFields: the program and the reference agree for all arguments and share no memory, so the law returns true; no condition. -/
import Derived.Test.YtjcfdkmlkhgfiaaStrS
import Derived.Test.YtjcfdkmlkhgfiaaSplitS
namespace Go.Proofs.Ytjcfdkmlkhgfiaa.FnExactSplitFields
open Go.ChangeShapes Go.WideShapes Go.ChangeAt Go.RowKit Go.Deep Go.Joins
set_option maxRecDepth 100000

set_option maxHeartbeats 1000000 in
theorem walk (aLine : ByteArray) (w : World) (hs_aLine : aLine.size ≤ maxLen) :
    Calls Try.prog 8 #[.string aLine] w fun e w' => e = .returned (.bool true) ∧ Below w.heap.size w w' := by
  by_cases hn0 : aLine.size ≤ 1048576
  rotate_left
  · skip
    have hB := Below.refl w.heap.size w
    go_enter Try.func8, Try.ntmps8
    go_wp2_with fail
    go_ret
    exact ⟨rfl, by go_grown⟩
  have hB := Below.refl w.heap.size w
  go_enter Try.func8, Try.ntmps8
  go_wp2_with fail
  refine (spec_SplitFields (by omega)).mono ?_
  rintro e w1 ⟨A_w0, n_w0, c_w0, rfl, o_w0, l_w0, hb⟩
  have hg := step_below (a := w) (by go_grown) hb
  have z1 : w.heap.size ≤ w1.heap.size := hg.size
  replace hB := bel_next hB hg nofun
  clear hb hg
  replace o_w0 := ownsRow_le o_w0 (base' := w.heap.size) (by simp)
  have b_w0 := own_blk o_w0
  go_wp2_with fail
  refine (impl_SplitFields (by omega)).mono ?_
  rintro e w2 ⟨A_g0, n_g0, c_g0, rfl, o_g0, l_g0, hb⟩
  have hg := step_below (a := w1) (by go_grown) hb
  have z2 : w1.heap.size ≤ w2.heap.size := hg.size
  replace hB := bel_next hB hg nofun
  replace o_w0 := own_grown o_w0 hg (by simp)
  clear hb hg
  replace o_g0 := ownsRow_le o_g0 (base' := w1.heap.size) (by simp)
  have b_g0 := own_blk o_g0
  go_wp2_with fail
  refine (eqStringS_b ((Reads.of_own o_g0).below (by go_grown)) ((Reads.of_own o_w0).below (by go_grown)) (by omega)).mono ?_
  rintro e w3 ⟨rfl, hb⟩
  have hg := step_below (a := w2) (by go_grown) hb
  have z3 : w2.heap.size ≤ w3.heap.size := hg.size
  replace hB := bel_next hB hg nofun
  replace o_w0 := own_grown o_w0 hg (by simp)
  replace o_g0 := own_grown o_g0 hg (by simp)
  clear hb hg
  go_wp2_with fail
  refine (markStringS_any _ _ _ _ _ _ _ (own_below o_g0 (by go_grown)) (by omega) (by omega) (by omega)).mono ?_
  rintro e w4 ⟨rfl, o_g0, hb⟩
  have hg := step_grown (a := w3) (by go_grown) hb
  have z4 : w3.heap.size ≤ w4.heap.size := hg.size
  replace hB := bel_apart hB hg b_g0 (by omega)
  replace o_w0 := own_apart o_w0 hg b_g0 b_w0 (by omega)
  clear hb hg
  go_wp2_with fail
  refine (heldStringS_any _ _ _ _ _ ((Reads.of_own o_g0).below (by go_grown)) (by omega) (by omega) (by omega)).mono ?_
  rintro e w5 ⟨rfl, hb⟩
  have hg := step_below (a := w4) (by go_grown) hb
  have z5 : w4.heap.size ≤ w5.heap.size := hg.size
  replace hB := bel_next hB hg nofun
  replace o_w0 := own_grown o_w0 hg (by simp)
  replace o_g0 := own_grown o_g0 hg (by simp)
  clear hb hg
  go_wp2_with fail
  refine (impl_SplitFields (by omega)).mono ?_
  rintro e w6 ⟨A_h0, n_h0, c_h0, rfl, o_h0, l_h0, hb⟩
  have hg := step_below (a := w5) (by go_grown) hb
  have z6 : w5.heap.size ≤ w6.heap.size := hg.size
  replace hB := bel_next hB hg nofun
  replace o_w0 := own_grown o_w0 hg (by simp)
  replace o_g0 := own_grown o_g0 hg (by simp)
  clear hb hg
  replace o_h0 := ownsRow_le o_h0 (base' := w5.heap.size) (by simp)
  have b_h0 := own_blk o_h0
  go_wp2_with fail
  refine (eqStringS_b ((Reads.of_own o_h0).below (by go_grown)) ((Reads.of_own o_w0).below (by go_grown)) (by omega)).mono ?_
  rintro e w7 ⟨rfl, hb⟩
  have hg := step_below (a := w6) (by go_grown) hb
  have z7 : w6.heap.size ≤ w7.heap.size := hg.size
  replace hB := bel_next hB hg nofun
  replace o_w0 := own_grown o_w0 hg (by simp)
  replace o_g0 := own_grown o_g0 hg (by simp)
  replace o_h0 := own_grown o_h0 hg (by simp)
  clear hb hg
  go_wp2_with fail
  refine (heldStringS_any _ _ _ _ _ ((Reads.of_own o_g0).below (by go_grown)) (by omega) (by omega) (by omega)).mono ?_
  rintro e w8 ⟨rfl, hb⟩
  have hg := step_below (a := w7) (by go_grown) hb
  have z8 : w7.heap.size ≤ w8.heap.size := hg.size
  replace hB := bel_next hB hg nofun
  replace o_w0 := own_grown o_w0 hg (by simp)
  replace o_g0 := own_grown o_g0 hg (by simp)
  replace o_h0 := own_grown o_h0 hg (by simp)
  clear hb hg
  go_wp2_with fail
  go_ret
  exact ⟨rfl, hB⟩

set_option maxRecDepth 100000 in
theorem lifted (os : Os) (started : os.Started) (H : Type) (enc : TypeId × Value → H) :
    ReturnsInHanded {} Try.checked os 8 .any (Rows.fnExactSplitFieldsSpec.pre6 enc Try.prog Try.f8 Rows.fnExactSplitFieldsRow.domain false) (Rows.fnExactSplitFieldsSpec.post enc Try.prog Try.f8 false true false false) := by
  refine returnsInHanded_of_change (C := Try.checked) own started (by kernel_rfl) Try.func8
    (ChangeSpec.witness6 (enc := enc) (C := Try.checked) false ⟨#[], #[.string ⟨#[]⟩], []⟩ 8 (by kernel_rfl) (by kernel_rfl) (by kernel_rfl) (by kernel_rfl)) ?_
  intro W base args ds gs before hval0 hW hcnd _
  have hval : ∀ (j : Nat) t v, Try.f8.params[j]? = some t → args[j]? = some v → Value.okWide Try.prog W .any base t v := hval0
  have hW' := hW
  obtain ⟨p, q, hA0, hV, rfl, hfz, hnd⟩ := hW
  have hA : DataW.TrodAll enc Try.prog W 0 (fun _ => true) true Try.f8.params.toList args.toList ds p := hA0
  rw [Try.params8] at hA hval
  obtain ⟨v0, vs0, d0, ds0, p0, q0, hargs, rfl, rfl, h0, r0⟩ := trodAll_cons hA
  obtain ⟨rfl, rfl, rfl⟩ := trodAll_nil r0
  obtain rfl : args = #[v0] := by cases args; simp_all
  obtain ⟨rfl, rfl⟩ := trodVars_none hV
  obtain ⟨s0, rfl, rfl, rfl, z0⟩ := Go.ChangeMaps.open_string Try.underlying9 (hval 0 9 v0 rfl rfl) h0
  refine (walk s0 W z0).mono fun e W' ⟨he, hb⟩ => ?_
  subst he
  exact ⟨_, rfl, post_true laidOut rfl hW' rfl (by rw [Try.params8]; intro t ht; simp only [List.mem_cons, List.not_mem_nil, or_false] at ht; rcases ht with rfl <;> exact ⟨by kernel_rfl, of_decide_eq_true (by kernel_rfl)⟩) Try.underlying4 (by kernel_rfl) hb⟩

theorem over : Rows.fnExactSplitFieldsRow.holds Try.pinned (OpenSpec.ofChange Rows.fnExactSplitFieldsSpec) :=
  OpenClaim.holds_of_wide 8 Try.f8 rfl rfl rfl rfl rfl rfl rfl ⟨rfl, rfl, rfl, rfl, rfl⟩ rfl rfl rfl rfl rfl (by kernel_rfl) Try.func8 (by kernel_rfl)
    (of_decide_eq_true (by kernel_rfl)) (by unfold Func.isWrapper; first | (rw [if_pos (by decide +kernel)]; kernel_rfl) | (rw [if_neg (by decide +kernel)]; exact ⟨rfl, rfl⟩))
    (fun os started H enc _ => lifted os started H enc)

theorem proved : Rows.FnExactSplitFieldsSaid := over
end Go.Proofs.Ytjcfdkmlkhgfiaa.FnExactSplitFields
