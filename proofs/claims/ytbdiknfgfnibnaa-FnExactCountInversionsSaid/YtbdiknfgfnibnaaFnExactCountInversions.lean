/- The given law FnExactCountInversions: the program and the reference agree for all arguments and share no memory, so the law returns true; no condition. -/
import Derived.Test.YtbdiknfgfnibnaaOpenI
import Derived.Test.YtbdiknfgfnibnaaInv
namespace Go.Proofs.Ytbdiknfgfnibnaa.FnExactCountInversions
open Go.ChangeShapes Go.WideShapes Go.ChangeAt Go.RowKit Go.Deep Go.Joins
set_option maxRecDepth 100000

set_option maxHeartbeats 1000000 in
theorem walk (A_aOrder : Option Addr) (n_aOrder c_aOrder : Nat) (xs_aOrder : List Int) (w : World) (hr_aOrder : Reads w 1 A_aOrder n_aOrder (ints xs_aOrder)) (hm_aOrder : n_aOrder ≤ 9223372036854775807) :
    Calls Try.prog 5 #[.slice A_aOrder n_aOrder c_aOrder] w fun e w' => e = .returned (.bool true) ∧ Below w.heap.size w w' := by
  by_cases hn0 : n_aOrder ≤ 1048576
  rotate_left
  · skip
    have hB := Below.refl w.heap.size w
    go_enter Try.func5, Try.ntmps5
    go_wp2_with fail
    go_ret
    exact ⟨rfl, by go_grown⟩
  have hB := Below.refl w.heap.size w
  go_enter Try.func5, Try.ntmps5
  go_wp2_with fail
  refine (toIntS_any _ _ _ _ _ ((hr_aOrder.below hB).below (by go_grown)) (by omega)).mono ?_
  rintro e w1 ⟨g_t0, rfl, o_t0, hb⟩
  have hg := step_below (a := w) (by go_grown) hb
  have z1 : w.heap.size ≤ w1.heap.size := hg.size
  replace hB := bel_next hB hg nofun
  clear hb hg
  replace o_t0 := ownsRow_le o_t0 (base' := w.heap.size) (by simp)
  have b_t0 := own_blk o_t0
  go_wp2_with fail
  refine (spec_CountInversions ((Reads.of_own o_t0).below (by go_grown)) (by omega)).mono ?_
  rintro e w2 ⟨rfl, hb⟩
  have hg := step_below (a := w1) (by go_grown) hb
  have z2 : w1.heap.size ≤ w2.heap.size := hg.size
  replace hB := bel_next hB hg nofun
  replace o_t0 := own_grown o_t0 hg (by simp)
  clear hb hg
  clear o_t0 b_t0
  go_wp2_with fail
  refine (toIntS_any _ _ _ _ _ ((hr_aOrder.below hB).below (by go_grown)) (by omega)).mono ?_
  rintro e w3 ⟨g_x0, rfl, o_x0, hb⟩
  have hg := step_below (a := w2) (by go_grown) hb
  have z3 : w2.heap.size ≤ w3.heap.size := hg.size
  replace hB := bel_next hB hg nofun
  clear hb hg
  replace o_x0 := ownsRow_le o_x0 (base' := w2.heap.size) (by simp)
  have b_x0 := own_blk o_x0
  go_wp2_with fail
  refine (impl_CountInversions ((Reads.of_own o_x0).below (by go_grown)) (by omega)).mono ?_
  rintro e w4 ⟨rfl, hb⟩
  have hg := step_below (a := w3) (by go_grown) hb
  have z4 : w3.heap.size ≤ w4.heap.size := hg.size
  replace hB := bel_next hB hg nofun
  replace o_x0 := own_grown o_x0 hg (by simp)
  clear hb hg
  go_wp2_with fail
  refine (toIntS_any _ _ _ _ _ ((hr_aOrder.below hB).below (by go_grown)) (by omega)).mono ?_
  rintro e w5 ⟨g_t1, rfl, o_t1, hb⟩
  have hg := step_below (a := w4) (by go_grown) hb
  have z5 : w4.heap.size ≤ w5.heap.size := hg.size
  replace hB := bel_next hB hg nofun
  replace o_x0 := own_grown o_x0 hg (by simp)
  clear hb hg
  replace o_t1 := ownsRow_le o_t1 (base' := w4.heap.size) (by simp)
  have b_t1 := own_blk o_t1
  go_wp2_with fail
  refine (eqIntS_b ((Reads.of_own o_x0).below (by go_grown)) ((Reads.of_own o_t1).below (by go_grown)) (by omega)).mono ?_
  rintro e w6 ⟨rfl, hb⟩
  have hg := step_below (a := w5) (by go_grown) hb
  have z6 : w5.heap.size ≤ w6.heap.size := hg.size
  replace hB := bel_next hB hg nofun
  replace o_x0 := own_grown o_x0 hg (by simp)
  replace o_t1 := own_grown o_t1 hg (by simp)
  clear hb hg
  clear o_t1 b_t1
  go_wp2_with fail
  go_ret
  exact ⟨rfl, hB⟩

set_option maxRecDepth 100000 in
theorem lifted (os : Os) (started : os.Started) (H : Type) (enc : TypeId × Value → H) :
    ReturnsInHanded {} Try.checked os 5 .any (Rows.fnExactCountInversionsSpec.pre6 enc Try.prog Try.f5 Rows.fnExactCountInversionsRow.domain false) (Rows.fnExactCountInversionsSpec.post enc Try.prog Try.f5 false true false false) := by
  refine returnsInHanded_of_change (C := Try.checked) own started (by kernel_rfl) Try.func5
    (ChangeSpec.witness6 (enc := enc) (C := Try.checked) false ⟨#[], #[.slice none 0 0], []⟩ 8 (by kernel_rfl) (by kernel_rfl) (by kernel_rfl) (by kernel_rfl)) ?_
  intro W base args ds gs before hval0 hW hcnd _
  have hval : ∀ (j : Nat) t v, Try.f5.params[j]? = some t → args[j]? = some v → Value.okWide Try.prog W .any base t v := hval0
  have hW' := hW
  obtain ⟨p, q, hA0, hV, rfl, hfz, hnd⟩ := hW
  have hA : DataW.TrodAll enc Try.prog W 0 (fun _ => true) true Try.f5.params.toList args.toList ds p := hA0
  rw [Try.params5] at hA hval
  obtain ⟨v0, vs0, d0, ds0, p0, q0, hargs, rfl, rfl, h0, r0⟩ := trodAll_cons hA
  obtain ⟨rfl, rfl, rfl⟩ := trodAll_nil r0
  obtain rfl : args = #[v0] := by cases args; simp_all
  obtain ⟨rfl, rfl⟩ := trodVars_none hV
  obtain ⟨A0, n0, c0, xs0, rfl, g0, m0⟩ := open_intA (hval 0 22 v0 rfl rfl) h0
  refine (walk A0 n0 c0 xs0 W g0 m0).mono fun e W' ⟨he, hb⟩ => ?_
  subst he
  exact ⟨_, rfl, post_true laidOut rfl hW' rfl (by rw [Try.params5]; intro t ht; simp only [List.mem_cons, List.not_mem_nil, or_false] at ht; rcases ht with rfl <;> exact ⟨by kernel_rfl, of_decide_eq_true (by kernel_rfl)⟩) Try.underlying4 (by kernel_rfl) hb⟩

theorem over : Rows.fnExactCountInversionsRow.holds Try.pinned (OpenSpec.ofChange Rows.fnExactCountInversionsSpec) :=
  OpenClaim.holds_of_wide 5 Try.f5 rfl rfl rfl rfl rfl rfl rfl ⟨rfl, rfl, rfl, rfl, rfl⟩ rfl rfl rfl rfl rfl (by kernel_rfl) Try.func5 (by kernel_rfl)
    (of_decide_eq_true (by kernel_rfl)) (by unfold Func.isWrapper; first | (rw [if_pos (by decide +kernel)]; kernel_rfl) | (rw [if_neg (by decide +kernel)]; exact ⟨rfl, rfl⟩))
    (fun os started H enc _ => lifted os started H enc)

theorem proved : Rows.FnExactCountInversionsSaid := over
end Go.Proofs.Ytbdiknfgfnibnaa.FnExactCountInversions
