/- The given law FnExactSortingSwaps: the program and the reference agree for all arguments and share no memory, so the law returns true; no condition. -/
import Derived.Test.YtbdiknfgfnibnaaOpenI
import Derived.Test.YtbdiknfgfnibnaaSorting
namespace Go.Proofs.Ytbdiknfgfnibnaa.FnExactSortingSwaps
open Go.ChangeShapes Go.WideShapes Go.ChangeAt Go.RowKit Go.Deep Go.Joins
set_option maxRecDepth 100000

set_option maxHeartbeats 1000000 in
theorem walk (A_aOrder : Option Addr) (n_aOrder c_aOrder : Nat) (xs_aOrder : List Int) (w : World) (hr_aOrder : Reads w 1 A_aOrder n_aOrder (ints xs_aOrder)) (hm_aOrder : n_aOrder ≤ 9223372036854775807) :
    Calls Try.prog 8 #[.slice A_aOrder n_aOrder c_aOrder] w fun e w' => e = .returned (.bool true) ∧ Below w.heap.size w w' := by
  by_cases hn0 : n_aOrder ≤ 1048576
  rotate_left
  · skip
    have hB := Below.refl w.heap.size w
    go_enter Try.func8, Try.ntmps8
    go_wp2_with fail
    go_ret
    exact ⟨rfl, by go_grown⟩
  have hB := Below.refl w.heap.size w
  go_enter Try.func8, Try.ntmps8
  go_wp2_with fail
  refine (toIntS_any _ _ _ _ _ ((hr_aOrder.below hB).below (by go_grown)) (by omega)).mono ?_
  rintro e w1 ⟨g_t0, rfl, o_t0, hb⟩
  have hg := step_below (a := w) (by go_grown) hb
  have z1 : w.heap.size ≤ w1.heap.size := hg.size
  replace hB := bel_next hB hg nofun
  clear hb hg
  replace o_t0 := ownsRow_le o_t0 (base' := w.heap.size) (by simp)
  have b_t0 := own_blk o_t0
  go_wp2_with fail
  refine (spec_SortingSwaps ((Reads.of_own o_t0).below (by go_grown)) (by omega)).mono ?_
  rintro e w2 ⟨A_w0, n_w0, c_w0, rfl, o_w0, l_w0, hb⟩
  have hg := step_below (a := w1) (by go_grown) hb
  have z2 : w1.heap.size ≤ w2.heap.size := hg.size
  replace hB := bel_next hB hg nofun
  replace o_t0 := own_grown o_t0 hg (by simp)
  clear hb hg
  replace o_w0 := ownsRow_le o_w0 (base' := w1.heap.size) (by simp)
  have b_w0 := own_blk o_w0
  clear o_t0 b_t0
  go_wp2_with fail
  refine (toIntS_any _ _ _ _ _ ((hr_aOrder.below hB).below (by go_grown)) (by omega)).mono ?_
  rintro e w3 ⟨g_x0, rfl, o_x0, hb⟩
  have hg := step_below (a := w2) (by go_grown) hb
  have z3 : w2.heap.size ≤ w3.heap.size := hg.size
  replace hB := bel_next hB hg nofun
  replace o_w0 := own_grown o_w0 hg (by simp)
  clear hb hg
  replace o_x0 := ownsRow_le o_x0 (base' := w2.heap.size) (by simp)
  have b_x0 := own_blk o_x0
  go_wp2_with fail
  refine (impl_SortingSwaps ((Reads.of_own o_x0).below (by go_grown)) (by omega)).mono ?_
  rintro e w4 ⟨A_g0, n_g0, c_g0, rfl, o_g0, l_g0, hb⟩
  have hg := step_below (a := w3) (by go_grown) hb
  have z4 : w3.heap.size ≤ w4.heap.size := hg.size
  replace hB := bel_next hB hg nofun
  replace o_w0 := own_grown o_w0 hg (by simp)
  replace o_x0 := own_grown o_x0 hg (by simp)
  clear hb hg
  replace o_g0 := ownsRow_le o_g0 (base' := w3.heap.size) (by simp)
  have b_g0 := own_blk o_g0
  go_wp2_with fail
  refine (eqIntS_b ((Reads.of_own o_g0).below (by go_grown)) ((Reads.of_own o_w0).below (by go_grown)) (by omega)).mono ?_
  rintro e w5 ⟨rfl, hb⟩
  have hg := step_below (a := w4) (by go_grown) hb
  have z5 : w4.heap.size ≤ w5.heap.size := hg.size
  replace hB := bel_next hB hg nofun
  replace o_w0 := own_grown o_w0 hg (by simp)
  replace o_x0 := own_grown o_x0 hg (by simp)
  replace o_g0 := own_grown o_g0 hg (by simp)
  clear hb hg
  go_wp2_with fail
  refine (toIntS_any _ _ _ _ _ ((hr_aOrder.below hB).below (by go_grown)) (by omega)).mono ?_
  rintro e w6 ⟨g_t1, rfl, o_t1, hb⟩
  have hg := step_below (a := w5) (by go_grown) hb
  have z6 : w5.heap.size ≤ w6.heap.size := hg.size
  replace hB := bel_next hB hg nofun
  replace o_w0 := own_grown o_w0 hg (by simp)
  replace o_x0 := own_grown o_x0 hg (by simp)
  replace o_g0 := own_grown o_g0 hg (by simp)
  clear hb hg
  replace o_t1 := ownsRow_le o_t1 (base' := w5.heap.size) (by simp)
  have b_t1 := own_blk o_t1
  go_wp2_with fail
  refine (eqIntS_b ((Reads.of_own o_x0).below (by go_grown)) ((Reads.of_own o_t1).below (by go_grown)) (by omega)).mono ?_
  rintro e w7 ⟨rfl, hb⟩
  have hg := step_below (a := w6) (by go_grown) hb
  have z7 : w6.heap.size ≤ w7.heap.size := hg.size
  replace hB := bel_next hB hg nofun
  replace o_w0 := own_grown o_w0 hg (by simp)
  replace o_x0 := own_grown o_x0 hg (by simp)
  replace o_g0 := own_grown o_g0 hg (by simp)
  replace o_t1 := own_grown o_t1 hg (by simp)
  clear hb hg
  clear o_t1 b_t1
  go_wp2_with fail
  refine (markIntS_any _ _ _ _ _ _ _ (own_below o_x0 (by go_grown)) (by omega) (by omega) (by omega)).mono ?_
  rintro e w8 ⟨rfl, o_x0, hb⟩
  have hg := step_grown (a := w7) (by go_grown) hb
  have z8 : w7.heap.size ≤ w8.heap.size := hg.size
  replace hB := bel_apart hB hg b_x0 (by omega)
  replace o_w0 := own_apart o_w0 hg b_x0 b_w0 (by omega)
  replace o_g0 := own_apart o_g0 hg b_x0 b_g0 (by omega)
  clear hb hg
  go_wp2_with fail
  refine (eqIntS_b ((Reads.of_own o_g0).below (by go_grown)) ((Reads.of_own o_w0).below (by go_grown)) (by omega)).mono ?_
  rintro e w9 ⟨rfl, hb⟩
  have hg := step_below (a := w8) (by go_grown) hb
  have z9 : w8.heap.size ≤ w9.heap.size := hg.size
  replace hB := bel_next hB hg nofun
  replace o_w0 := own_grown o_w0 hg (by simp)
  replace o_x0 := own_grown o_x0 hg (by simp)
  replace o_g0 := own_grown o_g0 hg (by simp)
  clear hb hg
  go_wp2_with fail
  refine (markIntS_any _ _ _ _ _ _ _ (own_below o_g0 (by go_grown)) (by omega) (by omega) (by omega)).mono ?_
  rintro e w10 ⟨rfl, o_g0, hb⟩
  have hg := step_grown (a := w9) (by go_grown) hb
  have z10 : w9.heap.size ≤ w10.heap.size := hg.size
  replace hB := bel_apart hB hg b_g0 (by omega)
  replace o_w0 := own_apart o_w0 hg b_g0 b_w0 (by omega)
  replace o_x0 := own_apart o_x0 hg b_g0 b_x0 (by omega)
  clear hb hg
  go_wp2_with fail
  refine (heldIntS_any _ _ _ _ _ ((Reads.of_own o_g0).below (by go_grown)) (by omega) (by omega) (by omega)).mono ?_
  rintro e w11 ⟨rfl, hw⟩
  have hb := below_of_eq hw; clear hw
  have hg := step_below (a := w10) (by go_grown) hb
  have z11 : w10.heap.size ≤ w11.heap.size := hg.size
  replace hB := bel_next hB hg nofun
  replace o_w0 := own_grown o_w0 hg (by simp)
  replace o_x0 := own_grown o_x0 hg (by simp)
  replace o_g0 := own_grown o_g0 hg (by simp)
  clear hb hg
  go_wp2_with fail
  refine (toIntS_any _ _ _ _ _ ((hr_aOrder.below hB).below (by go_grown)) (by omega)).mono ?_
  rintro e w12 ⟨g_t2, rfl, o_t2, hb⟩
  have hg := step_below (a := w11) (by go_grown) hb
  have z12 : w11.heap.size ≤ w12.heap.size := hg.size
  replace hB := bel_next hB hg nofun
  replace o_w0 := own_grown o_w0 hg (by simp)
  replace o_x0 := own_grown o_x0 hg (by simp)
  replace o_g0 := own_grown o_g0 hg (by simp)
  clear hb hg
  replace o_t2 := ownsRow_le o_t2 (base' := w11.heap.size) (by simp)
  have b_t2 := own_blk o_t2
  go_wp2_with fail
  refine (impl_SortingSwaps ((Reads.of_own o_t2).below (by go_grown)) (by omega)).mono ?_
  rintro e w13 ⟨A_h0, n_h0, c_h0, rfl, o_h0, l_h0, hb⟩
  have hg := step_below (a := w12) (by go_grown) hb
  have z13 : w12.heap.size ≤ w13.heap.size := hg.size
  replace hB := bel_next hB hg nofun
  replace o_w0 := own_grown o_w0 hg (by simp)
  replace o_x0 := own_grown o_x0 hg (by simp)
  replace o_g0 := own_grown o_g0 hg (by simp)
  replace o_t2 := own_grown o_t2 hg (by simp)
  clear hb hg
  replace o_h0 := ownsRow_le o_h0 (base' := w12.heap.size) (by simp)
  have b_h0 := own_blk o_h0
  clear o_t2 b_t2
  go_wp2_with fail
  refine (eqIntS_b ((Reads.of_own o_h0).below (by go_grown)) ((Reads.of_own o_w0).below (by go_grown)) (by omega)).mono ?_
  rintro e w14 ⟨rfl, hb⟩
  have hg := step_below (a := w13) (by go_grown) hb
  have z14 : w13.heap.size ≤ w14.heap.size := hg.size
  replace hB := bel_next hB hg nofun
  replace o_w0 := own_grown o_w0 hg (by simp)
  replace o_x0 := own_grown o_x0 hg (by simp)
  replace o_g0 := own_grown o_g0 hg (by simp)
  replace o_h0 := own_grown o_h0 hg (by simp)
  clear hb hg
  go_wp2_with fail
  refine (heldIntS_any _ _ _ _ _ ((Reads.of_own o_g0).below (by go_grown)) (by omega) (by omega) (by omega)).mono ?_
  rintro e w15 ⟨rfl, hw⟩
  have hb := below_of_eq hw; clear hw
  have hg := step_below (a := w14) (by go_grown) hb
  have z15 : w14.heap.size ≤ w15.heap.size := hg.size
  replace hB := bel_next hB hg nofun
  replace o_w0 := own_grown o_w0 hg (by simp)
  replace o_x0 := own_grown o_x0 hg (by simp)
  replace o_g0 := own_grown o_g0 hg (by simp)
  replace o_h0 := own_grown o_h0 hg (by simp)
  clear hb hg
  go_wp2_with fail
  go_ret
  exact ⟨rfl, hB⟩

set_option maxRecDepth 100000 in
theorem lifted (os : Os) (started : os.Started) (H : Type) (enc : TypeId × Value → H) :
    ReturnsInHanded {} Try.checked os 8 .any (Rows.fnExactSortingSwapsSpec.pre6 enc Try.prog Try.f8 Rows.fnExactSortingSwapsRow.domain false) (Rows.fnExactSortingSwapsSpec.post enc Try.prog Try.f8 false true false false) := by
  refine returnsInHanded_of_change (C := Try.checked) own started (by kernel_rfl) Try.func8
    (ChangeSpec.witness6 (enc := enc) (C := Try.checked) false ⟨#[], #[.slice none 0 0], []⟩ 8 (by kernel_rfl) (by kernel_rfl) (by kernel_rfl) (by kernel_rfl)) ?_
  intro W base args ds gs before hval0 hW hcnd _
  have hval : ∀ (j : Nat) t v, Try.f8.params[j]? = some t → args[j]? = some v → Value.okWide Try.prog W .any base t v := hval0
  have hW' := hW
  obtain ⟨p, q, hA0, hV, rfl, hfz, hnd⟩ := hW
  have hA : DataW.TrodAll enc Try.prog W 0 (fun _ => true) true Try.f8.params.toList args.toList ds p := hA0
  rw [Try.params8] at hA hval
  obtain ⟨v0, vs0, d0, ds0, p0, q0, hargs, rfl, rfl, h0, r0⟩ := trodAll_cons hA
  obtain ⟨rfl, rfl, rfl⟩ := trodAll_nil r0
  obtain rfl : args = #[v0] := by cases args; simp_all
  obtain ⟨rfl, rfl⟩ := trodVars_none hV
  obtain ⟨A0, n0, c0, xs0, rfl, g0, m0⟩ := open_intA (hval 0 22 v0 rfl rfl) h0
  refine (walk A0 n0 c0 xs0 W g0 m0).mono fun e W' ⟨he, hb⟩ => ?_
  subst he
  exact ⟨_, rfl, post_true laidOut rfl hW' rfl (by rw [Try.params8]; intro t ht; simp only [List.mem_cons, List.not_mem_nil, or_false] at ht; rcases ht with rfl <;> exact ⟨by kernel_rfl, of_decide_eq_true (by kernel_rfl)⟩) Try.underlying4 (by kernel_rfl) hb⟩

theorem over : Rows.fnExactSortingSwapsRow.holds Try.pinned (OpenSpec.ofChange Rows.fnExactSortingSwapsSpec) :=
  OpenClaim.holds_of_wide 8 Try.f8 rfl rfl rfl rfl rfl rfl rfl ⟨rfl, rfl, rfl, rfl, rfl⟩ rfl rfl rfl rfl rfl (by kernel_rfl) Try.func8 (by kernel_rfl)
    (of_decide_eq_true (by kernel_rfl)) (by unfold Func.isWrapper; first | (rw [if_pos (by decide +kernel)]; kernel_rfl) | (rw [if_neg (by decide +kernel)]; exact ⟨rfl, rfl⟩))
    (fun os started H enc _ => lifted os started H enc)

theorem proved : Rows.FnExactSortingSwapsSaid := over
end Go.Proofs.Ytbdiknfgfnibnaa.FnExactSortingSwaps
