/- The given law FnExactPairsOf: the program and the reference agree for all arguments and share no memory, so the law returns true; no condition. -/
import Derived.Test.YtkpgfmkmbgapmaaPairsI
import Derived.Test.YtkpgfmkmbgapmaaSS3
import Derived.Test.YtkpgfmkmbgapmaaOpenC
namespace Go.Proofs.Ytkpgfmkmbgapmaa.FnExactPairsOf
open Go.ChangeShapes Go.WideShapes Go.ChangeAt Go.RowKit Go.Deep Go.Joins
set_option maxRecDepth 100000

set_option maxHeartbeats 1000000 in
theorem walk (aN : Int) (A_aList : Option Addr) (n_aList c_aList : Nat) (xs_aList : List Cr) (w : World) (bd_aN : -9223372036854775808 ≤ aN ∧ aN ≤ 9223372036854775807) (hr_aList : Reads w 2 A_aList n_aList (crs xs_aList)) (hm_aList : n_aList ≤ 9223372036854775807) :
    Calls Try.prog 9 #[.int .i64 aN, .slice A_aList n_aList c_aList] w fun e w' => e = .returned (.bool true) ∧ Below w.heap.size w w' := by
  by_cases hn0 : n_aList ≤ 1048576
  rotate_left
  · skip
    have hB := Below.refl w.heap.size w
    go_enter Try.func9, Try.ntmps9
    go_wp2_with fail
    refine (szCrossS_f _ _ _ _ _ (by omega) (by omega) (by omega) (by omega)).mono ?_
    rintro e w1 ⟨rfl, hw⟩
    have hb := below_of_eq hw; clear hw
    have hg := step_below (a := w) (by go_grown) hb
    have z1 : w.heap.size ≤ w1.heap.size := hg.size
    replace hB := bel_next hB hg nofun
    clear hb hg
    go_wp2_with fail
    go_ret
    exact ⟨rfl, hB⟩
  have hB := Below.refl w.heap.size w
  go_enter Try.func9, Try.ntmps9
  go_wp2_with fail
  refine (szCrossS_t _ _ _ _ _ (by omega) (by omega)).mono ?_
  rintro e w1 ⟨rfl, hw⟩
  have hb := below_of_eq hw; clear hw
  have hg := step_below (a := w) (by go_grown) hb
  have z1 : w.heap.size ≤ w1.heap.size := hg.size
  replace hB := bel_next hB hg nofun
  clear hb hg
  go_wp2_with fail
  refine (toCrossS_any _ _ _ _ _ ((hr_aList.below hB).below (by go_grown)) (by omega)).mono ?_
  rintro e w2 ⟨g_t0, rfl, o_t0, hb⟩
  have hg := step_below (a := w1) (by go_grown) hb
  have z2 : w1.heap.size ≤ w2.heap.size := hg.size
  replace hB := bel_next hB hg nofun
  clear hb hg
  replace o_t0 := ownsRow_le o_t0 (base' := w1.heap.size) (by simp)
  have b_t0 := own_blk o_t0
  go_wp2_with fail
  refine (spec_PairsOf ((Reads.of_own o_t0).below (by go_grown)) (by omega)).mono ?_
  rintro e w3 ⟨A_w0, n_w0, c_w0, rfl, o_w0, l_w0, hb⟩
  have hg := step_below (a := w2) (by go_grown) hb
  have z3 : w2.heap.size ≤ w3.heap.size := hg.size
  replace hB := bel_next hB hg nofun
  replace o_t0 := own_grown o_t0 hg (by simp)
  clear hb hg
  replace o_w0 := o_w0.lower (base' := w2.heap.size) (by simp)
  clear o_t0 b_t0
  go_wp2_with fail
  refine (toCrossS_any _ _ _ _ _ ((hr_aList.below hB).below (by go_grown)) (by omega)).mono ?_
  rintro e w4 ⟨g_x1, rfl, o_x1, hb⟩
  have hg := step_below (a := w3) (by go_grown) hb
  have z4 : w3.heap.size ≤ w4.heap.size := hg.size
  replace hB := bel_next hB hg nofun
  replace o_w0 := o_w0.grown hg nofun
  clear hb hg
  replace o_x1 := ownsRow_le o_x1 (base' := w3.heap.size) (by simp)
  have b_x1 := own_blk o_x1
  go_wp2_with fail
  refine (impl_PairsOf ((Reads.of_own o_x1).below (by go_grown)) (by omega)).mono ?_
  rintro e w5 ⟨A_g0, n_g0, c_g0, rfl, o_g0, l_g0, hb⟩
  have hg := step_below (a := w4) (by go_grown) hb
  have z5 : w4.heap.size ≤ w5.heap.size := hg.size
  replace hB := bel_next hB hg nofun
  replace o_w0 := o_w0.grown hg nofun
  replace o_x1 := own_grown o_x1 hg (by simp)
  clear hb hg
  replace o_g0 := o_g0.lower (base' := w4.heap.size) (by simp)
  go_wp2_with fail
  refine (eqIntSS_b (o_g0.reads.below (by go_grown)) (o_w0.reads.below (by go_grown)) (by omega) (by omega)).mono ?_
  rintro e w6 ⟨rfl, hb⟩
  have hg := step_below (a := w5) (by go_grown) hb
  have z6 : w5.heap.size ≤ w6.heap.size := hg.size
  replace hB := bel_next hB hg nofun
  replace o_w0 := o_w0.grown hg nofun
  replace o_x1 := own_grown o_x1 hg (by simp)
  replace o_g0 := o_g0.grown hg nofun
  clear hb hg
  go_wp2_with fail
  refine (toCrossS_any _ _ _ _ _ ((hr_aList.below hB).below (by go_grown)) (by omega)).mono ?_
  rintro e w7 ⟨g_t1, rfl, o_t1, hb⟩
  have hg := step_below (a := w6) (by go_grown) hb
  have z7 : w6.heap.size ≤ w7.heap.size := hg.size
  replace hB := bel_next hB hg nofun
  replace o_w0 := o_w0.grown hg nofun
  replace o_x1 := own_grown o_x1 hg (by simp)
  replace o_g0 := o_g0.grown hg nofun
  clear hb hg
  replace o_t1 := ownsRow_le o_t1 (base' := w6.heap.size) (by simp)
  have b_t1 := own_blk o_t1
  go_wp2_with fail
  refine (eqCrossS_b ((Reads.of_own o_x1).below (by go_grown)) ((Reads.of_own o_t1).below (by go_grown)) (by omega)).mono ?_
  rintro e w8 ⟨rfl, hb⟩
  have hg := step_below (a := w7) (by go_grown) hb
  have z8 : w7.heap.size ≤ w8.heap.size := hg.size
  replace hB := bel_next hB hg nofun
  replace o_w0 := o_w0.grown hg nofun
  replace o_x1 := own_grown o_x1 hg (by simp)
  replace o_g0 := o_g0.grown hg nofun
  replace o_t1 := own_grown o_t1 hg (by simp)
  clear hb hg
  clear o_t1 b_t1
  go_wp2_with fail
  refine (markCrossS_any _ _ _ _ _ _ _ (own_below o_x1 (by go_grown)) (by omega) (by omega) (by omega)).mono ?_
  rintro e w9 ⟨rfl, o_x1, hb⟩
  have hg := step_grown (a := w8) (by go_grown) hb
  have z9 : w8.heap.size ≤ w9.heap.size := hg.size
  replace hB := bel_apart hB hg b_x1 (by omega)
  replace o_w0 := o_w0.grown hg (blk_off b_x1 (by omega))
  replace o_g0 := o_g0.grown hg (blk_off b_x1 (by omega))
  clear hb hg
  go_wp2_with fail
  refine (eqIntSS_b (o_g0.reads.below (by go_grown)) (o_w0.reads.below (by go_grown)) (by omega) (by omega)).mono ?_
  rintro e w10 ⟨rfl, hb⟩
  have hg := step_below (a := w9) (by go_grown) hb
  have z10 : w9.heap.size ≤ w10.heap.size := hg.size
  replace hB := bel_next hB hg nofun
  replace o_w0 := o_w0.grown hg nofun
  replace o_x1 := own_grown o_x1 hg (by simp)
  replace o_g0 := o_g0.grown hg nofun
  clear hb hg
  go_wp2_with fail
  refine (markIntSS_any (o_g0.below (by go_grown)) (by omega) (by omega) (by omega) (by omega) (by first | omega | (simp; omega))).mono ?_
  clear o_g0
  rintro e w11 ⟨rfl, o_g0, hb⟩
  replace hb := below_onto (a := w10) (by go_grown) hb (by omega)
  have z11 : w10.heap.size ≤ w11.heap.size := hb.size
  replace hB := hB.trans (hb.mono (by omega))
  replace o_w0 := o_w0.belowB hb (by omega)
  replace o_x1 := own_belowB o_x1 hb (fun g e => Nat.lt_of_lt_of_le (b_x1 _ e).2 (by omega))
  clear hb
  go_wp2_with fail
  refine (heldIntSS_any (o_g0.reads.below (by go_grown)) (by omega) (by omega) (by omega) (by omega)).mono ?_
  rintro e w12 ⟨rfl, hw⟩
  have hb := below_of_eq hw; clear hw
  have hg := step_below (a := w11) (by go_grown) hb
  have z12 : w11.heap.size ≤ w12.heap.size := hg.size
  replace hB := bel_next hB hg nofun
  replace o_w0 := o_w0.grown hg nofun
  replace o_x1 := own_grown o_x1 hg (by simp)
  replace o_g0 := o_g0.grown hg nofun
  clear hb hg
  go_wp2_with fail
  refine (toCrossS_any _ _ _ _ _ ((hr_aList.below hB).below (by go_grown)) (by omega)).mono ?_
  rintro e w13 ⟨g_t2, rfl, o_t2, hb⟩
  have hg := step_below (a := w12) (by go_grown) hb
  have z13 : w12.heap.size ≤ w13.heap.size := hg.size
  replace hB := bel_next hB hg nofun
  replace o_w0 := o_w0.grown hg nofun
  replace o_x1 := own_grown o_x1 hg (by simp)
  replace o_g0 := o_g0.grown hg nofun
  clear hb hg
  replace o_t2 := ownsRow_le o_t2 (base' := w12.heap.size) (by simp)
  have b_t2 := own_blk o_t2
  go_wp2_with fail
  refine (impl_PairsOf ((Reads.of_own o_t2).below (by go_grown)) (by omega)).mono ?_
  rintro e w14 ⟨A_h0, n_h0, c_h0, rfl, o_h0, l_h0, hb⟩
  have hg := step_below (a := w13) (by go_grown) hb
  have z14 : w13.heap.size ≤ w14.heap.size := hg.size
  replace hB := bel_next hB hg nofun
  replace o_w0 := o_w0.grown hg nofun
  replace o_x1 := own_grown o_x1 hg (by simp)
  replace o_g0 := o_g0.grown hg nofun
  replace o_t2 := own_grown o_t2 hg (by simp)
  clear hb hg
  replace o_h0 := o_h0.lower (base' := w13.heap.size) (by simp)
  clear o_t2 b_t2
  go_wp2_with fail
  refine (eqIntSS_b (o_h0.reads.below (by go_grown)) (o_w0.reads.below (by go_grown)) (by omega) (by omega)).mono ?_
  rintro e w15 ⟨rfl, hb⟩
  have hg := step_below (a := w14) (by go_grown) hb
  have z15 : w14.heap.size ≤ w15.heap.size := hg.size
  replace hB := bel_next hB hg nofun
  replace o_w0 := o_w0.grown hg nofun
  replace o_x1 := own_grown o_x1 hg (by simp)
  replace o_g0 := o_g0.grown hg nofun
  replace o_h0 := o_h0.grown hg nofun
  clear hb hg
  go_wp2_with fail
  refine (heldIntSS_any (o_g0.reads.below (by go_grown)) (by omega) (by omega) (by omega) (by omega)).mono ?_
  rintro e w16 ⟨rfl, hw⟩
  have hb := below_of_eq hw; clear hw
  have hg := step_below (a := w15) (by go_grown) hb
  have z16 : w15.heap.size ≤ w16.heap.size := hg.size
  replace hB := bel_next hB hg nofun
  replace o_w0 := o_w0.grown hg nofun
  replace o_x1 := own_grown o_x1 hg (by simp)
  replace o_g0 := o_g0.grown hg nofun
  replace o_h0 := o_h0.grown hg nofun
  clear hb hg
  go_wp2_with fail
  go_ret
  exact ⟨rfl, hB⟩

set_option maxRecDepth 100000 in
theorem lifted (os : Os) (started : os.Started) (H : Type) (enc : TypeId × Value → H) :
    ReturnsInHanded {} Try.checked os 9 .any (Rows.fnExactPairsOfSpec.pre6 enc Try.prog Try.f9 Rows.fnExactPairsOfRow.domain false) (Rows.fnExactPairsOfSpec.post enc Try.prog Try.f9 false true false false) := by
  refine returnsInHanded_of_change (C := Try.checked) own started (by kernel_rfl) Try.func9
    (ChangeSpec.witness6 (enc := enc) (C := Try.checked) false ⟨#[], #[.int .i64 0, .slice none 0 0], []⟩ 8 (by kernel_rfl) (by kernel_rfl) (by kernel_rfl) (by kernel_rfl)) ?_
  intro W base args ds gs before hval0 hW hcnd _
  have hval : ∀ (j : Nat) t v, Try.f9.params[j]? = some t → args[j]? = some v → Value.okWide Try.prog W .any base t v := hval0
  have hW' := hW
  obtain ⟨p, q, hA0, hV, rfl, hfz, hnd⟩ := hW
  have hA : DataW.TrodAll enc Try.prog W 0 (fun _ => true) true Try.f9.params.toList args.toList ds p := hA0
  rw [Try.params9] at hA hval
  obtain ⟨v0, vs0, d0, ds0, p0, q0, hargs, rfl, rfl, h0, r0⟩ := trodAll_cons hA
  obtain ⟨v1, vs1, d1, ds1, p1, q1, rfl, rfl, rfl, h1, r1⟩ := trodAll_cons r0
  obtain ⟨rfl, rfl, rfl⟩ := trodAll_nil r1
  obtain rfl : args = #[v0, v1] := by cases args; simp_all
  obtain ⟨rfl, rfl⟩ := trodVars_none hV
  obtain ⟨a0, rfl, rfl, rfl, w0⟩ := open_int Try.underlying3 (hval 0 3 v0 rfl rfl) h0
  obtain ⟨A1, n1, c1, xs1, rfl, g1, m1⟩ := open_crossS (hval 1 22 v1 rfl rfl) h1
  refine (walk a0 A1 n1 c1 xs1 W (bounds_i64 w0) g1 m1).mono fun e W' ⟨he, hb⟩ => ?_
  subst he
  exact ⟨_, rfl, post_true laidOut rfl hW' rfl (by rw [Try.params9]; intro t ht; simp only [List.mem_cons, List.not_mem_nil, or_false] at ht; rcases ht with rfl | rfl <;> exact ⟨by kernel_rfl, of_decide_eq_true (by kernel_rfl)⟩) Try.underlying4 (by kernel_rfl) hb⟩

theorem over : Rows.fnExactPairsOfRow.holds Try.pinned (OpenSpec.ofChange Rows.fnExactPairsOfSpec) :=
  OpenClaim.holds_of_wide 9 Try.f9 rfl rfl rfl rfl rfl rfl rfl ⟨rfl, rfl, rfl, rfl, rfl⟩ rfl rfl rfl rfl rfl (by kernel_rfl) Try.func9 (by kernel_rfl)
    (of_decide_eq_true (by kernel_rfl)) (by unfold Func.isWrapper; first | (rw [if_pos (by decide +kernel)]; kernel_rfl) | (rw [if_neg (by decide +kernel)]; exact ⟨rfl, rfl⟩))
    (fun os started H enc _ => lifted os started H enc)

theorem proved : Rows.FnExactPairsOfSaid := over
end Go.Proofs.Ytkpgfmkmbgapmaa.FnExactPairsOf
