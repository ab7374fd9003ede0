/- The given law FnExactCountFront: the program and the reference agree for all arguments and share no memory, so the law returns true; no condition. -/
import Derived.Test.YtkpgfmkmbgapmaaCount
import Derived.Test.YtkpgfmkmbgapmaaOpenC
namespace Go.Proofs.Ytkpgfmkmbgapmaa.FnExactCountFront
open Go.ChangeShapes Go.WideShapes Go.ChangeAt Go.RowKit Go.Deep Go.Joins
set_option maxRecDepth 100000

set_option maxHeartbeats 1000000 in
theorem walk (aN : Int) (A_aList : Option Addr) (n_aList c_aList : Nat) (xs_aList : List Cr) (aPuppet : Int) (w : World) (bd_aN : -9223372036854775808 ≤ aN ∧ aN ≤ 9223372036854775807) (hr_aList : Reads w 2 A_aList n_aList (crs xs_aList)) (hm_aList : n_aList ≤ 9223372036854775807) (bd_aPuppet : -9223372036854775808 ≤ aPuppet ∧ aPuppet ≤ 9223372036854775807) :
    Calls Try.prog 8 #[.int .i64 aN, .slice A_aList n_aList c_aList, .int .i64 aPuppet] w fun e w' => e = .returned (.bool true) ∧ Below w.heap.size w w' := by
  by_cases hn0 : n_aList ≤ 1048576
  rotate_left
  · skip
    have hB := Below.refl w.heap.size w
    go_enter Try.func8, Try.ntmps8
    go_wp2_with fail
    refine (szCrossS_f _ _ _ _ _ (by omega) (by omega) (by omega) (by omega)).mono ?_
    rintro e w1 ⟨rfl, hw⟩
    have hb := below_of_eq hw; clear hw
    have hg := step_below (a := w) (by go_grown) hb
    have z1 : w.heap.size ≤ w1.heap.size := hg.size
    replace hB := bel_next hB hg nofun
    clear hb hg
    go_wp2_with fail
    go_ret
    exact ⟨rfl, hB⟩
  have hB := Below.refl w.heap.size w
  go_enter Try.func8, Try.ntmps8
  go_wp2_with fail
  refine (szCrossS_t _ _ _ _ _ (by omega) (by omega)).mono ?_
  rintro e w1 ⟨rfl, hw⟩
  have hb := below_of_eq hw; clear hw
  have hg := step_below (a := w) (by go_grown) hb
  have z1 : w.heap.size ≤ w1.heap.size := hg.size
  replace hB := bel_next hB hg nofun
  clear hb hg
  go_wp2_with fail
  refine (toCrossS_any _ _ _ _ _ ((hr_aList.below hB).below (by go_grown)) (by omega)).mono ?_
  rintro e w2 ⟨g_t0, rfl, o_t0, hb⟩
  have hg := step_below (a := w1) (by go_grown) hb
  have z2 : w1.heap.size ≤ w2.heap.size := hg.size
  replace hB := bel_next hB hg nofun
  clear hb hg
  replace o_t0 := ownsRow_le o_t0 (base' := w1.heap.size) (by simp)
  have b_t0 := own_blk o_t0
  go_wp2_with fail
  refine (spec_CountFront ((Reads.of_own o_t0).below (by go_grown)) (by omega)).mono ?_
  rintro e w3 ⟨rfl, hb⟩
  have hg := step_below (a := w2) (by go_grown) hb
  have z3 : w2.heap.size ≤ w3.heap.size := hg.size
  replace hB := bel_next hB hg nofun
  replace o_t0 := own_grown o_t0 hg (by simp)
  clear hb hg
  clear o_t0 b_t0
  go_wp2_with fail
  refine (toCrossS_any _ _ _ _ _ ((hr_aList.below hB).below (by go_grown)) (by omega)).mono ?_
  rintro e w4 ⟨g_x1, rfl, o_x1, hb⟩
  have hg := step_below (a := w3) (by go_grown) hb
  have z4 : w3.heap.size ≤ w4.heap.size := hg.size
  replace hB := bel_next hB hg nofun
  clear hb hg
  replace o_x1 := ownsRow_le o_x1 (base' := w3.heap.size) (by simp)
  have b_x1 := own_blk o_x1
  go_wp2_with fail
  refine (impl_CountFront ((Reads.of_own o_x1).below (by go_grown)) (by omega)).mono ?_
  rintro e w5 ⟨rfl, hb⟩
  have hg := step_below (a := w4) (by go_grown) hb
  have z5 : w4.heap.size ≤ w5.heap.size := hg.size
  replace hB := bel_next hB hg nofun
  replace o_x1 := own_grown o_x1 hg (by simp)
  clear hb hg
  go_wp2_with fail
  refine (toCrossS_any _ _ _ _ _ ((hr_aList.below hB).below (by go_grown)) (by omega)).mono ?_
  rintro e w6 ⟨g_t1, rfl, o_t1, hb⟩
  have hg := step_below (a := w5) (by go_grown) hb
  have z6 : w5.heap.size ≤ w6.heap.size := hg.size
  replace hB := bel_next hB hg nofun
  replace o_x1 := own_grown o_x1 hg (by simp)
  clear hb hg
  replace o_t1 := ownsRow_le o_t1 (base' := w5.heap.size) (by simp)
  have b_t1 := own_blk o_t1
  go_wp2_with fail
  refine (eqCrossS_b ((Reads.of_own o_x1).below (by go_grown)) ((Reads.of_own o_t1).below (by go_grown)) (by omega)).mono ?_
  rintro e w7 ⟨rfl, hb⟩
  have hg := step_below (a := w6) (by go_grown) hb
  have z7 : w6.heap.size ≤ w7.heap.size := hg.size
  replace hB := bel_next hB hg nofun
  replace o_x1 := own_grown o_x1 hg (by simp)
  replace o_t1 := own_grown o_t1 hg (by simp)
  clear hb hg
  clear o_t1 b_t1
  go_wp2_with fail
  go_ret
  exact ⟨rfl, hB⟩

set_option maxRecDepth 100000 in
theorem lifted (os : Os) (started : os.Started) (H : Type) (enc : TypeId × Value → H) :
    ReturnsInHanded {} Try.checked os 8 .any (Rows.fnExactCountFrontSpec.pre6 enc Try.prog Try.f8 Rows.fnExactCountFrontRow.domain false) (Rows.fnExactCountFrontSpec.post enc Try.prog Try.f8 false true false false) := by
  refine returnsInHanded_of_change (C := Try.checked) own started (by kernel_rfl) Try.func8
    (ChangeSpec.witness6 (enc := enc) (C := Try.checked) false ⟨#[], #[.int .i64 0, .slice none 0 0, .int .i64 0], []⟩ 8 (by kernel_rfl) (by kernel_rfl) (by kernel_rfl) (by kernel_rfl)) ?_
  intro W base args ds gs before hval0 hW hcnd _
  have hval : ∀ (j : Nat) t v, Try.f8.params[j]? = some t → args[j]? = some v → Value.okWide Try.prog W .any base t v := hval0
  have hW' := hW
  obtain ⟨p, q, hA0, hV, rfl, hfz, hnd⟩ := hW
  have hA : DataW.TrodAll enc Try.prog W 0 (fun _ => true) true Try.f8.params.toList args.toList ds p := hA0
  rw [Try.params8] at hA hval
  obtain ⟨v0, vs0, d0, ds0, p0, q0, hargs, rfl, rfl, h0, r0⟩ := trodAll_cons hA
  obtain ⟨v1, vs1, d1, ds1, p1, q1, rfl, rfl, rfl, h1, r1⟩ := trodAll_cons r0
  obtain ⟨v2, vs2, d2, ds2, p2, q2, rfl, rfl, rfl, h2, r2⟩ := trodAll_cons r1
  obtain ⟨rfl, rfl, rfl⟩ := trodAll_nil r2
  obtain rfl : args = #[v0, v1, v2] := by cases args; simp_all
  obtain ⟨rfl, rfl⟩ := trodVars_none hV
  obtain ⟨a0, rfl, rfl, rfl, w0⟩ := open_int Try.underlying3 (hval 0 3 v0 rfl rfl) h0
  obtain ⟨A1, n1, c1, xs1, rfl, g1, m1⟩ := open_crossS (hval 1 22 v1 rfl rfl) h1
  obtain ⟨a2, rfl, rfl, rfl, w2⟩ := open_int Try.underlying3 (hval 2 3 v2 rfl rfl) h2
  refine (walk a0 A1 n1 c1 xs1 a2 W (bounds_i64 w0) g1 m1 (bounds_i64 w2)).mono fun e W' ⟨he, hb⟩ => ?_
  subst he
  exact ⟨_, rfl, post_true laidOut rfl hW' rfl (by rw [Try.params8]; intro t ht; simp only [List.mem_cons, List.not_mem_nil, or_false] at ht; rcases ht with rfl | rfl | rfl <;> exact ⟨by kernel_rfl, of_decide_eq_true (by kernel_rfl)⟩) Try.underlying4 (by kernel_rfl) hb⟩

theorem over : Rows.fnExactCountFrontRow.holds Try.pinned (OpenSpec.ofChange Rows.fnExactCountFrontSpec) :=
  OpenClaim.holds_of_wide 8 Try.f8 rfl rfl rfl rfl rfl rfl rfl ⟨rfl, rfl, rfl, rfl, rfl⟩ rfl rfl rfl rfl rfl (by kernel_rfl) Try.func8 (by kernel_rfl)
    (of_decide_eq_true (by kernel_rfl)) (by unfold Func.isWrapper; first | (rw [if_pos (by decide +kernel)]; kernel_rfl) | (rw [if_neg (by decide +kernel)]; exact ⟨rfl, rfl⟩))
    (fun os started H enc _ => lifted os started H enc)

theorem proved : Rows.FnExactCountFrontSaid := over
end Go.Proofs.Ytkpgfmkmbgapmaa.FnExactCountFront
