/- The given law FnClamped: the program and the reference agree for all arguments and share no memory, so the law returns true; no condition. -/
import Derived.Test.YtjcfdkmlkhgfiaaClamped
namespace Go.Proofs.Ytjcfdkmlkhgfiaa.FnClamped
open Go.ChangeShapes Go.WideShapes Go.ChangeAt Go.RowKit Go.Deep Go.Joins
set_option maxRecDepth 100000

set_option maxHeartbeats 1000000 in
theorem walk (A_code : Option Addr) (n_code c_code : Nat) (xs_code : List Int) (w : World) (hr_code : Reads w 1 A_code n_code (u8s xs_code)) (hm_code : n_code ≤ 9223372036854775807) (hb_code : ∀ x ∈ xs_code, 0 ≤ x ∧ x ≤ 255) :
    Calls Try.prog 7 #[.slice A_code n_code c_code] w fun e w' => e = .returned (.bool true) ∧ Below w.heap.size w w' := by
  by_cases hbig : 1048576 < n_code
  · have D : Hid (decide (1048576 < n_code) = true) := Lib.hid (decide_eq_true hbig)
    clear hbig
    go_enter Try.func7, Try.ntmps7
    go_wp2_with fail
    refine (laws_big hm_code).mono ?_
    rintro e w1 ⟨rfl, rfl⟩
    rw [D.out]
    go_wp2
    go_ret
    exact ⟨rfl, Below.refl _ _⟩
  have D : Hid (decide (1048576 < n_code) = false) := Lib.hid (decide_eq_false hbig)
  have hn : n_code ≤ 1048576 := by omega
  clear hbig
  go_enter Try.func7, Try.ntmps7
  go_wp2_with fail
  refine (laws_big hm_code).mono ?_
  rintro e w1 ⟨rfl, rfl⟩
  rw [D.out]
  go_wp2_with fail
  refine (spec_DrawClamp hr_code hb_code hn).mono ?_
  rintro e w1 ⟨x, lo, hi, rfl, hb1⟩
  have HB := Lib.hid hb1
  clear hb1
  have h7 : Hid (clampS 7 3 5 = 5) := Lib.hid (by decide)
  by_cases hlt : hi < lo
  · have hx : Hid (clampS x lo hi = lo) := Lib.hid (by unfold clampS; omega)
    go_wp2_with (first | (go_at_call 10; with_reducible refine (clamp_is hx.out).mono ?_; rintro e w' ⟨rfl, rfl⟩) | (go_at_call 10; with_reducible refine (clamp_is h7.out).mono ?_; rintro e w' ⟨rfl, rfl⟩))
    go_ret
    exact ⟨rfl, HB.out⟩
  · by_cases h1 : x < lo
    · have hx : Hid (clampS x lo hi = lo) := Lib.hid (by unfold clampS; omega)
      have hy : Hid (clampS lo lo hi = lo) := Lib.hid (by unfold clampS; omega)
      go_wp2_with (first | (go_at_call 10; with_reducible refine (clamp_is hx.out).mono ?_; rintro e w' ⟨rfl, rfl⟩) | (go_at_call 10; with_reducible refine (clamp_is hy.out).mono ?_; rintro e w' ⟨rfl, rfl⟩) | (go_at_call 10; with_reducible refine (clamp_is h7.out).mono ?_; rintro e w' ⟨rfl, rfl⟩))
      go_ret
      exact ⟨rfl, HB.out⟩
    · by_cases h2 : hi < x
      · have hx : Hid (clampS x lo hi = hi) := Lib.hid (by unfold clampS; omega)
        have hy : Hid (clampS hi lo hi = hi) := Lib.hid (by unfold clampS; omega)
        go_wp2_with (first | (go_at_call 10; with_reducible refine (clamp_is hx.out).mono ?_; rintro e w' ⟨rfl, rfl⟩) | (go_at_call 10; with_reducible refine (clamp_is hy.out).mono ?_; rintro e w' ⟨rfl, rfl⟩) | (go_at_call 10; with_reducible refine (clamp_is h7.out).mono ?_; rintro e w' ⟨rfl, rfl⟩))
        go_ret
        exact ⟨rfl, HB.out⟩
      · have hx : Hid (clampS x lo hi = x) := Lib.hid (by unfold clampS; omega)
        go_wp2_with (first | (go_at_call 10; with_reducible refine (clamp_is hx.out).mono ?_; rintro e w' ⟨rfl, rfl⟩) | (go_at_call 10; with_reducible refine (clamp_is h7.out).mono ?_; rintro e w' ⟨rfl, rfl⟩))
        go_ret
        exact ⟨rfl, HB.out⟩

set_option maxRecDepth 100000 in
theorem lifted (os : Os) (started : os.Started) (H : Type) (enc : TypeId × Value → H) :
    ReturnsInHanded {} Try.checked os 7 .any (Rows.fnClampedSpec.pre6 enc Try.prog Try.f7 Rows.fnClampedRow.domain false) (Rows.fnClampedSpec.post enc Try.prog Try.f7 false true false false) := by
  refine returnsInHanded_of_change (C := Try.checked) own started (by kernel_rfl) Try.func7
    (ChangeSpec.witness6 (enc := enc) (C := Try.checked) false ⟨#[], #[.slice none 0 0], []⟩ 8 (by kernel_rfl) (by kernel_rfl) (by kernel_rfl) (by kernel_rfl)) ?_
  intro W base args ds gs before hval0 hW hcnd _
  have hval : ∀ (j : Nat) t v, Try.f7.params[j]? = some t → args[j]? = some v → Value.okWide Try.prog W .any base t v := hval0
  have hW' := hW
  obtain ⟨p, q, hA0, hV, rfl, hfz, hnd⟩ := hW
  have hA : DataW.TrodAll enc Try.prog W 0 (fun _ => true) true Try.f7.params.toList args.toList ds p := hA0
  rw [Try.params7] at hA hval
  obtain ⟨v0, vs0, d0, ds0, p0, q0, hargs, rfl, rfl, h0, r0⟩ := trodAll_cons hA
  obtain ⟨rfl, rfl, rfl⟩ := trodAll_nil r0
  obtain rfl : args = #[v0] := by cases args; simp_all
  obtain ⟨rfl, rfl⟩ := trodVars_none hV
  obtain ⟨A0, n0, c0, xs0, rfl, g0, m0, u0⟩ := open_byteA (hval 0 28 v0 rfl rfl) h0
  refine (walk A0 n0 c0 xs0 W g0 m0 u0).mono fun e W' ⟨he, hb⟩ => ?_
  subst he
  exact ⟨_, rfl, post_true laidOut rfl hW' rfl (by rw [Try.params7]; intro t ht; simp only [List.mem_cons, List.not_mem_nil, or_false] at ht; rcases ht with rfl <;> exact ⟨by kernel_rfl, of_decide_eq_true (by kernel_rfl)⟩) Try.underlying4 (by kernel_rfl) hb⟩

theorem over : Rows.fnClampedRow.holds Try.pinned (OpenSpec.ofChange Rows.fnClampedSpec) :=
  OpenClaim.holds_of_wide 7 Try.f7 rfl rfl rfl rfl rfl rfl rfl ⟨rfl, rfl, rfl, rfl, rfl⟩ rfl rfl rfl rfl rfl (by kernel_rfl) Try.func7 (by kernel_rfl)
    (of_decide_eq_true (by kernel_rfl)) (by unfold Func.isWrapper; first | (rw [if_pos (by decide +kernel)]; kernel_rfl) | (rw [if_neg (by decide +kernel)]; exact ⟨rfl, rfl⟩))
    (fun os started H enc _ => lifted os started H enc)

theorem proved : Rows.FnClampedSaid := over
end Go.Proofs.Ytjcfdkmlkhgfiaa.FnClamped
