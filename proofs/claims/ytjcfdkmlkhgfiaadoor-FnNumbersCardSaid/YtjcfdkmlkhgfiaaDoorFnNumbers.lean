/- The given law FnNumbers: the program and the reference agree for all arguments and share no memory, so the law returns true; no condition. -/
import Derived.Test.YtjcfdkmlkhgfiaaDoorParseU
import Derived.Test.YtjcfdkmlkhgfiaaDoorNumDraw
namespace Go.Proofs.YtjcfdkmlkhgfiaaDoor.FnNumbers
open Go.ChangeShapes Go.WideShapes Go.ChangeAt Go.RowKit Go.Deep Go.Joins
set_option maxRecDepth 100000

set_option maxHeartbeats 8000000 in
theorem walk (A_code : Option Addr) (n_code c_code : Nat) (xs_code : List Int) (w : World) (hr_code : Reads w 1 A_code n_code (u8s xs_code)) (hm_code : n_code ≤ 9223372036854775807) (hb_code : ∀ x ∈ xs_code, 0 ≤ x ∧ x ≤ 255) (htab : Tab w) (hvars : Vars w) :
    Calls Tryd.prog 7 #[.slice A_code n_code c_code] w fun e w' => e = .returned (.bool true) ∧ Below w.heap.size w w' := by
  by_cases hbig : 1048576 < n_code
  · have D : Hid (decide (1048576 < n_code) = true) := Lib.hid (decide_eq_true hbig)
    clear hbig
    go_enter Tryd.func7, Tryd.ntmps7
    go_wp2_with fail
    refine (laws_big hm_code).mono ?_
    rintro e w1 ⟨rfl, rfl⟩
    rw [D.out]
    go_wp2
    go_ret
    exact ⟨rfl, Below.refl _ _⟩
  have D : Hid (decide (1048576 < n_code) = false) := Lib.hid (decide_eq_false hbig)
  have hn : n_code ≤ 1048576 := by omega
  clear hbig
  go_enter Tryd.func7, Tryd.ntmps7
  go_wp2_with fail
  refine (laws_big hm_code).mono ?_
  rintro e w1 ⟨rfl, rfl⟩
  rw [D.out]
  clear D
  go_wp2_with fail
  refine (spec_DrawFormatInt hr_code hb_code hn).mono ?_
  rintro e w1 ⟨x, x0, x1, rfl, hb1⟩
  have hT1 := htab.below hb1
  have hV1 := hvars.below hb1
  go_wp2_with fail
  refine (impl_FormatInt x0 x1 hT1).mono ?_
  rintro e w2 ⟨rfl, hb2⟩
  have hT2 := hT1.below hb2
  have hV2 := hV1.below hb2
  have hB2 := hb1.trans (hb2.mono hb1.size)
  obtain ⟨t, ht⟩ : ∃ t : ByteArray, t = ⟨(Lib.itoa x).toArray⟩ := ⟨_, rfl⟩
  rw [← ht]
  obtain ⟨hz, hne⟩ := itoa_str x0 x1 ht
  have hn1 : ¬ t.toList = [] := fun h => by
    have h2 : (⟨#[]⟩ : ByteArray).toList = [] := by simp
    rw [h, h2] at hne
    simp at hne
  have hn2 : t.toList.isEmpty = false := by simpa using hn1
  clear hne
  have cP := impl_ParseUint (s := t) (by omega) hT2 hV2
  clear hb1 hb2 hT1 hT2 hV1 hV2
  by_cases hin : 0 ≤ x ∧ x ≤ 1000000000
  · obtain ⟨h0, h1⟩ := hin
    have hp := puS_itoa_in h0 h1
    rw [← ht] at hp
    rw [hp] at cP
    clear hp ht
    go_wp2_with fail
    refine cP.mono ?_
    rintro e w3 ⟨rfl, hb3⟩
    clear cP
    go_wp2
    go_ret
    exact ⟨rfl, hB2.trans (hb3.mono hB2.size)⟩
  · have hp := puS_itoa_out (n := x) (by omega)
    rw [← ht] at hp
    rw [hp] at cP
    clear hp ht
    by_cases h0 : 0 ≤ x
    · have h1 : 1000000000 < x := by omega
      clear hin
      go_wp2_with fail
      refine cP.mono ?_
      rintro e w3 ⟨rfl, hb3⟩
      clear cP
      go_wp2
      go_ret
      exact ⟨rfl, hB2.trans (hb3.mono hB2.size)⟩
    · clear hin
      go_wp2_with fail
      refine cP.mono ?_
      rintro e w3 ⟨rfl, hb3⟩
      clear cP
      go_wp2
      go_ret
      exact ⟨rfl, hB2.trans (hb3.mono hB2.size)⟩

/-- The door's own heap meets the condition: closed facts. -/
theorem door_met (os : Os) (args : Array Value) : laidMetH Tryd.prog Rows.fnNumbersRow.laid ((World.doorLaid Tryd.prog 62 os).forCall (fun _ _ => 0) ⟨#[], args, []⟩).memory :=
  laidMetH_of_parts3 (fuel := 8) (laidMet_of_run' 8 (by kernel_rfl) (by kernel_rfl)) (by kernel_rfl) (by kernel_rfl)

set_option maxRecDepth 100000 in
theorem lifted (os : Os) (started : os.Started) (H : Type) (enc : TypeId × Value → H) :
    ReturnsInHanded {} Tryd.checked os 7 .any (fun w args => (Rows.fnNumbersSpec.pre enc Tryd.prog Tryd.f7 [] false w args ∧ laidMetH Tryd.prog Rows.fnNumbersRow.laid w) ∧ sizedMet enc Tryd.prog Tryd.f7 (OpenSpec.ofChange Rows.fnNumbersSpec) false w args)
      (Rows.fnNumbersSpec.post enc Tryd.prog Tryd.f7 false true false false) := by
  refine returnsInHanded_of_change_and (C := Tryd.checked) (X := fun w _ => laidMetH Tryd.prog Rows.fnNumbersRow.laid w) (fun _ _ _ hh h => h.of_heap hh) own started (by kernel_rfl) Tryd.func7
    (ChangeSpec.witness_shaped (enc := enc) (C := Tryd.checked) (os := os) (X := fun w _ => laidMetH Tryd.prog Rows.fnNumbersRow.laid w) false (World.doorLaid Tryd.prog 62 os) #[.slice none 0 0] 8 rfl (World.shaped_of_RefB (by kernel_rfl) (by kernel_rfl)) (by kernel_rfl) (by kernel_rfl) (by kernel_rfl) (door_met os _)) ?_
  intro W base args ds gs before hval0 hW _ _ hL _
  rw [MakeChecks.laidMetH_plain _ _ _ (by kernel_rfl)] at hL
  have hT : Tab W := laidTab hL
  have hVR : Vars W := laidVars hL
  have hval : ∀ (j : Nat) t v, Tryd.f7.params[j]? = some t → args[j]? = some v → Value.okWide Tryd.prog W .any base t v := hval0
  have hW' := hW
  obtain ⟨p, q, hA0, hV, rfl, hfz, hnd⟩ := hW
  have hA : DataW.TrodAll enc Tryd.prog W 0 (fun _ => true) true Tryd.f7.params.toList args.toList ds p := hA0
  rw [Tryd.params7] at hA hval
  obtain ⟨v0, vs0, d0, ds0, p0, q0, hargs, rfl, rfl, h0, r0⟩ := trodAll_cons hA
  obtain ⟨rfl, rfl, rfl⟩ := trodAll_nil r0
  obtain rfl : args = #[v0] := by cases args; simp_all
  obtain ⟨rfl, rfl⟩ := trodVars_none hV
  obtain ⟨A0, n0, c0, xs0, rfl, g0, m0, u0⟩ := open_byteA (hval 0 24 v0 rfl rfl) h0
  refine (walk A0 n0 c0 xs0 W g0 m0 u0 hT hVR).mono fun e W' ⟨he, hb⟩ => ?_
  subst he
  exact ⟨_, rfl, post_true laidOut rfl hW' rfl (by rw [Tryd.params7]; intro t ht; simp only [List.mem_cons, List.not_mem_nil, or_false] at ht; rcases ht with rfl <;> exact ⟨by kernel_rfl, of_decide_eq_true (by kernel_rfl)⟩) Tryd.underlying4 (by kernel_rfl) hb⟩

theorem over : Rows.fnNumbersRow.holds Tryd.pinned (OpenSpec.ofChange Rows.fnNumbersSpec) :=
  OpenClaim.holds_of_wide 7 Tryd.f7 rfl rfl rfl rfl rfl rfl rfl ⟨rfl, rfl, rfl, rfl, rfl⟩ rfl rfl rfl rfl rfl (by kernel_rfl) Tryd.func7 (by kernel_rfl)
    (of_decide_eq_true (by kernel_rfl)) (by unfold Func.isWrapper; first | (rw [if_pos (by decide +kernel)]; kernel_rfl) | (rw [if_neg (by decide +kernel)]; exact ⟨rfl, rfl⟩))
    (fun os started H enc _ => lifted os started H enc)

theorem proved : Rows.FnNumbersCardSaid :=
  Claim7.holds_tied_plain_at .later [] [.data, .data, .data, .sentinel, .sentinel] true (true, "289061a15bec10fdd3956beea464cb328916292cbc4dc2a369a9eedff76630bc") true
    over (fun _ h => by cases h) (by kernel_rfl) (fun _ h => by cases h) fnNumbers_row_tie rfl ⟨rfl, rfl⟩ (by kernel_rfl) rfl
    (fun f fn hf hfn => by
      obtain rfl : f = 7 := Option.some.inj ((show Tryd.prog.funcNamed Rows.fnNumbersRow.func = some 7 by kernel_rfl).symm.trans hf) |>.symm
      obtain rfl : fn = Tryd.f7 := (Option.some.inj (Tryd.func7.symm.trans hfn)).symm
      exact ⟨by kernel_rfl, fun j t ht => by
        rw [Tryd.params7] at ht
        have hm : t ∈ [24] := by simpa using Array.mem_of_getElem? ht
        have hall : ([24].all fun u => !Tryd.prog.wantsStandIn u) = true := by kernel_rfl
        exact (show Tryd.prog.wantsStandIn t = false by simpa using List.all_eq_true.1 hall t hm)⟩)
    (by kernel_rfl)
end Go.Proofs.YtjcfdkmlkhgfiaaDoor.FnNumbers
