/- The given law FnFieldsAgain: the program and the reference agree for all arguments and share no memory, so the law returns true; no condition. -/
import Derived.Test.YtjcfdkmlkhgfiaaDoorFieldLaw
import Derived.Test.YtjcfdkmlkhgfiaaDoorDrawSplit
namespace Go.Proofs.YtjcfdkmlkhgfiaaDoor.FnFieldsAgain
open Go.ChangeShapes Go.WideShapes Go.ChangeAt Go.RowKit Go.Deep Go.Joins
set_option maxRecDepth 100000

set_option maxHeartbeats 8000000 in
theorem walk (A_code : Option Addr) (n_code c_code : Nat) (xs_code : List Int) (w : World) (hr_code : Reads w 1 A_code n_code (u8s xs_code)) (hm_code : n_code ≤ 9223372036854775807) (hb_code : ∀ x ∈ xs_code, 0 ≤ x ∧ x ≤ 255) (htab : Tab w) :
    Calls Tryd.prog 5 #[.slice A_code n_code c_code] w fun e w' => e = .returned (.bool true) ∧ Below w.heap.size w w' := by
  by_cases hbig : 1048576 < n_code
  · have D : Hid (decide (1048576 < n_code) = true) := Lib.hid (decide_eq_true hbig)
    clear hbig
    go_enter Tryd.func5, Tryd.ntmps5
    go_wp2_with fail
    refine (laws_big hm_code).mono ?_
    rintro e w1 ⟨rfl, rfl⟩
    rw [D.out]
    go_wp2
    go_ret
    exact ⟨rfl, Below.refl _ _⟩
  have D : Hid (decide (1048576 < n_code) = false) := Lib.hid (decide_eq_false hbig)
  have hn : n_code ≤ 1048576 := by omega
  clear hbig
  go_enter Tryd.func5, Tryd.ntmps5
  go_wp2_with fail
  refine (laws_big hm_code).mono ?_
  rintro e w1 ⟨rfl, rfl⟩
  rw [D.out]
  clear D
  go_wp2_with fail
  refine (spec_DrawSplitFields hr_code hb_code hn).mono ?_
  rintro e w1 ⟨s, hs, rfl, hb⟩
  have hB := hb
  have hT := htab.below hb
  clear hb
  go_wp2_with fail
  refine (impl_SplitFields (by omega)).mono ?_
  rintro e w2 ⟨A2, n2, c2, rfl, ho2, hn2, hb⟩
  have rp := Reads.of_own ho2
  have hl2 := rp.strlen
  replace hT := hT.below hb
  replace hB := hB.trans (hb.mono hB.size)
  clear hb ho2
  go_wp2_with fail
  refine (spec_SplitFields (by omega)).mono ?_
  rintro e w3 ⟨A3, n3, c3, rfl, ho3, hn3, hb⟩
  replace rp := rp.below hb
  replace hT := hT.below hb
  replace hB := hB.trans (hb.mono hB.size)
  clear hb ho3
  cases hok : fieldsOk s with
  | false =>
    have e2 : n2 = 0 := by rw [fields_no hok] at hl2; simp at hl2; omega
    subst e2
    clear hok hl2 rp
    go_wp2_with fail
    refine (impl_FormatInt (by omega) (by omega) hT).mono ?_
    rintro e w4 ⟨rfl, hb⟩
    rw [itoa_m3]
    replace hB := hB.trans (hb.mono hB.size)
    clear hb
    go_wp2
    go_ret
    exact ⟨rfl, hB⟩
  | true =>
    have HOK := Lib.hid hok
    have HL2 := Lib.hid hl2
    have hn24 : n2 ≤ 24 := by have := fields_len hok; omega
    clear hok hl2 hT
    go_wp2
    go_loop [8, 9] (fun sv iv => ∃ k : Nat, k ≤ n2 ∧ iv = .int .i64 k ∧ sv = .string ⟨(J ((fieldsOf s).take k)).toArray⟩) (fun _ iv => n2 - (intOf iv).toNat)
    case atStart => exact ⟨0, by omega, rfl, rfl⟩
    case round =>
      obtain ⟨k, hk, rfl, rfl⟩ := hrel
      by_cases hlt : k < n2
      · obtain ⟨b, o, x, rfl, hbB, hx, c0⟩ := rp.str hlt
        have HJ := Lib.hid (J_step hx)
        have hxz : x.size ≤ 600 := (fields_word HOK.out (List.mem_of_getElem? hx)).2
        have hjz : (J ((fieldsOf s).take k)).length ≤ 601 * k := by
          have h1 := J_len ((fieldsOf s).take k) fun w hw => (fields_word HOK.out (List.mem_of_mem_take hw)).2
          rw [List.length_take] at h1
          have := HL2.out
          omega
        have hjz2 : (J ((fieldsOf s).take k)).length ≤ 14424 := by omega
        have lk : (k : Int) < (n2 : Int) := by omega
        clear hx
        go_wp2
        go_round
        case rel => exact ⟨k + 1, by omega, by go_num, by rw [← HJ.out]⟩
        case measure => simp [intOf]; omega
      · obtain rfl : k = n2 := by omega
        have HTK : Hid ((fieldsOf s).take k = fieldsOf s) := Lib.hid (List.take_of_length_le (by have := HL2.out; omega))
        rw [HTK.out]
        have hjl : (J (fieldsOf s)).length ≤ 601 * k := by rw [← HL2.out]; exact J_len _ fun w hw => (fields_word HOK.out hw).2
        obtain ⟨T, hT⟩ : ∃ T : ByteArray, T = ⟨(J (fieldsOf s)).toArray⟩ := ⟨_, rfl⟩
        have hts : T.size = (J (fieldsOf s)).length := by rw [hT]; show (J (fieldsOf s)).toArray.size = _; simp
        rw [← hT]
        have hT6 : T.size ≤ 1048576 := by omega
        have HTS := Lib.hid hts
        have HT := Lib.hid hT
        have HJL := Lib.hid hjl
        clear hts hT hjl
        go_wp2_with fail
        refine (impl_SplitFields (s := T) hT6).mono ?_
        rintro e w5 ⟨A5, n5, c5, rfl, ho5, hn5, hb⟩
        have rq := Reads.of_own ho5
        replace rp := rp.below hb
        replace hB := hB.trans (hb.mono hB.size)
        clear hb ho5
        by_cases hbig : 600 < T.size
        · have g1 : decide ((600 : Int) < (T.size : Int)) = true := decide_eq_true (by omega)
          clear hT6 hbig rp rq
          go_wp2
          go_ret
          exact ⟨rfl, hB⟩
        · obtain ⟨f1, f2⟩ := fields_again HOK.out (by have := HTS.out; omega)
          rw [← HT.out] at f1 f2
          rw [f1]
          rw [f2] at rq
          have g1 : decide ((600 : Int) < (T.size : Int)) = false := decide_eq_false (by omega)
          have cT := laws_sameTexts_t (c := c2) (d := c5) rp rq hn2
          clear f1 f2 hT6 hbig rp rq
          go_wp2_with (go_at_call 17; refine cT.mono ?_; rintro e w6 ⟨rfl, hb⟩)
          go_ret
          exact ⟨rfl, hB.trans (hb.mono hB.size)⟩

/-- The door's own heap meets the condition: closed facts. -/
theorem door_met (os : Os) (args : Array Value) : laidMetH Tryd.prog Rows.fnFieldsAgainRow.laid ((World.doorLaid Tryd.prog 62 os).forCall (fun _ _ => 0) ⟨#[], args, []⟩).memory :=
  laidMetH_of_parts3 (fuel := 8) (laidMet_of_run' 8 (by kernel_rfl) (by kernel_rfl)) (by kernel_rfl) (by kernel_rfl)

set_option maxRecDepth 100000 in
theorem lifted (os : Os) (started : os.Started) (H : Type) (enc : TypeId × Value → H) :
    ReturnsInHanded {} Tryd.checked os 5 .any (fun w args => (Rows.fnFieldsAgainSpec.pre enc Tryd.prog Tryd.f5 [] false w args ∧ laidMetH Tryd.prog Rows.fnFieldsAgainRow.laid w) ∧ sizedMet enc Tryd.prog Tryd.f5 (OpenSpec.ofChange Rows.fnFieldsAgainSpec) false w args)
      (Rows.fnFieldsAgainSpec.post enc Tryd.prog Tryd.f5 false true false false) := by
  refine returnsInHanded_of_change_and (C := Tryd.checked) (X := fun w _ => laidMetH Tryd.prog Rows.fnFieldsAgainRow.laid w) (fun _ _ _ hh h => h.of_heap hh) own started (by kernel_rfl) Tryd.func5
    (ChangeSpec.witness_shaped (enc := enc) (C := Tryd.checked) (os := os) (X := fun w _ => laidMetH Tryd.prog Rows.fnFieldsAgainRow.laid w) false (World.doorLaid Tryd.prog 62 os) #[.slice none 0 0] 8 rfl (World.shaped_of_RefB (by kernel_rfl) (by kernel_rfl)) (by kernel_rfl) (by kernel_rfl) (by kernel_rfl) (door_met os _)) ?_
  intro W base args ds gs before hval0 hW _ _ hL _
  rw [MakeChecks.laidMetH_plain _ _ _ (by kernel_rfl)] at hL
  have hT : Tab W := laidTab hL
  have hval : ∀ (j : Nat) t v, Tryd.f5.params[j]? = some t → args[j]? = some v → Value.okWide Tryd.prog W .any base t v := hval0
  have hW' := hW
  obtain ⟨p, q, hA0, hV, rfl, hfz, hnd⟩ := hW
  have hA : DataW.TrodAll enc Tryd.prog W 0 (fun _ => true) true Tryd.f5.params.toList args.toList ds p := hA0
  rw [Tryd.params5] at hA hval
  obtain ⟨v0, vs0, d0, ds0, p0, q0, hargs, rfl, rfl, h0, r0⟩ := trodAll_cons hA
  obtain ⟨rfl, rfl, rfl⟩ := trodAll_nil r0
  obtain rfl : args = #[v0] := by cases args; simp_all
  obtain ⟨rfl, rfl⟩ := trodVars_none hV
  obtain ⟨A0, n0, c0, xs0, rfl, g0, m0, u0⟩ := open_byteA (hval 0 24 v0 rfl rfl) h0
  refine (walk A0 n0 c0 xs0 W g0 m0 u0 hT).mono fun e W' ⟨he, hb⟩ => ?_
  subst he
  exact ⟨_, rfl, post_true laidOut rfl hW' rfl (by rw [Tryd.params5]; intro t ht; simp only [List.mem_cons, List.not_mem_nil, or_false] at ht; rcases ht with rfl <;> exact ⟨by kernel_rfl, of_decide_eq_true (by kernel_rfl)⟩) Tryd.underlying4 (by kernel_rfl) hb⟩

theorem over : Rows.fnFieldsAgainRow.holds Tryd.pinned (OpenSpec.ofChange Rows.fnFieldsAgainSpec) :=
  OpenClaim.holds_of_wide 5 Tryd.f5 rfl rfl rfl rfl rfl rfl rfl ⟨rfl, rfl, rfl, rfl, rfl⟩ rfl rfl rfl rfl rfl (by kernel_rfl) Tryd.func5 (by kernel_rfl)
    (of_decide_eq_true (by kernel_rfl)) (by unfold Func.isWrapper; first | (rw [if_pos (by decide +kernel)]; kernel_rfl) | (rw [if_neg (by decide +kernel)]; exact ⟨rfl, rfl⟩))
    (fun os started H enc _ => lifted os started H enc)

theorem proved : Rows.FnFieldsAgainCardSaid :=
  Claim7.holds_tied_plain_at .later [] [.data, .data, .data] true (true, "289061a15bec10fdd3956beea464cb328916292cbc4dc2a369a9eedff76630bc") true
    over (fun _ h => by cases h) (by kernel_rfl) (fun _ h => by cases h) fnFieldsAgain_row_tie rfl ⟨rfl, rfl⟩ (by kernel_rfl) rfl
    (fun f fn hf hfn => by
      obtain rfl : f = 5 := Option.some.inj ((show Tryd.prog.funcNamed Rows.fnFieldsAgainRow.func = some 5 by kernel_rfl).symm.trans hf) |>.symm
      obtain rfl : fn = Tryd.f5 := (Option.some.inj (Tryd.func5.symm.trans hfn)).symm
      exact ⟨by kernel_rfl, fun j t ht => by
        rw [Tryd.params5] at ht
        have hm : t ∈ [24] := by simpa using Array.mem_of_getElem? ht
        have hall : ([24].all fun u => !Tryd.prog.wantsStandIn u) = true := by kernel_rfl
        exact (show Tryd.prog.wantsStandIn t = false by simpa using List.all_eq_true.1 hall t hm)⟩)
    (by kernel_rfl)
end Go.Proofs.YtjcfdkmlkhgfiaaDoor.FnFieldsAgain
