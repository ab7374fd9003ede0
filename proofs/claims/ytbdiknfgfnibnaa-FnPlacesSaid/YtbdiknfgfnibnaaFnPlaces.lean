/- The given law FnPlaces: the program and the reference agree for all arguments and share no memory, so the law returns true; no condition. -/
import Derived.Test.YtbdiknfgfnibnaaPlacesLaw
import Derived.Test.YtbdiknfgfnibnaaSorting
import Derived.Test.YtbdiknfgfnibnaaSame
import Derived.Test.YtbdiknfgfnibnaaDrawOrder
namespace Go.Proofs.Ytbdiknfgfnibnaa.FnPlaces
open Go.ChangeShapes Go.WideShapes Go.ChangeAt Go.RowKit Go.Deep Go.Joins
open Go.Sort
set_option maxRecDepth 100000

set_option maxHeartbeats 1000000 in
theorem walk (A_code : Option Addr) (n_code c_code : Nat) (xs_code : List Int) (w : World) (hr_code : Reads w 1 A_code n_code (u8s xs_code)) (hm_code : n_code ≤ 9223372036854775807) (hb_code : ∀ x ∈ xs_code, 0 ≤ x ∧ x ≤ 255) :
    Calls Try.prog 9 #[.slice A_code n_code c_code] w fun e w' => e = .returned (.bool true) ∧ Below w.heap.size w w' := by
  by_cases hbig : 1048576 < n_code
  · have D : Hid (decide (1048576 < n_code) = true) := Lib.hid (decide_eq_true hbig)
    clear hbig
    go_enter Try.func9, Try.ntmps9
    go_wp2_with fail
    refine (laws_big hm_code).mono ?_
    rintro e w1 ⟨rfl, rfl⟩
    rw [D.out]
    go_wp2
    go_ret
    exact ⟨rfl, Below.refl _ _⟩
  have D : Hid (decide (1048576 < n_code) = false) := Lib.hid (decide_eq_false hbig)
  have hn : n_code ≤ 1048576 := by omega
  clear hbig
  go_enter Try.func9, Try.ntmps9
  go_wp2_with fail
  refine (laws_big hm_code).mono ?_
  rintro e w1 ⟨rfl, rfl⟩
  rw [D.out]
  clear D
  go_wp2_with fail
  refine (spec_DrawOrder hr_code hb_code hn).mono ?_
  rintro e w1 ⟨B, m, d, xs, rfl, ho, h7, hok, hb⟩
  obtain ⟨hs1, now, hs2, hs3, hs4, hs5⟩ := sort_all hok
  have hnn := invL_nonneg xs
  have hsh := inv_42 hok
  obtain ⟨K, hK⟩ : ∃ K : Nat, K = (invL xs).toNat := ⟨_, rfl⟩
  rw [← hK] at hs1 hsh
  have HC : Hid (countInv xs = (K : Int)) := Lib.hid (by rw [countInv_inv hok]; omega)
  have hlen := own_len ho
  have hpl := hs5.length_eq
  have hpos := (orderOk_short hok).1
  have HOK := Lib.hid hok
  have HA : Hid (afterOk xs (sortingSwaps xs) = true) := Lib.hid (afterOk_yes hok (by omega) hs2)
  have HAL : Hid (afterL xs (sortingSwaps xs) = now) := Lib.hid (afterL_yes HA.out hs2)
  have HN0 : Hid (countInv now = 0) := Lib.hid (by rw [countInv_inv hs3]; exact hs4)
  have HNW := Lib.hid hs3
  have HNI := Lib.hid hs4
  have HSL := Lib.hid hs1
  have HPL := Lib.hid hpl
  have HLN := Lib.hid hlen
  have hm0 : 0 < m := by omega
  have r0 := Reads.of_own ho
  clear ho hok hs1 hs2 hs3 hs4 hs5 hK hnn hpl hlen hpos
  have hB := hb
  clear hb
  go_wp2_with fail
  refine (impl_CountInversions r0 (by omega)).mono ?_
  rintro e w2 ⟨rfl, hb⟩
  rw [HC.out]
  replace r0 := r0.below hb
  replace hB := hB.trans (hb.mono hB.size)
  clear hb
  go_wp2_with fail
  refine (impl_SortingSwaps r0 (by omega)).mono ?_
  rintro e w3 ⟨A5, n5, c5, rfl, ho5, hn5, hb⟩
  have h5 := own_len ho5
  have hn5K : n5 = K := by rw [h5, HSL.out]
  subst hn5K
  clear h5
  replace r0 := r0.below hb
  replace hB := hB.trans (hb.mono hB.size)
  have r5 := Reads.of_own ho5
  clear hb ho5
  go_wp2_with fail
  refine (impl_AfterSwaps r0 (by omega) r5 hn5).mono ?_
  rintro e w4 ⟨A6, n6, c6, rfl, ho6, hn6, hb⟩
  rw [HA.out]
  rw [HAL.out] at ho6
  have h6 := own_len ho6
  have hn6m : n6 = m := by rw [h6, HPL.out, ← HLN.out]
  subst hn6m
  clear h6
  replace r0 := r0.below hb
  replace hB := hB.trans (hb.mono hB.size)
  have r6 := Reads.of_own ho6
  clear hb ho6 r5
  go_wp2_with fail
  refine (impl_CountInversions r6 (by omega)).mono ?_
  rintro e w5 ⟨rfl, hb⟩
  rw [HN0.out]
  replace r0 := r0.below hb
  replace r6 := r6.below hb
  replace hB := hB.trans (hb.mono hB.size)
  clear hb
  go_wp2
  go_loopw [8] (fun kv wr => ∃ k : Nat, k ≤ n6 ∧ kv = .int .i64 k ∧ Below w5.heap.size w5 wr) (fun kv _ => n6 - (intOf kv).toNat)
  case atStart => exact ⟨0, by omega, rfl, Below.refl _ _⟩
  case round =>
    obtain ⟨k, hk, rfl, hbel⟩ := hrel
    by_cases hlt : k < n6
    · have q0 := r0.below hbel
      have q6 := r6.below hbel
      obtain ⟨i, hi, hxi, hpi⟩ := place_at HOK.out (k := k) (by have := HLN.out; omega)
      have HP : Hid (placeOf xs (k : Int) = (i : Int)) := Lib.hid hpi
      have HP6 : Hid (placeOf now (k : Int) = (k : Int)) := Lib.hid (place_id HNW.out HNI.out (by have := HLN.out; have := HPL.out; omega))
      have HXI := Lib.hid hxi
      have him : i < n6 := by have := HLN.out; omega
      clear hi hxi hpi
      go_wp2_with fail
      refine (impl_PlaceOf q0 (by omega)).mono ?_
      rintro e w6 ⟨rfl, hb⟩
      rw [HP.out]
      replace q0 := q0.below hb
      replace q6 := q6.below hb
      replace hbel := hbel.trans (hb.mono hbel.size)
      clear hb
      obtain ⟨b, o, x, rfl, hbB, hx, c0⟩ := q0.int him
      have ex : x = (k : Int) := by have := HXI.out; rw [hx] at this; exact Option.some.inj this
      subst ex
      have l1 : (i : Int) < (n6 : Int) := by omega
      clear hx
      go_wp2_with fail
      refine (impl_PlaceOf q6 (by omega)).mono ?_
      rintro e w7 ⟨rfl, hb⟩
      rw [HP6.out]
      replace hbel := hbel.trans (hb.mono hbel.size)
      clear hb c0
      go_wp2
      go_roundw
      case rel => exact ⟨k + 1, by omega, by go_num, hbel⟩
      case measure => simp [intOf]; omega
    · obtain rfl : k = n6 := by omega
      have q0 := r0.below hbel
      have hB1 := hB.trans (hbel.mono hB.size)
      clear r0 r6 hB hbel
      go_wp2
      go_loopw [10] (fun kv w2' => ∃ j : Nat, j + 1 ≤ k ∧ kv = .int .i64 j ∧ Below wr.heap.size wr w2') (fun kv _ => k - (intOf kv).toNat)
      case atStart => exact ⟨0, by omega, rfl, Below.refl _ _⟩
      case round =>
        obtain ⟨j, hj, rfl, hbel⟩ := hrel
        have p0 := q0.below hbel
        by_cases hlt : j + 1 < k
        · obtain ⟨b, o, a, rfl, hbB, hxa, ca⟩ := p0.int (k := j) (by omega)
          obtain ⟨b', o', z, e', hbB', hxz, cz⟩ := p0.int (k := j + 1) hlt
          injection e' with e'
          injection e' with e1 e2 _
          subst e1 e2
          have XA := Lib.hid hxa
          have XB := Lib.hid hxz
          have hso : swapOk xs (j : Int) = true := swapOk_yes HOK.out (by omega) (by have := HLN.out; omega)
          have hsa : swapAt xs (j : Int) = swapN xs j := by rw [swapAt_yes hso, Int.toNat_natCast]
          have hsb := swap_back hxa hxz
          have hoy := orderOk_swapN HOK.out j
          have hso2 : swapOk (swapN xs j) (j : Int) = true := swapOk_yes hoy (by omega) (by have := HLN.out; rw [swapN_len]; omega)
          have hsa2 : swapAt (swapN xs j) (j : Int) = xs := by rw [swapAt_yes hso2, Int.toNat_natCast]; exact hsb.2.2
          have SO := Lib.hid hso
          have SA := Lib.hid hsa
          have SO2 := Lib.hid hso2
          have SA2 := Lib.hid hsa2
          clear hxa hxz hso hsa hsb hoy hso2 hsa2
          go_wp2_with fail
          refine (impl_SwapAt p0 (by omega)).mono ?_
          rintro e w7 ⟨A11, n11, c11, rfl, ho11, hn11, hb⟩
          rw [SO.out]
          rw [SA.out] at ho11
          have r11 := Reads.of_own ho11
          replace p0 := p0.below hb
          replace hbel := hbel.trans (hb.mono hbel.size)
          replace ca := keep_cell hb ca
          replace cz := keep_cell hb cz
          clear hb ho11
          go_wp2_with fail
          refine (impl_SwapAt r11 hn11).mono ?_
          rintro e w8 ⟨A13, n13, c13, rfl, ho13, hn13, hb⟩
          rw [SO2.out]
          rw [SA2.out] at ho13
          have r13 := Reads.of_own ho13
          replace p0 := p0.below hb
          replace r11 := r11.below hb
          replace hbel := hbel.trans (hb.mono hbel.size)
          replace ca := keep_cell hb ca
          replace cz := keep_cell hb cz
          clear hb ho13
          have cS : ∀ dd os, Calls Try.prog 28 #[.slice A13 n13 c13, .slice (some ⟨b, o, none⟩) k d] (grow (redrawn w8 dd) os) fun e w' => e = .returned (.bool true) ∧ ∃ p : Regrown, w' = grow (redrawn w8 p.d) p.os :=
            fun dd os => Calls.regrown_of (laws_sameInts_t (r13.below (below_regrown w8 dd os)) (p0.below (below_regrown w8 dd os)) hn13)
          have ca' := cell_regrown ca
          have cz' := cell_regrown cz
          have j0 : (0 : Int) ≤ (j : Int) + 1 := by omega
          have j1 : IntKind.i64.wrap ((j : Int) + 1) = (j : Int) + 1 := IntWalk.i64_in _ (by omega)
          have j2 : ((j : Int) + 1).toNat = j + 1 := by omega
          have j3 : (j : Int) < (k : Int) := by omega
          have j4 : (j : Int) + 1 < (k : Int) := by omega
          clear ca cz
          by_cases hba : z < a
          · skip
            have HD : Hid (countInv (swapN xs j) = (n5 : Int) - 1) := Lib.hid (by have := swap_count HOK.out XA.out XB.out; rw [HC.out] at this; rw [if_pos hba] at this; omega)
            have hdec : decide (z < a) = true := decide_eq_true hba
            have cQ : ∀ dd os, Calls Try.prog 17 #[.slice A11 n11 c11] (grow (redrawn w8 dd) os) fun e w' => e = .returned (.int .i64 ((n5 : Int) - 1)) ∧ ∃ p : Regrown, w' = grow (redrawn w8 p.d) p.os :=
              fun dd os => by rw [← HD.out]; exact Calls.regrown_of (impl_CountInversions (r11.below (below_regrown w8 dd os)) hn11)
            have cT : ∀ dd os, Calls Try.prog 29 #[.bool true] (grow (redrawn w8 dd) os) fun e w' => e = .returned (.int .i64 1) ∧ ∃ p : Regrown, w' = grow (redrawn w8 p.d) p.os :=
              fun dd os => Calls.regrown_of laws_btoi_t
            have i1 : IntKind.i64.wrap ((n5 : Int) - 1 - (n5 : Int)) = -1 := by rw [IntWalk.i64_in _ (by omega)]; omega
            clear hba
            go_wp2
            refine wp_region_quiet_below (by kernel_rfl) (by kernel_rfl) ?_
            repeat (go_big_quiet_step ((first | (go_at_call 28; exact cS _ _) | (go_at_call 17; exact cQ _ _) | (go_at_call 29; exact cT _ _))))
            refine wpQuiet_nil ?_
            intro _ hw'
            obtain ⟨⟨dq, osq⟩, hw''⟩ := hw'
            subst hw''
            go_wp2
            go_roundw
            case rel => exact ⟨j + 1, by omega, by go_num, hbel.trans ((below_regrown w8 dq osq).mono hbel.size)⟩
            case measure => simp [intOf]; omega
          · skip
            have HD : Hid (countInv (swapN xs j) = (n5 : Int) + 1) := Lib.hid (by have := swap_count HOK.out XA.out XB.out; rw [HC.out] at this; rw [if_neg hba] at this; omega)
            have hdec : decide (z < a) = false := decide_eq_false hba
            have cQ : ∀ dd os, Calls Try.prog 17 #[.slice A11 n11 c11] (grow (redrawn w8 dd) os) fun e w' => e = .returned (.int .i64 ((n5 : Int) + 1)) ∧ ∃ p : Regrown, w' = grow (redrawn w8 p.d) p.os :=
              fun dd os => by rw [← HD.out]; exact Calls.regrown_of (impl_CountInversions (r11.below (below_regrown w8 dd os)) hn11)
            have cT : ∀ dd os, Calls Try.prog 29 #[.bool false] (grow (redrawn w8 dd) os) fun e w' => e = .returned (.int .i64 0) ∧ ∃ p : Regrown, w' = grow (redrawn w8 p.d) p.os :=
              fun dd os => Calls.regrown_of laws_btoi_f
            have i1 : IntKind.i64.wrap ((n5 : Int) + 1 - (n5 : Int)) = 1 := by rw [IntWalk.i64_in _ (by omega)]; omega
            clear hba
            go_wp2
            refine wp_region_quiet_below (by kernel_rfl) (by kernel_rfl) ?_
            repeat (go_big_quiet_step ((first | (go_at_call 28; exact cS _ _) | (go_at_call 17; exact cQ _ _) | (go_at_call 29; exact cT _ _))))
            refine wpQuiet_nil ?_
            intro _ hw'
            obtain ⟨⟨dq, osq⟩, hw''⟩ := hw'
            subst hw''
            go_wp2
            go_roundw
            case rel => exact ⟨j + 1, by omega, by go_num, hbel.trans ((below_regrown w8 dq osq).mono hbel.size)⟩
            case measure => simp [intOf]; omega
        · have hno : swapOk xs ((k : Int) - 1) = false := swapOk_out (by have := HLN.out; omega)
          have SO := Lib.hid hno
          clear hno
          go_wp2_with fail
          refine (impl_SwapAt p0 (by omega)).mono ?_
          rintro e w7 ⟨A11, n11, c11, rfl, ho11, hn11, hb⟩
          rw [SO.out]
          replace p0 := p0.below hb
          replace hbel := hbel.trans (hb.mono hbel.size)
          clear hb ho11
          go_wp2_with fail
          refine (impl_OrderOk p0 (by omega)).mono ?_
          rintro e w8 ⟨rfl, hb⟩
          rw [HOK.out]
          replace hbel := hbel.trans (hb.mono hbel.size)
          clear hb
          go_wp2
          go_ret
          exact ⟨rfl, hB1.trans (hbel.mono hB1.size)⟩

set_option maxRecDepth 100000 in
theorem lifted (os : Os) (started : os.Started) (H : Type) (enc : TypeId × Value → H) :
    ReturnsInHanded {} Try.checked os 9 .any (Rows.fnPlacesSpec.pre6 enc Try.prog Try.f9 Rows.fnPlacesRow.domain false) (Rows.fnPlacesSpec.post enc Try.prog Try.f9 false true false false) := by
  refine returnsInHanded_of_change (C := Try.checked) own started (by kernel_rfl) Try.func9
    (ChangeSpec.witness6 (enc := enc) (C := Try.checked) false ⟨#[], #[.slice none 0 0], []⟩ 8 (by kernel_rfl) (by kernel_rfl) (by kernel_rfl) (by kernel_rfl)) ?_
  intro W base args ds gs before hval0 hW hcnd _
  have hval : ∀ (j : Nat) t v, Try.f9.params[j]? = some t → args[j]? = some v → Value.okWide Try.prog W .any base t v := hval0
  have hW' := hW
  obtain ⟨p, q, hA0, hV, rfl, hfz, hnd⟩ := hW
  have hA : DataW.TrodAll enc Try.prog W 0 (fun _ => true) true Try.f9.params.toList args.toList ds p := hA0
  rw [Try.params9] at hA hval
  obtain ⟨v0, vs0, d0, ds0, p0, q0, hargs, rfl, rfl, h0, r0⟩ := trodAll_cons hA
  obtain ⟨rfl, rfl, rfl⟩ := trodAll_nil r0
  obtain rfl : args = #[v0] := by cases args; simp_all
  obtain ⟨rfl, rfl⟩ := trodVars_none hV
  obtain ⟨A0, n0, c0, xs0, rfl, g0, m0, u0⟩ := open_byteA (hval 0 32 v0 rfl rfl) h0
  refine (walk A0 n0 c0 xs0 W g0 m0 u0).mono fun e W' ⟨he, hb⟩ => ?_
  subst he
  exact ⟨_, rfl, post_true laidOut rfl hW' rfl (by rw [Try.params9]; intro t ht; simp only [List.mem_cons, List.not_mem_nil, or_false] at ht; rcases ht with rfl <;> exact ⟨by kernel_rfl, of_decide_eq_true (by kernel_rfl)⟩) Try.underlying4 (by kernel_rfl) hb⟩

theorem over : Rows.fnPlacesRow.holds Try.pinned (OpenSpec.ofChange Rows.fnPlacesSpec) :=
  OpenClaim.holds_of_wide 9 Try.f9 rfl rfl rfl rfl rfl rfl rfl ⟨rfl, rfl, rfl, rfl, rfl⟩ rfl rfl rfl rfl rfl (by kernel_rfl) Try.func9 (by kernel_rfl)
    (of_decide_eq_true (by kernel_rfl)) (by unfold Func.isWrapper; first | (rw [if_pos (by decide +kernel)]; kernel_rfl) | (rw [if_neg (by decide +kernel)]; exact ⟨rfl, rfl⟩))
    (fun os started H enc _ => lifted os started H enc)

theorem proved : Rows.FnPlacesSaid := over
end Go.Proofs.Ytbdiknfgfnibnaa.FnPlaces
