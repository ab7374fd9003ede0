/- The given law FnCrossings: the program and the reference agree for all arguments and share no memory, so the law returns true; no condition. -/
import Derived.Test.YtkpgfmkmbgapmaaCrossKit
namespace Go.Proofs.Ytkpgfmkmbgapmaa.FnCrossings
open Go.ChangeShapes Go.WideShapes Go.ChangeAt Go.RowKit Go.Deep Go.Joins
set_option maxRecDepth 100000

set_option maxHeartbeats 1000000 in
theorem walk (A_code : Option Addr) (n_code c_code : Nat) (xs_code : List Int) (w : World) (hr_code : Reads w 1 A_code n_code (u8s xs_code)) (hm_code : n_code ≤ 9223372036854775807) (hb_code : ∀ x ∈ xs_code, 0 ≤ x ∧ x ≤ 255) :
    Calls Try.prog 10 #[.slice A_code n_code c_code] w fun e w' => e = .returned (.bool true) ∧ Below w.heap.size w w' := by
  by_cases hbig : 1048576 < n_code
  · have D : Hid (decide (1048576 < n_code) = true) := Lib.hid (decide_eq_true hbig)
    clear hbig
    go_enter Try.func10, Try.ntmps10
    go_wp2_with fail
    refine (laws_big hm_code).mono ?_
    rintro e w1 ⟨rfl, rfl⟩
    rw [D.out]
    go_wp2
    go_ret
    exact ⟨rfl, Below.refl _ _⟩
  have D : Hid (decide (1048576 < n_code) = false) := Lib.hid (decide_eq_false hbig)
  have hn : n_code ≤ 1048576 := by omega
  clear hbig
  go_enter Try.func10, Try.ntmps10
  go_wp2_with fail
  refine (laws_big hm_code).mono ?_
  rintro e w1 ⟨rfl, rfl⟩
  rw [D.out]
  clear D
  go_wp2_with fail
  refine (spec_DrawCrosses hr_code hb_code hn).mono ?_
  rintro e w1 ⟨Ni, ls, B, m, d, rfl, hol, n2, n5, hl9, hok, hb⟩
  obtain ⟨N, rfl⟩ := Int.eq_ofNat_of_zero_le (show 0 ≤ Ni by omega)
  have hml : m = ls.length := by have := hol.1; rw [crs_length] at this; omega
  have hm9 : m ≤ 9 := by omega
  have hm : m ≤ 1048576 := by omega
  have hN : N ≤ 1048576 := by omega
  have OK := Lib.hid hok
  have HML := Lib.hid hml
  have rl := Reads.of_own hol
  have hB := hb
  have HOL := Lib.hid (ca_order_len OK.out)
  have HPL := Lib.hid (ca_pairs_len OK.out)
  have HRL := Lib.hid (ca_red_len OK.out)
  have HRO := Lib.hid (ca_red_order OK.out)
  have HRR := Lib.hid (ca_red_red OK.out)
  have HBO := Lib.hid (ca_both_order OK.out (by omega))
  have HBR := Lib.hid (ca_both_red OK.out (by omega))
  have HBL : Hid ((ls ++ undo ls).length = m + m) := Lib.hid (by rw [List.length_append, undo_length]; omega)
  have HNI := Lib.hid (ca_nil (N := N) (by omega) (by omega))
  have HPA : Hid (∀ k, k < m → ∃ a b : Int, (pairsOf (N : Int) ls)[k]? = some [a, b] ∧ a ≠ b ∧ 0 ≤ a ∧ a < N ∧ 0 ≤ b ∧ b < N) := Lib.hid fun k hk => pairs_at OK.out (by omega)
  have HFS := Lib.hid (front_sum OK.out)
  clear hol hb hok hml hl9
  go_wp2_with fail
  refine (impl_OrderAfter rl hm).mono ?_
  rintro e w2 ⟨A2, k2, c2, rfl, ho2, hk2, hb⟩
  have e2 : N = k2 := by have := own_len ho2; have := HOL.out; omega
  subst e2
  have ro := Reads.of_own ho2
  replace rl := rl.below hb
  replace hB := hB.trans (hb.mono hB.size)
  clear hb
  clear ho2
  go_wp2_with fail
  refine (impl_PairsOf rl hm).mono ?_
  rintro e w3 ⟨A3, k3, c3, rfl, ho3, hk3, hb⟩
  have rp := ho3.reads
  have e3 : m = k3 := by have := rp.len; have := HPL.out; have := HML.out; omega
  subst e3
  replace rl := rl.below hb
  replace ro := ro.below hb
  replace hB := hB.trans (hb.mono hB.size)
  clear hb
  clear ho3 hk3
  go_wp2_with fail
  refine (impl_UndoCrosses rl hm).mono ?_
  rintro e w4 ⟨A4, k4, c4, rfl, ho4, hk4, hb⟩
  have ru := Reads.of_own ho4
  have e4 : m = k4 := by have := ru.crlen; rw [undo_length] at this; have := HML.out; omega
  subst e4
  replace rl := rl.below hb
  replace ro := ro.below hb
  replace rp := rp.below hb
  replace hB := hB.trans (hb.mono hB.size)
  clear hb
  clear ho4
  go_wp2_with fail
  refine (impl_Reduced rl hm).mono ?_
  rintro e w5 ⟨A5, k5, c5, rfl, ho5, hk5, hb⟩
  have rr := Reads.of_own ho5
  obtain ⟨q5, hq5⟩ : ∃ q : Nat, m = k5 + 2 * q := by
    obtain ⟨q, hq⟩ := HRL.out
    have := rr.crlen
    have := HML.out
    exact ⟨q, by omega⟩
  have hkm : k5 ≤ m := by omega
  have t1 : ((m : Int) - (k5 : Int)).tmod 2 = 0 := by
    have e : (m : Int) - (k5 : Int) = 2 * (q5 : Int) := by omega
    rw [e, Int.mul_tmod_right]
  have t2 : ((m : Int) - (k5 : Int)) % 2 = 0 := by omega
  replace rl := rl.below hb
  replace ro := ro.below hb
  replace rp := rp.below hb
  replace ru := ru.below hb
  replace hB := hB.trans (hb.mono hB.size)
  clear hb
  clear ho5 hq5
  go_wp2_with fail
  refine (impl_OrderAfter rr hk5).mono ?_
  rintro e w6 ⟨A6, k6, c6, rfl, ho6, hk6, hb⟩
  rw [HRO.out] at ho6
  have e6 : N = k6 := by have := own_len ho6; have := HOL.out; omega
  subst e6
  have r6 := Reads.of_own ho6
  replace rl := rl.below hb
  replace ro := ro.below hb
  replace rp := rp.below hb
  replace ru := ru.below hb
  replace rr := rr.below hb
  replace hB := hB.trans (hb.mono hB.size)
  clear hb
  clear ho6
  go_wp2_with fail
  refine (laws_sameInts_t r6 ro hN).mono ?_
  rintro e w7 ⟨rfl, hb⟩
  replace rl := rl.below hb
  replace rp := rp.below hb
  replace ru := ru.below hb
  replace rr := rr.below hb
  replace hB := hB.trans (hb.mono hB.size)
  clear hb
  clear r6 ro
  obtain ⟨i0, hi, hz0, hz1, hz2⟩ := info_parts info_cross
  have hoE := own_empty w7 49 2
  go_wp2_with (at_builtin; refine wp_appn rfl _ _ 25 rfl w7.heap.size 49 i0 (.agg #[.int .i64 0, .bool false]) 2 16 Try.underlying25 hi hz0 hz1 hz2 rfl (by decide) rfl hoE rfl (rl.below (by go_grown)) (crs_one _) (by unfold maxLen; omega) (by omega) (by simp) ?_; intro A8 c8 w8 hown8 hg8; refine Hid.out ?_)
  rw [Nat.zero_add, List.nil_append] at hown8
  have hb8 : Below w7.heap.size w7 w8 := bel_apart (by go_grown) hg8 (own_blk hoE) (Nat.le_refl _)
  have bA8 := own_blk hown8
  have ru8 := ru.below hb8
  clear hoE hg8 t1 t2
  refine Lib.hid ?_
  go_wp2_with (at_builtin; refine wp_appn rfl _ _ 25 rfl w7.heap.size 49 i0 (.agg #[.int .i64 0, .bool false]) 2 16 Try.underlying25 hi hz0 hz1 hz2 rfl (by decide) rfl hown8 rfl ru8 (crs_one _) (by unfold maxLen; omega) (by omega) (by have := hb8.size; omega) ?_; intro A9 c9 w9 hown9 hg9; refine Hid.out ?_)
  rw [← crs_append] at hown9
  have hb := bel_apart hb8 hg9 bA8 (Nat.le_refl _)
  have r9 := Reads.of_own hown9
  replace rl := rl.below hb
  replace rp := rp.below hb
  replace rr := rr.below hb
  replace hB := hB.trans (hb.mono hB.size)
  clear hb
  clear hown8 hown9 hg9 hb8 bA8 ru ru8 i0 hi hz0 hz1 hz2
  refine Lib.hid ?_
  go_wp2_with fail
  refine (impl_OrderAfter r9 (by omega)).mono ?_
  rintro e w10 ⟨A10, k10, c10, rfl, ho10, hk10, hb⟩
  rw [HBO.out] at ho10
  have r10 := Reads.of_own ho10
  replace rl := rl.below hb
  replace rp := rp.below hb
  replace rr := rr.below hb
  replace r9 := r9.below hb
  replace hB := hB.trans (hb.mono hB.size)
  clear hb
  clear ho10
  go_wp2_with fail
  refine (spec_OrderAfter (ls := []) (m := 0) Reads.none_ (by omega)).mono ?_
  rintro e w11 ⟨A11, k11, c11, rfl, ho11, hk11, hb⟩
  rw [HNI.out] at ho11
  have r11 := Reads.of_own ho11
  replace rl := rl.below hb
  replace rp := rp.below hb
  replace rr := rr.below hb
  replace r9 := r9.below hb
  replace r10 := r10.below hb
  replace hB := hB.trans (hb.mono hB.size)
  clear hb
  clear ho11
  go_wp2_with fail
  refine (laws_sameInts_t r10 r11 hk10).mono ?_
  rintro e w12 ⟨rfl, hb⟩
  replace rl := rl.below hb
  replace rp := rp.below hb
  replace rr := rr.below hb
  replace r9 := r9.below hb
  replace hB := hB.trans (hb.mono hB.size)
  clear hb
  clear r10 r11
  go_wp2_with fail
  refine (impl_Reduced r9 (by omega)).mono ?_
  rintro e w13 ⟨A13, k13, c13, rfl, ho13, hk13, hb⟩
  rw [HBR.out] at ho13
  have e13 : k13 = 0 := by have := (Reads.of_own ho13).crlen; simp at this; omega
  subst e13
  replace rl := rl.below hb
  replace rp := rp.below hb
  replace rr := rr.below hb
  replace hB := hB.trans (hb.mono hB.size)
  clear hb
  clear ho13 r9
  obtain ⟨f, hf⟩ : ∃ f : Nat → Nat, f = fun k : Nat => cntTo (k : Int) (pairsOf (N : Int) ls) (pairsOf (N : Int) ls).length := ⟨_, rfl⟩
  have HF : Hid (∀ k : Nat, k < N → frontOf (N : Int) ls (k : Int) = (f k : Int)) := Lib.hid fun k hk => by rw [hf]; exact frontOf_in OK.out (by omega) (by omega)
  have HF9 : Hid (∀ k, f k ≤ 9) := Lib.hid fun k => by rw [hf]; have := cntTo_le (k : Int) (pairsOf (N : Int) ls) (pairsOf (N : Int) ls).length; have := HPL.out; have := HML.out; simp only; omega
  have HFS2 : Hid (sumN f N = m) := Lib.hid (by rw [hf, HML.out]; exact HFS.out)
  clear hf HFS
  go_wp2
  go_loopw [10, 11] (fun fv kv wr => ∃ k : Nat, k ≤ N ∧ kv = .int .i64 k ∧ fv = .int .i64 (sumN f k : Nat) ∧ Below w13.heap.size w13 wr) (fun _ kv _ => N - (intOf kv).toNat)
  case atStart => exact ⟨0, by omega, rfl, rfl, Below.refl _ _⟩
  case round =>
    obtain ⟨k, hk, rfl, rfl, hbel⟩ := hrel
    by_cases hlt : k < N
    · have hs := sumN_le HF9.out k
      have hfk := HF9.out k
      have HFK := Lib.hid (HF.out k hlt)
      have HSN : Hid (sumN f (k + 1) = sumN f k + f k) := Lib.hid rfl
      obtain ⟨s, hsd⟩ : ∃ s, s = sumN f k := ⟨_, rfl⟩
      rw [← hsd] at hs HSN ⊢
      clear hsd
      go_wp2_with fail
      refine (impl_CountFront (rl.below hbel) hm).mono ?_
      rintro e w14 ⟨rfl, hb⟩
      rw [HFK.out]
      have hbel2 := hbel.trans (hb.mono hbel.size)
      clear hb
      go_wp2
      go_roundw
      case rel => exact ⟨k + 1, by omega, by go_num, by rw [HSN.out]; go_num, hbel2⟩
      case measure => simp [intOf]; omega
    · obtain rfl : k = N := by omega
      rw [HFS2.out]
      replace rl := rl.below hbel
      replace rp := rp.below hbel
      replace rr := rr.below hbel
      have hB := hB.trans (hbel.mono hB.size)
      clear hbel
      go_wp2
      go_loopw [12] (fun kv w' => ∃ q x : Nat, q ≤ m ∧ kv = .int .i64 q ∧ w' = wr.drewN x) (fun kv _ => m - (intOf kv).toNat)
      case atStart => exact ⟨0, 0, by omega, rfl, rfl⟩
      case round =>
        obtain ⟨q, x, hq, rfl, rfl⟩ := hrel
        by_cases hlt : q < m
        · obtain ⟨b, o, r, xs, rfl, hbB, hx, c0, hr0, hr1⟩ := rp.row hlt
          obtain ⟨a, z, hx2, hne, a0, a1, z0, z1⟩ := HPA.out q hlt
          obtain rfl : xs = [a, z] := by rw [hx] at hx2; exact Option.some.inj hx2
          obtain ⟨b', o', a', hA', hbB', ha', d0⟩ := hr0.int (k := 0) (by simp at hr1; omega)
          obtain ⟨b'', o'', z', hA'', hbB'', hz', d1⟩ := hr0.int (k := 1) (by simp at hr1; omega)
          obtain rfl : a = a' := by simpa using ha'
          obtain rfl : z = z' := by simpa using hz'
          rw [hA'] at hA''
          injection hA'' with hA''
          injection hA'' with hA1 hA2 _
          subst hA1 hA2
          have hr2 : r.n = 2 := by simp at hr1; omega
          obtain ⟨rA, rn, rc⟩ := r
          simp only at hA' hr0 hr1 c0 hr2
          subst hA' hr2
          rw [Nat.add_zero] at d0
          have e1 : (a == z) = false := by simpa using hne
          have lq : (q : Int) < (m : Int) := by omega
          have g1 : decide (a < 0) = false := decide_eq_false (by omega)
          have g2 : decide (z < 0) = false := decide_eq_false (by omega)
          have g3 : decide ((k : Int) ≤ a) = false := decide_eq_false (by omega)
          have g4 : decide ((k : Int) ≤ z) = false := decide_eq_false (by omega)
          clear hx hx2 ha' hz' hr0 hr1 hne
          go_wp2
          go_quiet (fail)
          go_wp2
          go_roundw
          case rel => exact ⟨q + 1, _, by omega, by go_num, rfl⟩
          case measure => simp [intOf]; omega
        · obtain rfl : q = m := by omega
          go_wp2
          go_loopw [13] (fun kv w' => ∃ p y : Nat, 1 ≤ p ∧ kv = .int .i64 p ∧ w' = wr.drewN y) (fun kv _ => k5 + 1 - (intOf kv).toNat)
          case atStart => exact ⟨1, x, by omega, rfl, rfl⟩
          case round =>
            obtain ⟨p, y, hp, rfl, rfl⟩ := hrel
            by_cases hlt : p < k5
            · obtain ⟨p, rfl⟩ : ∃ p', p = p' + 1 := ⟨p - 1, by omega⟩
              obtain ⟨b, o, x1, rfl, hbB, hx1, c0, c1⟩ := rr.cr (k := p + 1) hlt
              obtain ⟨b', o', x0, hA', hbB', hx0, d0, d1⟩ := rr.cr (k := p) (by omega)
              injection hA' with hA'
              injection hA' with hA1 hA2 _
              subst hA1 hA2
              have hnx := red_next HRR.out hx0 hx1
              obtain ⟨xa, xf⟩ := x1
              obtain ⟨ya, yf⟩ := x0
              simp only at c0 c1 d0 d1 hnx
              have l1 : (p : Int) + 1 < (k5 : Int) := by omega
              have l2 : (p : Int) < (k5 : Int) := by omega
              have t2 : IntKind.i64.wrap ((p : Int) + 1 - 1) = (p : Int) := by rw [IntWalk.i64_in _ (by omega)]; omega
              have t4 : ((p : Int) + 1).toNat = p + 1 := by omega
              clear hx0 hx1
              by_cases hxy : xa = ya
              · have e1 : (xa == ya) = true := by simp [hxy]
                obtain rfl := hnx hxy
                clear hxy hnx
                cases xf
                all_goals
                  go_wp2
                  go_quiet (fail)
                  go_wp2
                  go_roundw
                  case rel => exact ⟨p + 1 + 1, _, by omega, by go_num, rfl⟩
                  case measure => simp [intOf]; omega
              · have e1 : (xa == ya) = false := by simp [hxy]
                clear hxy hnx
                go_wp2
                go_quiet (fail)
                go_wp2
                go_roundw
                case rel => exact ⟨p + 1 + 1, _, by omega, by go_num, rfl⟩
                case measure => simp [intOf]; omega
            · have l1 : ¬ (p : Int) < (k5 : Int) := by omega
              go_wp2_with fail
              refine (impl_CrossesOk (rl.drewN _) hm).mono ?_
              rintro e w20 ⟨rfl, hb⟩
              rw [OK.out]
              have hB := (below_drewN hB y).trans (hb.mono hB.size)
              clear hb
              go_wp2
              go_ret
              exact ⟨rfl, hB⟩

set_option maxRecDepth 100000 in
theorem lifted (os : Os) (started : os.Started) (H : Type) (enc : TypeId × Value → H) :
    ReturnsInHanded {} Try.checked os 10 .any (Rows.fnCrossingsSpec.pre6 enc Try.prog Try.f10 Rows.fnCrossingsRow.domain false) (Rows.fnCrossingsSpec.post enc Try.prog Try.f10 false true false false) := by
  refine returnsInHanded_of_change (C := Try.checked) own started (by kernel_rfl) Try.func10
    (ChangeSpec.witness6 (enc := enc) (C := Try.checked) false ⟨#[], #[.slice none 0 0], []⟩ 8 (by kernel_rfl) (by kernel_rfl) (by kernel_rfl) (by kernel_rfl)) ?_
  intro W base args ds gs before hval0 hW hcnd _
  have hval : ∀ (j : Nat) t v, Try.f10.params[j]? = some t → args[j]? = some v → Value.okWide Try.prog W .any base t v := hval0
  have hW' := hW
  obtain ⟨p, q, hA0, hV, rfl, hfz, hnd⟩ := hW
  have hA : DataW.TrodAll enc Try.prog W 0 (fun _ => true) true Try.f10.params.toList args.toList ds p := hA0
  rw [Try.params10] at hA hval
  obtain ⟨v0, vs0, d0, ds0, p0, q0, hargs, rfl, rfl, h0, r0⟩ := trodAll_cons hA
  obtain ⟨rfl, rfl, rfl⟩ := trodAll_nil r0
  obtain rfl : args = #[v0] := by cases args; simp_all
  obtain ⟨rfl, rfl⟩ := trodVars_none hV
  obtain ⟨A0, n0, c0, xs0, rfl, g0, m0, u0⟩ := open_byteA (hval 0 44 v0 rfl rfl) h0
  refine (walk A0 n0 c0 xs0 W g0 m0 u0).mono fun e W' ⟨he, hb⟩ => ?_
  subst he
  exact ⟨_, rfl, post_true laidOut rfl hW' rfl (by rw [Try.params10]; intro t ht; simp only [List.mem_cons, List.not_mem_nil, or_false] at ht; rcases ht with rfl <;> exact ⟨by kernel_rfl, of_decide_eq_true (by kernel_rfl)⟩) Try.underlying4 (by kernel_rfl) hb⟩

theorem over : Rows.fnCrossingsRow.holds Try.pinned (OpenSpec.ofChange Rows.fnCrossingsSpec) :=
  OpenClaim.holds_of_wide 10 Try.f10 rfl rfl rfl rfl rfl rfl rfl ⟨rfl, rfl, rfl, rfl, rfl⟩ rfl rfl rfl rfl rfl (by kernel_rfl) Try.func10 (by kernel_rfl)
    (of_decide_eq_true (by kernel_rfl)) (by unfold Func.isWrapper; first | (rw [if_pos (by decide +kernel)]; kernel_rfl) | (rw [if_neg (by decide +kernel)]; exact ⟨rfl, rfl⟩))
    (fun os started H enc _ => lifted os started H enc)

theorem proved : Rows.FnCrossingsSaid := over
end Go.Proofs.Ytkpgfmkmbgapmaa.FnCrossings
