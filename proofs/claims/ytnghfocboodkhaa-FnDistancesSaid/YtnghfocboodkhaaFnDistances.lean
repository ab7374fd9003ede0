/- The given law FnDistances: the program and the reference agree for all arguments and share no memory, so the law returns true; no condition. -/
import Derived.Test.YtnghfocboodkhaaDistDraw
import Derived.Test.YtnghfocboodkhaaSame
namespace Go.Proofs.Ytnghfocboodkhaa.FnDistances
open Go.ChangeShapes Go.WideShapes Go.ChangeAt Go.RowKit Go.Deep Go.Joins
open Go.Sort
set_option maxRecDepth 100000

set_option maxHeartbeats 8000000 in
theorem walk (A_code : Option Addr) (n_code c_code : Nat) (xs_code : List Int) (w : World) (hr_code : Reads w 1 A_code n_code (u8s xs_code)) (hm_code : n_code ≤ 9223372036854775807) (hb_code : ∀ x ∈ xs_code, 0 ≤ x ∧ x ≤ 255) :
    Calls Try.prog 14 #[.slice A_code n_code c_code] w fun e w' => e = .returned (.bool true) ∧ Below w.heap.size w w' := by
  by_cases hbig : 1048576 < n_code
  · have D : Hid (decide (1048576 < n_code) = true) := Lib.hid (decide_eq_true hbig)
    clear hbig
    go_enter Try.func14, Try.ntmps14
    go_wp2_with fail
    refine (laws_big hm_code).mono ?_
    rintro e w1 ⟨rfl, rfl⟩
    rw [D.out]
    go_wp2
    go_ret
    exact ⟨rfl, Below.refl _ _⟩
  have D : Hid (decide (1048576 < n_code) = false) := Lib.hid (decide_eq_false hbig)
  have hn : n_code ≤ 1048576 := by omega
  clear hbig
  go_enter Try.func14, Try.ntmps14
  go_wp2_with fail
  refine (laws_big hm_code).mono ?_
  rintro e w1 ⟨rfl, rfl⟩
  rw [D.out]
  clear D
  go_wp2_with fail
  refine (spec_DrawBody hr_code hb_code hn).mono ?_
  rintro e w1 ⟨N, ls, B, m, d, rfl, hol, hok, hb⟩
  obtain ⟨n1, n12, hll, htr⟩ := tree_of hok
  rw [Int.toNat_natCast] at htr
  have hml : m = ls.length := by have := hol.1; rw [lbs_length] at this; omega
  have hm : m ≤ 1048576 := by omega
  have hN12 : N ≤ 12 := by omega
  have hN0 : 0 < N := by omega
  have hne : ¬ (N : Int) = 0 := by omega
  have T := Lib.hid htr
  have HOK := Lib.hid hok
  have rl := (Reads.of_own hol).below (by go_grown : Below w1.heap.size w1 (w1.alloc (.cells #[.int .i64 (N : Int), .slice B m d] 24)))
  have hx := Row.new w1 24 [.int .i64 (N : Int), .slice B m d]
  have hB := hb.alloc hb.size (.cells #[.int .i64 (N : Int), .slice B m d] 24)
  clear hol htr hml hok hll hb
  go_wp2
  generalize w1.alloc (.cells #[.int .i64 (N : Int), .slice B m d] 24) = W0 at *
  have cA : ∀ dd os, Calls Try.prog 47 #[.slice A_code n_code c_code, .int .i64 0] (grow (redrawn W0 dd) os) fun e w' => e = .returned (.int .i64 (atV xs_code 0)) ∧ ∃ p : Regrown, w' = grow (redrawn W0 p.d) p.os :=
    fun dd os => Calls.regrown_of (laws_at (i := 0) rfl ((hr_code.below hB).below (below_regrown W0 dd os)) hb_code hn (by omega))
  obtain ⟨av, hav⟩ := Int.eq_ofNat_of_zero_le (atV_bd hb_code 0).1
  rw [hav] at cA
  obtain ⟨i, hi⟩ : ∃ i, i = av % N := ⟨_, rfl⟩
  have ilt : i < N := by rw [hi]; exact Nat.mod_lt _ hN0
  have e2 : (av : Int).tmod (N : Int) = (i : Int) := by rw [hi, Int.tmod_eq_emod_of_nonneg (by omega), Int.natCast_emod]
  have e3 : (av : Int) % (N : Int) = (i : Int) := by rw [hi, Int.natCast_emod]
  have q0 := cell_regrown (hx.cell_ (i := 0) rfl)
  have q0' := hx.cell_ (i := 0) rfl
  clear hav hi
  go_wp2
  refine wp_region_quiet_below (by kernel_rfl) (by kernel_rfl) ?_
  repeat (go_big_quiet_step ((go_at_call 47; exact cA _ _)))
  refine wpQuiet_nil ?_
  intro _ hw'
  obtain ⟨⟨dq, osq⟩, hw''⟩ := hw'
  subst hw''
  have hb := below_regrown W0 dq osq
  clear cA e2 e3 q0 q0'
  replace rl := rl.below hb
  replace hx := hx.below hb
  replace hB := hB.trans (hb.mono hB.size)
  clear hb
  generalize grow (redrawn W0 dq) osq = Wi at *
  have cA : ∀ dd os, Calls Try.prog 47 #[.slice A_code n_code c_code, .int .i64 1] (grow (redrawn Wi dd) os) fun e w' => e = .returned (.int .i64 (atV xs_code 1)) ∧ ∃ p : Regrown, w' = grow (redrawn Wi p.d) p.os :=
    fun dd os => Calls.regrown_of (laws_at (i := 1) rfl ((hr_code.below hB).below (below_regrown Wi dd os)) hb_code hn (by omega))
  obtain ⟨av, hav⟩ := Int.eq_ofNat_of_zero_le (atV_bd hb_code 1).1
  rw [hav] at cA
  obtain ⟨j, hj⟩ : ∃ j, j = av % N := ⟨_, rfl⟩
  have jlt : j < N := by rw [hj]; exact Nat.mod_lt _ hN0
  have e2 : (av : Int).tmod (N : Int) = (j : Int) := by rw [hj, Int.tmod_eq_emod_of_nonneg (by omega), Int.natCast_emod]
  have e3 : (av : Int) % (N : Int) = (j : Int) := by rw [hj, Int.natCast_emod]
  have q0 := cell_regrown (hx.cell_ (i := 0) rfl)
  have q0' := hx.cell_ (i := 0) rfl
  clear hav hj
  go_wp2
  refine wp_region_quiet_below (by kernel_rfl) (by kernel_rfl) ?_
  repeat (go_big_quiet_step ((go_at_call 47; exact cA _ _)))
  refine wpQuiet_nil ?_
  intro _ hw'
  obtain ⟨⟨dq, osq⟩, hw''⟩ := hw'
  subst hw''
  have hb := below_regrown Wi dq osq
  clear cA e2 e3 q0 q0'
  replace rl := rl.below hb
  replace hx := hx.below hb
  replace hB := hB.trans (hb.mono hB.size)
  clear hb
  generalize grow (redrawn Wi dq) osq = Wj at *
  have cA : ∀ dd os, Calls Try.prog 47 #[.slice A_code n_code c_code, .int .i64 2] (grow (redrawn Wj dd) os) fun e w' => e = .returned (.int .i64 (atV xs_code 2)) ∧ ∃ p : Regrown, w' = grow (redrawn Wj p.d) p.os :=
    fun dd os => Calls.regrown_of (laws_at (i := 2) rfl ((hr_code.below hB).below (below_regrown Wj dd os)) hb_code hn (by omega))
  obtain ⟨av, hav⟩ := Int.eq_ofNat_of_zero_le (atV_bd hb_code 2).1
  rw [hav] at cA
  obtain ⟨k, hk⟩ : ∃ k, k = av % N := ⟨_, rfl⟩
  have klt : k < N := by rw [hk]; exact Nat.mod_lt _ hN0
  have e2 : (av : Int).tmod (N : Int) = (k : Int) := by rw [hk, Int.tmod_eq_emod_of_nonneg (by omega), Int.natCast_emod]
  have e3 : (av : Int) % (N : Int) = (k : Int) := by rw [hk, Int.natCast_emod]
  have q0 := cell_regrown (hx.cell_ (i := 0) rfl)
  have q0' := hx.cell_ (i := 0) rfl
  clear hav hk
  go_wp2
  refine wp_region_quiet_below (by kernel_rfl) (by kernel_rfl) ?_
  repeat (go_big_quiet_step ((go_at_call 47; exact cA _ _)))
  refine wpQuiet_nil ?_
  intro _ hw'
  obtain ⟨⟨dq, osq⟩, hw''⟩ := hw'
  subst hw''
  have hb := below_regrown Wj dq osq
  clear cA e2 e3 q0 q0'
  replace rl := rl.below hb
  replace hx := hx.below hb
  replace hB := hB.trans (hb.mono hB.size)
  clear hb
  generalize grow (redrawn Wj dq) osq = Wk at *
  have HDij := Lib.hid (distOf_nat HOK.out ilt jlt)
  have HDji := Lib.hid (distOf_nat HOK.out jlt ilt)
  have HDik := Lib.hid (distOf_nat HOK.out ilt klt)
  have HDkj := Lib.hid (distOf_nat HOK.out klt jlt)
  have HSP := Lib.hid (spanOf_yes HOK.out)
  have HCE := Lib.hid (centerOf_yes HOK.out)
  have HPA := Lib.hid (pathOf_in HOK.out ilt jlt)
  have HLI : Hid (distsFrom (N : Int) ls (i : Int) = tab (dist N ls i) N) := Lib.hid (distsFrom_yes (isJ_in HOK.out ilt))
  have clt := cent_lt (far N ls) hN0
  have HLC : Hid (distsFrom (N : Int) ls ((centTo (far N ls) N : Nat) : Int) = tab (dist N ls (centTo (far N ls) N)) N) := Lib.hid (distsFrom_yes (isJ_in HOK.out clt))
  have HSS := Lib.hid (shape_self HOK.out)
  have f1 := far_span T.out clt
  have f0 := far_bd T.out _ clt
  have d0 := T.out.all ilt j jlt
  have dB := T.out.bound ilt j
  have dik0 := T.out.all ilt k klt
  have dikB := T.out.bound ilt k
  have dkj0 := T.out.all klt j jlt
  have dkjB := T.out.bound klt j
  have dsy := T.out.symm ilt jlt
  have dtr := T.out.tri ilt jlt klt
  have dsp := dist_span (ls := ls) ilt jlt
  have dz := T.out.zero ilt jlt
  obtain ⟨L, hL1, hL2, hp0, hpL⟩ := chI_ends T.out ilt jlt
  have HCH : Hid (∀ (q : Nat) (x y : Int), (chI ls (dist N ls j) j i)[q]? = some x → (chI ls (dist N ls j) j i)[q + 1]? = some y → ∃ u v : Nat, x = u ∧ y = v ∧ u < N ∧ v < N ∧ dist N ls u v = dist N ls j u - dist N ls j v) := Lib.hid fun q x y hx hy => chI_at T.out ilt jlt hx hy
  have HL1 := Lib.hid hL1
  have HP0 := Lib.hid hp0
  have HPL := Lib.hid hpL
  rw [← dsy] at HDji
  obtain ⟨β, e1, e2⟩ : ∃ β, (dist N ls i j == 0) = β ∧ ((i : Int) == (j : Int)) = β := by
    refine ⟨_, rfl, ?_⟩
    rw [Bool.eq_iff_iff, beq_iff_eq, beq_iff_eq, dz]
    omega
  have HB1 := Lib.hid e1
  have HB2 := Lib.hid e2
  clear dz hL1 hp0 hpL e1 e2
  have HT1 := Lib.hid (T.out.self jlt)
  have HSYM := Lib.hid dsy
  obtain ⟨D1, hD1⟩ : ∃ x, x = dist N ls i j := ⟨_, rfl⟩
  obtain ⟨D2, hD2⟩ : ∃ x, x = dist N ls i k := ⟨_, rfl⟩
  obtain ⟨D3, hD3⟩ : ∃ x, x = dist N ls k j := ⟨_, rfl⟩
  obtain ⟨S, hS⟩ : ∃ x, x = maxTo (far N ls) N := ⟨_, rfl⟩
  obtain ⟨C, hC⟩ : ∃ x, x = centTo (far N ls) N := ⟨_, rfl⟩
  rw [← hD1] at HDij HDji d0 dB dtr dsp HB1 HSYM
  rw [← hD2] at HDik dik0 dikB dtr
  rw [← hD3] at HDkj dkj0 dkjB dtr
  rw [← hS] at HSP f1 dsp
  rw [← hC] at HCE HLC f1 f0 clt
  have HD1 := Lib.hid hD1
  clear hD1 hD2 hD3 hS hC dsy
  have q0 := hx.cell_ (i := 0) rfl
  have q1 := hx.cell_ (i := 1) rfl
  go_wp2_with fail
  refine (impl_DistanceOf rl hm).mono ?_
  rintro e w5 ⟨rfl, hb⟩
  rw [HDij.out]
  replace rl := rl.below hb
  replace hx := hx.below hb
  replace hB := hB.trans (hb.mono hB.size)
  clear hb
  clear q0 q1
  have q0 := hx.cell_ (i := 0) rfl
  have q1 := hx.cell_ (i := 1) rfl
  go_wp2_with fail
  refine (impl_PathBetween rl hm).mono ?_
  rintro e w6 ⟨Ap, np, cp, rfl, hop, hnp, hb⟩
  rw [HPA.out] at hop
  have hlp := own_len hop
  have rp := Reads.of_own hop
  replace rl := rl.below hb
  replace hx := hx.below hb
  replace hB := hB.trans (hb.mono hB.size)
  clear hb
  clear q0 q1 hop
  have hnpL : np = L + 1 := by have := HL1.out; omega
  subst hnpL
  clear hlp
  have q0 := hx.cell_ (i := 0) rfl
  have q1 := hx.cell_ (i := 1) rfl
  go_wp2_with fail
  refine (impl_DistancesFrom rl hm).mono ?_
  rintro e w7 ⟨Al, nl, cl, rfl, hol, hnl, hb⟩
  rw [HLI.out] at hol
  have hll := own_len hol
  rw [tab_length] at hll
  subst hll
  have rd := Reads.of_own hol
  replace rl := rl.below hb
  replace rp := rp.below hb
  replace hx := hx.below hb
  replace hB := hB.trans (hb.mono hB.size)
  clear hb
  clear q0 q1 hol
  have q0 := hx.cell_ (i := 0) rfl
  have q1 := hx.cell_ (i := 1) rfl
  go_wp2_with fail
  refine (impl_SpanOf rl hm).mono ?_
  rintro e w8 ⟨rfl, hb⟩
  rw [HSP.out]
  replace rl := rl.below hb
  replace rp := rp.below hb
  replace rd := rd.below hb
  replace hx := hx.below hb
  replace hB := hB.trans (hb.mono hB.size)
  clear hb
  clear q0 q1
  have q0 := hx.cell_ (i := 0) rfl
  have q1 := hx.cell_ (i := 1) rfl
  go_wp2_with fail
  refine (impl_CenterOf rl hm).mono ?_
  rintro e w9 ⟨rfl, hb⟩
  rw [HCE.out]
  replace rl := rl.below hb
  replace rp := rp.below hb
  replace rd := rd.below hb
  replace hx := hx.below hb
  replace hB := hB.trans (hb.mono hB.size)
  clear hb
  clear q0 q1
  obtain ⟨b, o, lv, rfl, hbB, hlv, cl0⟩ := rd.int jlt
  have hlv2 : lv = D1 := by rw [tab_get _ nl j jlt] at hlv; rw [HD1.out]; exact (Option.some.inj hlv).symm
  subst hlv2
  have cD : ∀ dd os (a z : Nat) (x : Int), distOf (nl : Int) ls (a : Int) (z : Int) = x → Calls Try.prog 27 #[.agg #[.int .i64 (nl : Int), .slice B m d], .int .i64 (a : Int), .int .i64 (z : Int)] (grow (redrawn w9 dd) os) fun e w' => e = .returned (.int .i64 x) ∧ ∃ p : Regrown, w' = grow (redrawn w9 p.d) p.os :=
    fun dd os a z x hh => by rw [← hh]; exact Calls.regrown_of (impl_DistanceOf (rl.below (below_regrown w9 dd os)) hm)
  have q0 := hx.cell_ (i := 0) rfl
  have q1 := hx.cell_ (i := 1) rfl
  have q0' := cell_regrown q0
  have q1' := cell_regrown q1
  have cl0' := cell_regrown cl0
  have e1 := HB1.out
  have e2 := HB2.out
  have r1 : IntKind.i64.wrap (D2 + D3) = D2 + D3 := IntWalk.i64_in _ (by omega)
  have g1 : decide (lv < 0) = false := decide_eq_false (by omega)
  have g2 : decide (D2 + D3 < lv) = false := decide_eq_false (by omega)
  have g3 : decide (S < lv) = false := decide_eq_false (by omega)
  have g4 : decide ((C : Int) < 0) = false := decide_eq_false (by omega)
  have g5 : decide ((nl : Int) ≤ (C : Int)) = false := decide_eq_false (by omega)
  have jl : (j : Int) < (nl : Int) := by omega
  clear hlv
  go_wp2
  refine wp_region_quiet_below (by kernel_rfl) (by kernel_rfl) ?_
  repeat (go_big_quiet_step ((first | (go_at_call 27; first | with_reducible exact cD _ _ j i _ HDji.out | with_reducible exact cD _ _ i k _ HDik.out | with_reducible exact cD _ _ k j _ HDkj.out))))
  refine wpQuiet_nil ?_
  intro _ hw'
  obtain ⟨⟨dq, osq⟩, hw''⟩ := hw'
  subst hw''
  have hb := below_regrown w9 dq osq
  clear cD q0 q1 q0' q1' cl0 cl0' e1 e2 r1 g1 g2 g3 g4 g5 rd
  replace rl := rl.below hb
  replace rp := rp.below hb
  replace hx := hx.below hb
  replace hB := hB.trans (hb.mono hB.size)
  clear hb
  generalize grow (redrawn w9 dq) osq = w10 at *
  obtain ⟨bp, op, v0, rfl, hbp, hv0, cp0⟩ := rp.int (k := 0) (by omega)
  obtain ⟨bp2, op2, vL, hAp, hbp2, hvL, cpL⟩ := rp.int (k := L) (by omega)
  injection hAp with hAp
  injection hAp with hA1 hA2 _
  subst hA1 hA2
  have hv0' : v0 = (i : Int) := by rw [HP0.out] at hv0; exact (Option.some.inj hv0).symm
  have hvL' : vL = (j : Int) := by rw [HPL.out] at hvL; exact (Option.some.inj hvL).symm
  subst hv0' hvL'
  rw [Nat.add_zero] at cp0
  have t1 : ((L : Int) + 1 - 1).toNat = L := by omega
  clear hv0 hvL
  go_wp2
  go_loopw [12, 13] (fun yv mv wr => ∃ (q : Nat) (x : Int), 1 ≤ q ∧ q ≤ L + 1 ∧ mv = .int .i64 q ∧ (chI ls (dist nl ls j) j i)[q - 1]? = some x ∧ yv = .int .i64 (lv - dist nl ls j x.toNat) ∧ Row wr w1.heap.size 24 [.int .i64 (nl : Int), .slice B m d] ∧ Below w10.heap.size w10 wr) (fun _ mv _ => L + 1 - (intOf mv).toNat)
  case atStart => exact ⟨1, (i : Int), by omega, by omega, rfl, HP0.out, by rw [Int.toNat_natCast, ← HSYM.out]; go_num, hx, Below.refl _ _⟩
  case round =>
    clear hx
    obtain ⟨q, x, hq1, hq2, rfl, hxq, rfl, hx, hbel⟩ := hrel
    by_cases hlt : q < L + 1
    · obtain ⟨p, rfl⟩ : ∃ p, q = p + 1 := ⟨q - 1, by omega⟩
      rw [Nat.add_sub_cancel] at hxq
      obtain ⟨bq, oq, y, hAq, hbq, hyq, cq1⟩ := (rp.below hbel).int (k := p + 1) hlt
      injection hAq with hAq
      injection hAq with hA1 hA2 _
      subst hA1 hA2
      obtain ⟨bq, oq, x', hAq, hbq', hxq', cq0⟩ := (rp.below hbel).int (k := p) (by omega)
      injection hAq with hAq
      injection hAq with hA1 hA2 _
      subst hA1 hA2
      obtain rfl : x = x' := by rw [hxq] at hxq'; exact Option.some.inj hxq'
      obtain ⟨u, v, rfl, rfl, hu, hv, huv⟩ := HCH.out p _ _ hxq hyq
      have HY := Lib.hid hyq
      have bu := T.out.bound jlt u
      have bv := T.out.bound jlt v
      have au := T.out.all jlt u hu
      have av := T.out.all jlt v hv
      have HUV := Lib.hid (distOf_nat HOK.out hu hv)
      rw [huv] at HUV
      obtain ⟨du, hdu⟩ : ∃ z, z = dist nl ls j u := ⟨_, rfl⟩
      obtain ⟨dv, hdv⟩ : ∃ z, z = dist nl ls j v := ⟨_, rfl⟩
      rw [Int.toNat_natCast]
      rw [← hdu] at bu au HUV ⊢
      rw [← hdv] at bv av HUV
      have HDV := Lib.hid hdv
      clear hxq hxq' hyq huv hdu hdv
      have cD : ∀ dd os, Calls Try.prog 27 #[.agg #[.int .i64 (nl : Int), .slice B m d], .int .i64 (u : Int), .int .i64 (v : Int)] (grow (redrawn wr dd) os) fun e w' => e = .returned (.int .i64 (du - dv)) ∧ ∃ p : Regrown, w' = grow (redrawn wr p.d) p.os :=
        fun dd os => by rw [← HUV.out]; exact Calls.regrown_of (impl_DistanceOf ((rl.below hbel).below (below_regrown wr dd os)) hm)
      have q0 := hx.cell_ (i := 0) rfl
      have q1 := hx.cell_ (i := 1) rfl
      have q0' := cell_regrown q0
      have q1' := cell_regrown q1
      have cq0' := cell_regrown cq0
      have cq1' := cell_regrown cq1
      have l1 : ((p : Int) + 1) < (L : Int) + 1 := by omega
      have t2 : IntKind.i64.wrap ((p : Int) + 1 - 1) = (p : Int) := by rw [IntWalk.i64_in _ (by omega)]; omega
      have t3 : IntKind.i64.wrap (lv - du + (du - dv)) = lv - dv := by rw [IntWalk.i64_in _ (by omega)]; omega
      have t4 : ((p : Int) + 1).toNat = p + 1 := by omega
      go_wp2
      refine wp_region_quiet_below (by kernel_rfl) (by kernel_rfl) ?_
      repeat (go_big_quiet_step ((go_at_call 27; exact cD _ _)))
      refine wpQuiet_nil ?_
      intro _ hw'
      obtain ⟨⟨dq, osq⟩, hw''⟩ := hw'
      subst hw''
      have hb := below_regrown wr dq osq
      clear cD q0' q1' cq0' cq1' q0 q1 cq0 cq1 t2 t3
      have hx2 := hx.below hb
      have hbel2 := hbel.trans (hb.mono hbel.size)
      clear hb
      go_wp2
      go_roundw
      case rel => exact ⟨p + 1 + 1, _, by omega, by omega, by go_num, HY.out, by rw [Int.toNat_natCast, ← HDV.out], hx2, hbel2⟩
      case measure => simp [intOf]; omega
    · obtain rfl : q = L + 1 := by omega
      rw [Nat.add_sub_cancel, HPL.out] at hxq
      obtain rfl := Option.some.inj hxq
      rw [Int.toNat_natCast, HT1.out, Int.sub_zero]
      replace rl := rl.below hbel
      replace hB := hB.trans (hbel.mono hB.size)
      clear hxq rp cp0 cpL hbel
      have q0 := hx.cell_ (i := 0) rfl
      have q1 := hx.cell_ (i := 1) rfl
      go_wp2_with fail
      refine (impl_DistancesFrom rl hm).mono ?_
      rintro e w11 ⟨Am, nm, cm, rfl, hom, hnm, hb⟩
      rw [HLC.out] at hom
      have hlm := own_len hom
      rw [tab_length] at hlm
      subst hlm
      have rm := Reads.of_own hom
      replace rl := rl.below hb
      replace hx := hx.below hb
      replace hB := hB.trans (hb.mono hB.size)
      clear hb
      clear q0 q1 hom
      go_wp2
      go_loop [14, 16] (fun fv xv => ∃ q : Nat, q ≤ nm ∧ xv = .int .i64 q ∧ fv = .int .i64 (maxTo (dist nm ls C) q)) (fun _ xv => nm - (intOf xv).toNat)
      case atStart => exact ⟨0, by omega, rfl, rfl⟩
      case round =>
        obtain ⟨q, hq, rfl, rfl⟩ := hrel
        by_cases hlt : q < nm
        · obtain ⟨b3, o3, y, rfl, hb3, hyq, cy⟩ := rm.int hlt
          have hyv : dist nm ls C q = y := by rw [tab_get _ nm q hlt] at hyq; exact Option.some.inj hyq
          have HM : Hid (maxTo (dist nm ls C) (q + 1) = max (maxTo (dist nm ls C) q) y) := Lib.hid (by rw [← hyv]; rfl)
          have lq : (q : Int) < (nm : Int) := by omega
          clear hyq hyv
          go_wp2
          all_goals
            go_round
            case rel => exact ⟨q + 1, by omega, by go_num, by rw [HM.out]; exact congrArg (Value.int .i64) (by omega)⟩
            case measure => simp [intOf]; omega
        · obtain rfl : q = nm := by omega
          have HFA : Hid (maxTo (dist q ls C) q = far q ls C) := Lib.hid rfl
          rw [HFA.out]
          obtain ⟨F, hF⟩ : ∃ z, z = far q ls C := ⟨_, rfl⟩
          rw [← hF] at f0 f1 ⊢
          clear hF
          have g1 : decide (S ≤ 2 * F) = true := decide_eq_true (by omega)
          have g2 : decide (F ≤ S) = true := decide_eq_true (by omega)
          have q0 := hx.cell_ (i := 0) rfl
          have q1 := hx.cell_ (i := 1) rfl
          go_wp2_with fail
          refine (impl_AreSameShape rl hm rl hm).mono ?_
          rintro e w12 ⟨rfl, hb⟩
          rw [HSS.out]
          replace rl := rl.below hb
          replace hx := hx.below hb
          replace hB := hB.trans (hb.mono hB.size)
          clear hb
          clear q0 q1
          go_wp2
          go_ret
          exact ⟨rfl, hB⟩

set_option maxRecDepth 100000 in
theorem lifted (os : Os) (started : os.Started) (H : Type) (enc : TypeId × Value → H) :
    ReturnsInHanded {} Try.checked os 14 .any (Rows.fnDistancesSpec.pre6 enc Try.prog Try.f14 Rows.fnDistancesRow.domain false) (Rows.fnDistancesSpec.post enc Try.prog Try.f14 false true false false) := by
  refine returnsInHanded_of_change (C := Try.checked) own started (by kernel_rfl) Try.func14
    (ChangeSpec.witness6 (enc := enc) (C := Try.checked) false ⟨#[], #[.slice none 0 0], []⟩ 8 (by kernel_rfl) (by kernel_rfl) (by kernel_rfl) (by kernel_rfl)) ?_
  intro W base args ds gs before hval0 hW hcnd _
  have hval : ∀ (j : Nat) t v, Try.f14.params[j]? = some t → args[j]? = some v → Value.okWide Try.prog W .any base t v := hval0
  have hW' := hW
  obtain ⟨p, q, hA0, hV, rfl, hfz, hnd⟩ := hW
  have hA : DataW.TrodAll enc Try.prog W 0 (fun _ => true) true Try.f14.params.toList args.toList ds p := hA0
  rw [Try.params14] at hA hval
  obtain ⟨v0, vs0, d0, ds0, p0, q0, hargs, rfl, rfl, h0, r0⟩ := trodAll_cons hA
  obtain ⟨rfl, rfl, rfl⟩ := trodAll_nil r0
  obtain rfl : args = #[v0] := by cases args; simp_all
  obtain ⟨rfl, rfl⟩ := trodVars_none hV
  obtain ⟨A0, n0, c0, xs0, rfl, g0, m0, u0⟩ := open_byteA (hval 0 47 v0 rfl rfl) h0
  refine (walk A0 n0 c0 xs0 W g0 m0 u0).mono fun e W' ⟨he, hb⟩ => ?_
  subst he
  exact ⟨_, rfl, post_true laidOut rfl hW' rfl (by rw [Try.params14]; intro t ht; simp only [List.mem_cons, List.not_mem_nil, or_false] at ht; rcases ht with rfl <;> exact ⟨by kernel_rfl, of_decide_eq_true (by kernel_rfl)⟩) Try.underlying4 (by kernel_rfl) hb⟩

theorem over : Rows.fnDistancesRow.holds Try.pinned (OpenSpec.ofChange Rows.fnDistancesSpec) :=
  OpenClaim.holds_of_wide 14 Try.f14 rfl rfl rfl rfl rfl rfl rfl ⟨rfl, rfl, rfl, rfl, rfl⟩ rfl rfl rfl rfl rfl (by kernel_rfl) Try.func14 (by kernel_rfl)
    (of_decide_eq_true (by kernel_rfl)) (by unfold Func.isWrapper; first | (rw [if_pos (by decide +kernel)]; kernel_rfl) | (rw [if_neg (by decide +kernel)]; exact ⟨rfl, rfl⟩))
    (fun os started H enc _ => lifted os started H enc)

theorem proved : Rows.FnDistancesSaid := over
end Go.Proofs.Ytnghfocboodkhaa.FnDistances
