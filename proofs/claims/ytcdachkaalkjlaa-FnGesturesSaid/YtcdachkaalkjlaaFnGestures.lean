/- The given law FnGestures: the program and the reference agree for all arguments and share no memory, so the law returns true; no condition. -/
import Derived.Test.YtcdachkaalkjlaaGestKit
namespace Go.Proofs.Ytcdachkaalkjlaa.FnGestures
open Go.ChangeShapes Go.WideShapes Go.ChangeAt Go.RowKit Go.Deep Go.Joins
open Go.Sort
set_option maxRecDepth 100000

set_option maxHeartbeats 8000000 in
theorem walk (A_code : Option Addr) (n_code c_code : Nat) (xs_code : List Int) (w : World) (hr_code : Reads w 1 A_code n_code (u8s xs_code)) (hm_code : n_code ≤ 9223372036854775807) (hb_code : ∀ x ∈ xs_code, 0 ≤ x ∧ x ≤ 255) :
    Calls Try.prog 9 #[.slice A_code n_code c_code] w fun e w' => e = .returned (.bool true) ∧ Below w.heap.size w w' := by
  by_cases hbig : 1048576 < n_code
  · have D : Hid (decide (1048576 < n_code) = true) := Lib.hid (decide_eq_true hbig)
    clear hbig
    go_enter Try.func9, Try.ntmps9
    go_wp2_with fail
    refine (laws_big hm_code).mono ?_
    rintro e w1 ⟨rfl, rfl⟩
    rw [D.out]
    go_wp2
    go_ret
    exact ⟨rfl, Below.refl _ _⟩
  have D : Hid (decide (1048576 < n_code) = false) := Lib.hid (decide_eq_false hbig)
  have hn : n_code ≤ 1048576 := by omega
  clear hbig
  go_enter Try.func9, Try.ntmps9
  go_wp2_with fail
  refine (laws_big hm_code).mono ?_
  rintro e w1 ⟨rfl, rfl⟩
  rw [D.out]
  clear D
  go_wp2_with fail
  refine (spec_DrawPoses hr_code hb_code hn).mono ?_
  rintro e w1 ⟨N, ls, B, m, d, C, f, ps, D, g, qs, rfl, hol, hop, hoq, hpp, hpq, hb⟩
  obtain ⟨n1, n12, hll, _⟩ := tree_of (poseFacts hpp).body
  have hml : m = ls.length := by have := hol.1; rw [lbs_length] at this; omega
  have hm : m ≤ 1048576 := by omega
  have hN : N ≤ 1048576 := by omega
  have hN12 : N ≤ 12 := by omega
  have HPP := Lib.hid hpp
  have HPQ := Lib.hid hpq
  have HLP : Hid (ps.length = N) := Lib.hid (own_len hop).symm
  have HLQ : Hid (qs.length = N) := Lib.hid (own_len hoq).symm
  have hlpq : ps.length = qs.length := by have := HLP.out; have := HLQ.out; omega
  have GF := gestFacts HPP.out HPQ.out
  have hbd := step_bd hpp hpq
  have hsy := step_symm hpp hpq
  have hsk := pose_step hpp hpq
  have HH := Lib.hid (bothL_yes (g := hiF) hsk)
  have HL := Lib.hid (bothL_yes (g := loF) hsk)
  have HM := Lib.hid (bothL_yes (g := midF) hsk)
  have HH1 := Lib.hid (hi_pose hpp hpq)
  have HL1 := Lib.hid (lo_pose hpp hpq)
  have HLH := Lib.hid (bothTo_len (g := hiF) hlpq ps.length (Nat.le_refl _))
  have HLL := Lib.hid (bothTo_len (g := loF) hlpq ps.length (Nat.le_refl _))
  have HLM := Lib.hid (bothTo_len (g := midF) hlpq ps.length (Nat.le_refl _))
  have HLE := Lib.hid hlpq
  have FP := Lib.hid (poseFacts hpp).rng
  have FQ := Lib.hid (poseFacts hpq).rng
  obtain ⟨T, hT⟩ : ∃ T, T = stepSize ps qs := ⟨_, rfl⟩
  rw [← hT] at hbd hsy GF
  have HT : Hid (stepSize ps qs = T) := Lib.hid hT.symm
  have HTS := Lib.hid hsy
  have HGF := Lib.hid GF
  have rl := (Reads.of_own hol).below (by go_grown : Below w1.heap.size w1 (w1.alloc (.cells #[.int .i64 (N : Int), .slice B m d] 37)))
  have rp := (Reads.of_own hop).below (by go_grown : Below w1.heap.size w1 (w1.alloc (.cells #[.int .i64 (N : Int), .slice B m d] 37)))
  have rq := (Reads.of_own hoq).below (by go_grown : Below w1.heap.size w1 (w1.alloc (.cells #[.int .i64 (N : Int), .slice B m d] 37)))
  have hx := Row.new w1 37 [.int .i64 (N : Int), .slice B m d]
  have hB := hb.alloc hb.size (.cells #[.int .i64 (N : Int), .slice B m d] 37)
  clear hol hop hoq hpp hpq hb hll hml hlpq GF hsy hsk hT
  go_wp2_with fail
  refine (impl_StepSize rp hN rq hN).mono ?_
  rintro e w2 ⟨rfl, hb⟩
  rw [HT.out]
  replace rl := rl.below hb
  replace rp := rp.below hb
  replace rq := rq.below hb
  replace hx := hx.below hb
  replace hB := hB.trans (hb.mono hB.size)
  clear hb
  go_wp2_with fail
  refine (impl_HighestPose rp hN rq hN).mono ?_
  rintro e w3 ⟨A3, k3, c3, rfl, ho3, hk3, hb⟩
  rw [HH.out] at ho3
  have e3 : N = k3 := by have := own_len ho3; have := HLH.out; have := HLP.out; omega
  subst e3
  have rh := Reads.of_own ho3
  replace rl := rl.below hb
  replace rp := rp.below hb
  replace rq := rq.below hb
  replace hx := hx.below hb
  replace hB := hB.trans (hb.mono hB.size)
  clear hb
  clear ho3
  go_wp2_with fail
  refine (impl_LowerPose rp hN rq hN).mono ?_
  rintro e w4 ⟨A4, k4, c4, rfl, ho4, hk4, hb⟩
  rw [HL.out] at ho4
  have e4 : N = k4 := by have := own_len ho4; have := HLL.out; have := HLP.out; omega
  subst e4
  have rw4 := Reads.of_own ho4
  replace rl := rl.below hb
  replace rp := rp.below hb
  replace rq := rq.below hb
  replace rh := rh.below hb
  replace hx := hx.below hb
  replace hB := hB.trans (hb.mono hB.size)
  clear hb
  clear ho4
  go_wp2_with fail
  refine (impl_MiddlePose rp hN rq hN).mono ?_
  rintro e w5 ⟨A5, k5, c5, rfl, ho5, hk5, hb⟩
  rw [HM.out] at ho5
  have e5 : N = k5 := by have := own_len ho5; have := HLM.out; have := HLP.out; omega
  subst e5
  have rm := Reads.of_own ho5
  replace rl := rl.below hb
  replace rp := rp.below hb
  replace rq := rq.below hb
  replace rh := rh.below hb
  replace rw4 := rw4.below hb
  replace hx := hx.below hb
  replace hB := hB.trans (hb.mono hB.size)
  clear hb
  clear ho5
  have g0 : decide (T < 0) = false := decide_eq_false (by omega)
  go_wp2_with fail
  refine (impl_StepSize rq hN rp hN).mono ?_
  rintro e w6 ⟨rfl, hb⟩
  rw [HTS.out]
  replace rl := rl.below hb
  replace rp := rp.below hb
  replace rq := rq.below hb
  replace rh := rh.below hb
  replace rw4 := rw4.below hb
  replace rm := rm.below hb
  replace hx := hx.below hb
  replace hB := hB.trans (hb.mono hB.size)
  clear hb
  have q0 := hx.cell_ (i := 0) rfl
  have q1 := hx.cell_ (i := 1) rfl
  go_wp2_with fail
  refine (spec_PoseOk rl hm rh hN).mono ?_
  rintro e w7 ⟨rfl, hb⟩
  rw [HH1.out]
  replace rl := rl.below hb
  replace rp := rp.below hb
  replace rq := rq.below hb
  replace rh := rh.below hb
  replace rw4 := rw4.below hb
  replace rm := rm.below hb
  replace hx := hx.below hb
  replace hB := hB.trans (hb.mono hB.size)
  clear hb
  clear q0 q1
  have q0 := hx.cell_ (i := 0) rfl
  have q1 := hx.cell_ (i := 1) rfl
  go_wp2_with fail
  refine (spec_PoseOk rl hm rw4 hN).mono ?_
  rintro e w8 ⟨rfl, hb⟩
  rw [HL1.out]
  replace rl := rl.below hb
  replace rp := rp.below hb
  replace rq := rq.below hb
  replace rh := rh.below hb
  replace rw4 := rw4.below hb
  replace rm := rm.below hb
  replace hx := hx.below hb
  replace hB := hB.trans (hb.mono hB.size)
  clear hb
  clear q0 q1 g0
  go_wp2
  go_loopw [10] (fun jv w' => ∃ j x : Nat, j ≤ N ∧ jv = .int .i64 j ∧ w' = w8.drewN x) (fun jv _ => N - (intOf jv).toNat)
  case atStart => exact ⟨0, 0, by omega, rfl, rfl⟩
  case round =>
    obtain ⟨j, x, hj, rfl, rfl⟩ := hrel
    by_cases hlt : j < N
    · obtain ⟨b1, o1, a, rfl, hb1, ha, ca⟩ := rp.int hlt
      obtain ⟨b2, o2, z, rfl, hb2, hz, cz⟩ := rq.int hlt
      obtain ⟨b3, o3, hv, rfl, hb3, hh, ch⟩ := rh.int hlt
      obtain ⟨b4, o4, lv, rfl, hb4, hl, cl⟩ := rw4.int hlt
      obtain ⟨b5, o5, mv, rfl, hb5, hmv, cm⟩ := rm.int hlt
      have jl : j < ps.length := by have := HLP.out; omega
      rw [bothTo_get HLE.out ha hz _ jl (Nat.le_refl _)] at hh hl hmv
      obtain ⟨a1, a2⟩ := inAll_at FP.out ha
      obtain ⟨z1, z2⟩ := inAll_at FQ.out hz
      have vh : hv = max a z := (Option.some.inj hh).symm
      have vl : lv = min a z := (Option.some.inj hl).symm
      have vm : mv = (a + z) / 2 := (Option.some.inj hmv).symm
      have r1 : IntKind.i64.wrap (hv + lv) = a + z := by rw [IntWalk.i64_in _ (by omega)]; omega
      have r2 : IntKind.i64.wrap (a + z) = a + z := IntWalk.i64_in _ (by omega)
      have r3 : IntKind.i64.wrap (2 * mv) = 2 * mv := IntWalk.i64_in _ (by omega)
      have r4 : IntKind.i64.wrap (a + z - 1) = a + z - 1 := IntWalk.i64_in _ (by omega)
      have g1 : decide (a + z < 2 * mv) = false := decide_eq_false (by omega)
      have g2 : decide (2 * mv < a + z - 1) = false := decide_eq_false (by omega)
      have lj : (j : Int) < (N : Int) := by omega
      clear ha hz hh hl hmv vh vl vm jl
      go_wp2
      go_quiet (fail)
      go_wp2
      go_roundw
      case rel => exact ⟨j + 1, _, by omega, by go_num, rfl⟩
      case measure => simp [intOf]; omega
    · obtain rfl : j = N := by omega
      have hB := below_drewN hB x
      replace rl := rl.drewN x
      replace rp := rp.drewN x
      replace rq := rq.drewN x
      replace hx := hx.drewN x
      clear rh rw4 rm
      have q0 := hx.cell_ (i := 0) rfl
      have q1 := hx.cell_ (i := 1) rfl
      go_wp2_with fail
      refine (impl_Smoothed rl hm rp hN rq hN).mono ?_
      rintro e w9 ⟨A7, k7, c7, rfl, ho7, ht7, hb⟩
      have rs := ho7.reads
      replace rl := rl.below hb
      replace rp := rp.below hb
      replace rq := rq.below hb
      replace hx := hx.below hb
      replace hB := hB.trans (hb.mono hB.size)
      clear hb
      clear q0 q1 ho7
      have hlen := rs.len
      have G := HGF.out
      have hg1 := G.len
      have hg2 := G.pos
      have HFI := Lib.hid G.first
      have HLA := Lib.hid G.last
      have HPO := Lib.hid G.pose
      have HST := Lib.hid G.step
      have HGE := Lib.hid G.gest
      generalize smoothed (j : Int) ls ps qs 12 = S at *
      obtain ⟨Kq, rfl⟩ : ∃ q, k7 = q + 1 := ⟨k7 - 1, by omega⟩
      have t1 : (T + 11) / 12 = (Kq : Int) := by omega
      have t2 : (T + 11).tdiv 12 = (Kq : Int) := by rw [Int.tdiv_eq_ediv_of_nonneg (by omega)]; exact t1
      have e1 : (((Kq : Int) + 1) == 0) = false := by simp; omega
      have e2 : (((Kq : Int) + 1) != 1 + (Kq : Int)) = false := by simp; omega
      have HLEN := Lib.hid hlen
      have hk4 : Kq + 1 ≤ 1048576 := by omega
      have HTT := Lib.hid ht7
      clear hlen G hg1 hg2 HGF ht7
      obtain ⟨b, o, s0, x0, rfl, hbB, hx0, c0, hr0, hr1⟩ := rs.row (k := 0) (by omega)
      obtain ⟨b', o', sL, xL, hA', hbB', hxL, cL, hs0, hs1⟩ := rs.row (k := Kq) (by omega)
      injection hA' with hA'
      injection hA' with hA1 hA2 _
      subst hA1 hA2
      obtain rfl : x0 = ps := by rw [HFI.out] at hx0; exact (Option.some.inj hx0).symm
      obtain rfl : xL = qs := by have := HLA.out; rw [show S.length - 1 = Kq by have := HLEN.out; omega, hxL] at this; exact Option.some.inj this
      have i0 : s0.n ≤ 1048576 := by have := HLP.out; omega
      have iL : sL.n ≤ 1048576 := by have := HLQ.out; omega
      obtain ⟨sA, sn, sc⟩ := s0
      obtain ⟨uA, un, uc⟩ := sL
      simp only at c0 hr0 i0 cL hs0 iL
      rw [Nat.add_zero] at c0
      have lK : (0 : Int) < (Kq : Int) + 1 := by omega
      clear hx0 hxL hr1 hs1
      go_wp2_with fail
      refine (laws_sameInts_t hr0 rp i0).mono ?_
      rintro e w10 ⟨rfl, hb⟩
      replace cL := keep_cell hb cL
      replace hs0 := hs0.below hb
      replace rs := rs.below hb
      replace rl := rl.below hb
      replace rp := rp.below hb
      replace rq := rq.below hb
      replace hx := hx.below hb
      replace hB := hB.trans (hb.mono hB.size)
      clear hb
      clear hr0 c0
      go_wp2_with fail
      refine (laws_sameInts_t hs0 rq iL).mono ?_
      rintro e w11 ⟨rfl, hb⟩
      replace rs := rs.below hb
      replace rl := rl.below hb
      replace hx := hx.below hb
      replace hB := hB.trans (hb.mono hB.size)
      clear hb
      clear hs0 cL e1 e2 t1 t2 rp rq
      go_wp2
      go_loopw [12] (fun kv wr => ∃ k : Nat, 1 ≤ k ∧ kv = .int .i64 k ∧ Row wr w1.heap.size 37 [.int .i64 (j : Int), .slice B m d] ∧ Below w11.heap.size w11 wr) (fun kv _ => Kq + 2 - (intOf kv).toNat)
      case atStart => exact ⟨1, by omega, rfl, hx, Below.refl _ _⟩
      case round =>
        clear hx
        obtain ⟨k, hk, rfl, hx, hbel⟩ := hrel
        have q0 := hx.cell_ (i := 0) rfl
        have q1 := hx.cell_ (i := 1) rfl
        by_cases hlt : k < Kq + 1
        · obtain ⟨p, rfl⟩ : ∃ p, k = p + 1 := ⟨k - 1, by omega⟩
          have rs1 := rs.below hbel
          have rl1 := rl.below hbel
          obtain ⟨b2, o2, s1, x1, hA1, hbB1, hx1, c1, hr1, hn1⟩ := rs1.row (k := p + 1) hlt
          obtain ⟨b3, o3, s2, x2, hA2, hbB2, hx2, c2, hr2, hn2⟩ := rs1.row (k := p) (by omega)
          injection hA1 with hA1
          injection hA1 with h1 h2 _
          subst h1 h2
          injection hA2 with hA2
          injection hA2 with h1 h2 _
          subst h1 h2
          have hst := HST.out p x2 x1 hx2 hx1
          have HP1 := Lib.hid (HPO.out _ x1 hx1)
          have hl1 := (poseFacts HP1.out).len
          have hl2 := (poseFacts (HPO.out _ x2 hx2)).len
          have i1 : s1.n ≤ 1048576 := by omega
          have i2 : s2.n ≤ 1048576 := by omega
          obtain ⟨sA, sn, sc⟩ := s1
          obtain ⟨uA, un, uc⟩ := s2
          simp only at c1 hr1 i1 c2 hr2 i2
          obtain ⟨v, hv⟩ : ∃ v, v = stepSize x2 x1 := ⟨_, rfl⟩
          rw [← hv] at hst
          have cS : ∀ dd os, Calls Try.prog 12 #[.slice uA un uc, .slice sA sn sc] (grow (redrawn wr dd) os) fun e w' => e = .returned (.int .i64 v) ∧ ∃ p : Regrown, w' = grow (redrawn wr p.d) p.os :=
            fun dd os => by rw [hv]; exact Calls.regrown_of (impl_StepSize (hr2.below (below_regrown wr dd os)) i2 (hr1.below (below_regrown wr dd os)) i1)
          have cP : ∀ dd os, Calls Try.prog 37 #[.agg #[.int .i64 (j : Int), .slice B m d], .slice sA sn sc] (grow (redrawn wr dd) os) fun e w' => e = .returned (.bool true) ∧ ∃ p : Regrown, w' = grow (redrawn wr p.d) p.os :=
            fun dd os => by rw [← HP1.out]; exact Calls.regrown_of (spec_PoseOk (rl1.below (below_regrown wr dd os)) hm (hr1.below (below_regrown wr dd os)) i1)
          have q0' := cell_regrown q0
          have q1' := cell_regrown q1
          have c1' := cell_regrown c1
          have c2' := cell_regrown c2
          have g1 : decide (12 < v) = false := decide_eq_false (by omega)
          have l1 : (p : Int) + 1 < (Kq : Int) + 1 := by omega
          have l2 : (p : Int) < (Kq : Int) + 1 := by omega
          have t3 : IntKind.i64.wrap ((p : Int) + 1 - 1) = (p : Int) := by rw [IntWalk.i64_in _ (by omega)]; omega
          have t4 : ((p : Int) + 1).toNat = p + 1 := by omega
          clear hx1 hx2 hl1 hl2 hn1 hn2 hst hv hr1 hr2
          go_wp2
          refine wp_region_quiet_below (by kernel_rfl) (by kernel_rfl) ?_
          repeat (go_big_quiet_step ((first | (go_at_call 12; exact cS _ _) | (go_at_call 37; exact cP _ _))))
          refine wpQuiet_nil ?_
          intro _ hw'
          obtain ⟨⟨dq, osq⟩, hw''⟩ := hw'
          subst hw''
          have hb := below_regrown wr dq osq
          have hx2 := hx.below hb
          have hbel2 := hbel.trans (hb.mono hbel.size)
          clear cS cP q0 q1 q0' q1' c1 c2 c1' c2' t3 hb
          go_wp2
          go_roundw
          case rel => exact ⟨p + 1 + 1, by omega, by go_num, hx2, hbel2⟩
          case measure => simp [intOf]; omega
        · have l1 : ¬ (k : Int) < (Kq : Int) + 1 := by omega
          have rs1 := rs.below hbel
          have rl1 := rl.below hbel
          have HG2 : Hid (gestOk (j : Int) ls S 12 = decide ((Kq : Int) + 1 ≤ 20)) := Lib.hid (by
            rw [HGE.out]
            have := HLEN.out
            by_cases h : S.length ≤ 20
            · rw [decide_eq_true h, decide_eq_true (by omega)]
            · rw [decide_eq_false h, decide_eq_false (by omega)])
          go_wp2_with fail
          refine (impl_IsGesture rl1 hm rs1 HTT.out).mono ?_
          rintro e w12 ⟨rfl, hb⟩
          rw [HG2.out]
          have hB := hB.trans ((hbel.trans (hb.mono hbel.size)).mono hB.size)
          clear hb hbel
          go_wp2
          go_ret
          exact ⟨ret_bool (by simp), hB⟩

set_option maxRecDepth 100000 in
theorem lifted (os : Os) (started : os.Started) (H : Type) (enc : TypeId × Value → H) :
    ReturnsInHanded {} Try.checked os 9 .any (Rows.fnGesturesSpec.pre6 enc Try.prog Try.f9 Rows.fnGesturesRow.domain false) (Rows.fnGesturesSpec.post enc Try.prog Try.f9 false true false false) := by
  refine returnsInHanded_of_change (C := Try.checked) own started (by kernel_rfl) Try.func9
    (ChangeSpec.witness6 (enc := enc) (C := Try.checked) false ⟨#[], #[.slice none 0 0], []⟩ 8 (by kernel_rfl) (by kernel_rfl) (by kernel_rfl) (by kernel_rfl)) ?_
  intro W base args ds gs before hval0 hW hcnd _
  have hval : ∀ (j : Nat) t v, Try.f9.params[j]? = some t → args[j]? = some v → Value.okWide Try.prog W .any base t v := hval0
  have hW' := hW
  obtain ⟨p, q, hA0, hV, rfl, hfz, hnd⟩ := hW
  have hA : DataW.TrodAll enc Try.prog W 0 (fun _ => true) true Try.f9.params.toList args.toList ds p := hA0
  rw [Try.params9] at hA hval
  obtain ⟨v0, vs0, d0, ds0, p0, q0, hargs, rfl, rfl, h0, r0⟩ := trodAll_cons hA
  obtain ⟨rfl, rfl, rfl⟩ := trodAll_nil r0
  obtain rfl : args = #[v0] := by cases args; simp_all
  obtain ⟨rfl, rfl⟩ := trodVars_none hV
  obtain ⟨A0, n0, c0, xs0, rfl, g0, m0, u0⟩ := open_byteA (hval 0 46 v0 rfl rfl) h0
  refine (walk A0 n0 c0 xs0 W g0 m0 u0).mono fun e W' ⟨he, hb⟩ => ?_
  subst he
  exact ⟨_, rfl, post_true laidOut rfl hW' rfl (by rw [Try.params9]; intro t ht; simp only [List.mem_cons, List.not_mem_nil, or_false] at ht; rcases ht with rfl <;> exact ⟨by kernel_rfl, of_decide_eq_true (by kernel_rfl)⟩) Try.underlying4 (by kernel_rfl) hb⟩

theorem over : Rows.fnGesturesRow.holds Try.pinned (OpenSpec.ofChange Rows.fnGesturesSpec) :=
  OpenClaim.holds_of_wide 9 Try.f9 rfl rfl rfl rfl rfl rfl rfl ⟨rfl, rfl, rfl, rfl, rfl⟩ rfl rfl rfl rfl rfl (by kernel_rfl) Try.func9 (by kernel_rfl)
    (of_decide_eq_true (by kernel_rfl)) (by unfold Func.isWrapper; first | (rw [if_pos (by decide +kernel)]; kernel_rfl) | (rw [if_neg (by decide +kernel)]; exact ⟨rfl, rfl⟩))
    (fun os started H enc _ => lifted os started H enc)

theorem proved : Rows.FnGesturesSaid := over
end Go.Proofs.Ytcdachkaalkjlaa.FnGestures
