/- The contract of the reference's Smoothed; no condition beyond the slices' lengths. -/
import Derived.Test.YtcdachkaalkjlaaSmoothI
namespace Go.Proofs.Ytcdachkaalkjlaa
open Go.ChangeShapes Go.WideShapes Go.ChangeAt Go.RowKit Go.Deep Go.Joins
set_option maxRecDepth 100000

theorem one_row {w : World} {base n c : Nat} {A : Option Addr} {xs : List Int} {X v : Int} (h : w.ownsRow base 3 1 (.slice A n c) n (ints xs ++ [.int .i64 X])) (e : X = v) : w.ownsRow base 3 1 (.slice A n c) n (ints (xs ++ [v])) := by
  subst e
  rw [ints_append]
  exact h

set_option maxHeartbeats 2000000 in
theorem spec_Smoothed {n mo : Int} {A B C : Option Addr} {m c q d r f : Nat} {ls : List Lb} {ps qs : List Int} {w : World} (hr : Reads w 3 A m (lbs ls)) (hm : m ≤ 1048576) (hp : Reads w 1 B q (ints ps)) (hq : q ≤ 1048576) (hs : Reads w 1 C r (ints qs)) (hrr : r ≤ 1048576) :
    Calls Try.prog 30 #[.agg #[.int .i64 n, .slice A m c], .slice B q d, .slice C r f, .int .i64 mo] w fun e w' => ∃ A' n' c', e = .returned (.slice A' n' c') ∧ OwnsSS w' w.heap.size w'.heap.size A' n' c' (smoothed n ls ps qs mo) ∧ n' + totSS (smoothed n ls ps qs mo) ≤ 1048576 ∧ Below w.heap.size w w' := by
  have hx := (Row.new w 37 [.int .i64 n, .slice A m c]).alloc (.cells #[] 22)
  have hS := own_emptyS2 (w.alloc (.cells #[.int .i64 n, .slice A m c] 37)) (w.heap.size + 1)
  rw [World.size_alloc] at hS
  go_enter Try.func30, Try.ntmps30
  go_wp2_with fail
  refine (spec_PoseOk (hr.below (by go_grown)) hm (hp.below (by go_grown)) hq).mono ?_
  rintro e w1 ⟨rfl, hb1⟩
  have hB : Below w.heap.size w w1 := (by go_grown : Below w.heap.size w _).trans (hb1.mono (by simp; omega))
  have z1 := hb1.size
  simp only [World.size_alloc] at z1
  replace hx := hx.below hb1
  replace hS := hS.below hb1
  clear hb1
  rcases Bool.eq_false_or_eq_true (poseOk n ls ps) with hbo | hbo
  rotate_left
  · have S := Lib.hid (smooth_no1 (q := qs) (m := mo) hbo)
    rw [hbo]
    clear hbo hx
    go_wp2
    go_ret
    exact ⟨_, 0, 0, rfl, by rw [S.out]; exact (hS.SS (Nat.le_refl _)).lower (by omega), by rw [S.out]; simp [totSS], hB⟩
  rw [hbo]
  have HO := Lib.hid hbo
  clear hbo
  have q0 := hx.cell_ (i := 0) rfl
  have q1 := hx.cell_ (i := 1) rfl
  go_wp2_with fail
  refine (spec_PoseOk (hr.below hB) hm (hs.below hB) hrr).mono ?_
  rintro e w2 ⟨rfl, hb2⟩
  have hB2 := hB.trans (hb2.mono hB.size)
  have z2 := hb2.size
  replace hS := hS.below hb2
  clear q0 q1 hb2 hB hx
  rcases Bool.eq_false_or_eq_true (poseOk n ls qs) with hbo | hbo
  rotate_left
  · have S := Lib.hid (smooth_no2 (p := ps) (m := mo) hbo)
    rw [hbo]
    clear hbo
    go_wp2
    go_ret
    exact ⟨_, 0, 0, rfl, by rw [S.out]; exact (hS.SS (Nat.le_refl _)).lower (by omega), by rw [S.out]; simp [totSS], hB2⟩
  rw [hbo]
  have HO2 := Lib.hid hbo
  clear hbo
  by_cases hmo : 10 ≤ mo ∧ mo ≤ 4000
  rotate_left
  · have S := Lib.hid (smooth_no3 (n := n) (ls := ls) (p := ps) (q := qs) (show mo < 10 ∨ 4000 < mo by omega))
    have hmo2 : mo < 10 ∨ 4000 < mo := by omega
    clear hmo
    go_wp2_with fail
    refine (l01In_f _ _ _ _ hmo2).mono ?_
    rintro e w' ⟨rfl, rfl⟩
    go_wp2
    go_ret
    exact ⟨_, 0, 0, rfl, by rw [S.out]; exact (hS.SS (Nat.le_refl _)).lower (by omega), by rw [S.out]; simp [totSS], hB2⟩
  obtain ⟨m1, m2⟩ := hmo
  have ST := Lib.hid (SmSt.start (smooth_yes3 HO.out HO2.out m1 m2))
  obtain ⟨i0, hi, hz0, hz1, hz2⟩ := info_parts info_ss
  obtain ⟨j0, hj, jz0, jz1, jz2⟩ := info_parts info_b
  have hlp := (poseFacts HO.out).len
  have hlq := (poseFacts HO2.out).len
  have hN12 := (tree_of (poseFacts HO.out).body).2.1
  have hl1 := hp.len
  have hl2 := hs.len
  have hq12 : q ≤ 12 := by omega
  have hr12 : r ≤ 12 := by omega
  have hpl : ps.length ≤ 12 := by omega
  clear hlp hlq hN12 hl1 hl2
  have hoE := own_empty w2 3 1
  have hps := hp.below hB2
  obtain ⟨rs, h1, h2, h3, h4⟩ := hS
  have H1 := Lib.hid h1
  have H2 := Lib.hid h2
  have H3 := Lib.hid h3
  have H4 := Lib.hid h4
  clear h1 h2 h3 h4
  go_wp2_with fail
  refine (l01In_t _ _ _ _ m1 m2).mono ?_
  rintro e w' ⟨rfl, rfl⟩
  go_wp2_with (at_builtin; refine wp_appn rfl _ _ 22 rfl w2.heap.size 3 j0 (.int .i64 0) 1 8 Try.underlying22 hj jz0 jz1 jz2 rfl (by decide) rfl hoE rfl (hps.below (by go_grown)) (ints_one _) (by unfold maxLen; omega) (by omega) (by simp) ?_; intro A3 c3 w3 hown3 hg3; refine Hid.out ?_)
  rw [Nat.zero_add, List.nil_append] at hown3
  have hb3 : Below w2.heap.size w2 w3 := bel_apart (by go_grown) hg3 (own_blk hoE) (Nat.le_refl _)
  have h13 := own_below H1.out hb3
  have bA3 := own_blk h13
  have hB3 := hB2.trans (hb3.mono hB2.size)
  have z3 := hb3.size
  clear hoE hg3
  refine Lib.hid ?_
  go_wp2_with (at_builtin; refine wp_app rfl _ _ 31 rfl (w.heap.size + 1) 22 i0 (.slice none 0 0) 1 24 Try.underlying31 hi hz0 hz1 hz2 rfl (by decide) rfl h13 [.slice A3 q c3] rfl (by simp [Value.oneCell']) rfl (by simp) (by unfold maxLen; omega) (by omega) (by omega) ?_; intro A4 c4 w4 hown4 hg4)
  have hS4 := S2_snoc (r := ⟨A3, q, c3⟩) H1.out H2.out H3.out H4.out hb3 hown3 (by omega) hg4 hown4
  have hB4 := bel_apart hB3 hg4 bA3 (by omega)
  have hn4 := (Reads.of_own hown3).grown hg4 fun b o e hc => own_neo hown3 h13 (by decide) e hc.symm
  have z4 := hg4.size
  clear hown3 hg4 hown4 h13 bA3 H1 H2 H3 H4 hb3
  go_loopw [9, 10] (fun ov nv wr => ∃ (out : List (List Int)) (now : List Int) (fu : Nat) (A' : Option Addr) (n' c' : Nat) (An : Option Addr) (nn cn : Nat), ov = .slice A' n' c' ∧ nv = .slice An nn cn ∧ SmSt n ls ps qs mo out now fu ∧ totSS out ≤ 12 * out.length ∧ OwnsS2 wr (w.heap.size + 1) (w.heap.size + 1) A' n' c' out ∧ Reads wr 1 An nn (ints now) ∧ nn ≤ 12 ∧ Below w.heap.size w wr ∧ w.heap.size + 1 ≤ wr.heap.size) (fun ov _ _ => 402 - lenV ov)
  case atStart => exact ⟨[ps], ps, 401, _, 1, _, _, q, c3, rfl, rfl, ST.out, by simp [totSS]; omega, hS4, hn4, hq12, hB4, by omega⟩
  case round =>
    obtain ⟨out, now, fu, A', n', c', An, nn, cn, rfl, rfl, hst, htot, hown, hnow, hnn, hbel, zwr⟩ := hrel
    clear hS4 hn4 hB4 hB3 hps
    have hcnt := hst.cnt
    have hlo := hown.len
    have htb : n' + totSS out ≤ 1048576 := by omega
    have hqr := hs.below hbel
    have hok := pose_step hst.ok hst.okq
    have hT := stepSize_yes hok
    have hTn := stepTo_nn now qs now.length
    have hln := hnow.len
    have HT : Hid (stepSize now qs = stepTo now qs now.length) := Lib.hid hT
    clear hT
    by_cases hne : now = qs
    · have hT0 : stepSize now qs = 0 := by rw [HT.out, hne]; exact stepTo_self _ _
      rw [hne] at hst
      have HD := Lib.hid hst.done
      have HT0 := Lib.hid hT0
      clear hst hne hT0 hTn HT hok hln
      go_wp2_with fail
      refine (spec_StepSize hnow (by omega) hqr hrr).mono ?_
      rintro e w5 ⟨rfl, hb5⟩
      rw [HT0.out]
      have hown5 := hown.below hb5
      have hbel5 := hbel.trans (hb5.mono hbel.size)
      clear hown hb5 hnow hqr
      go_wp2
      go_ret
      exact ⟨A', n', c', rfl, by rw [HD.out]; exact (hown5.SS (Nat.le_refl _)).lower (by omega), by rw [HD.out]; exact htb, hbel5⟩
    · obtain ⟨f', rfl⟩ := hst.pos hne
      have HST := Lib.hid (hst.next (by omega) hne)
      have hpos : 0 < stepTo now qs now.length := by
        have : stepTo now qs now.length ≠ 0 := fun e => hne (stepTo_zero hst.len e)
        omega
      have HLEN := Lib.hid hst.len
      have HNX : Hid (nx mo now qs = bothTo (clF mo) now qs nn) := Lib.hid (by rw [← hln]; rfl)
      have hln2 := nx_len (m := mo) hst.len
      obtain ⟨T, hTT⟩ : ∃ T, T = stepTo now qs now.length := ⟨_, rfl⟩
      rw [← hTT] at hpos HT
      have FN := Lib.hid (poseFacts hst.ok).rng
      have FQ := Lib.hid (poseFacts hst.okq).rng
      have HNR : Hid (nn = r) := Lib.hid (by have := hs.len; have := hst.len; omega)
      obtain ⟨rs, h1, h2, h3, h4⟩ := hown
      have H1 := Lib.hid h1
      have H2 := Lib.hid h2
      have H3 := Lib.hid h3
      have H4 := Lib.hid h4
      have HL := Lib.hid hln
      clear hst hne h1 h2 h3 h4 hok hTn hTT hln
      go_wp2_with fail
      refine (spec_StepSize hnow (by omega) hqr hrr).mono ?_
      rintro e w5 ⟨rfl, hb5⟩
      rw [HT.out]
      have h15 := own_below H1.out hb5
      have H35 : Hid (∀ (i : Nat) (r : Sl) (xs : List Int), rs[i]? = some r → out[i]? = some xs → w5.ownsRow (w.heap.size + 1) 3 1 (.slice r.A r.n r.c) r.n (ints xs)) := Lib.hid fun i r xs a b => own_below (H3.out i r xs a b) hb5
      have hn5 := hnow.below hb5
      have hq5 := hqr.below hb5
      have hbel5 := hbel.trans (hb5.mono hbel.size)
      have z5 : wr.heap.size ≤ w5.heap.size := hb5.size
      have ho5 := own_empty w5 3 1
      clear hb5 hnow hqr hbel H1 H3
      have H15 := Lib.hid h15
      clear h15
      go_wp2
      go_loopw [11, 12] (fun xv iv wi => ∃ (k : Nat) (A5 : Option Addr) (n5 c5 : Nat), k ≤ nn ∧ iv = .int .i64 k ∧ xv = .slice A5 n5 c5 ∧ n5 ≤ k ∧ wi.ownsRow w5.heap.size 3 1 (.slice A5 n5 c5) n5 (ints (bothTo (clF mo) now qs k)) ∧ Below w5.heap.size w5 wi) (fun _ iv _ => nn - (intOf iv).toNat)
      case atStart => exact ⟨0, _, 0, 0, by omega, rfl, rfl, by omega, ho5, by go_grown⟩
      case round =>
        obtain ⟨k, A5, n5, c5, hk, rfl, rfl, hnb, hox, hbi⟩ := hrel
        clear ho5
        by_cases hlt : k < nn
        · obtain ⟨b, o, a, rfl, hbB, ha, c0⟩ := hn5.int hlt
          obtain ⟨b', o', z, rfl, hbB', hz, c1⟩ := hq5.int (k := k) (by have := HNR.out; omega)
          replace c0 := keep_cell hbi c0
          replace c1 := keep_cell hbi c1
          have l1 : (k : Int) < (nn : Int) := by omega
          have l2 : (k : Int) < (r : Int) := by have := HNR.out; omega
          have HS := Lib.hid (bothTo_step (g := clF mo) ha hz)
          obtain ⟨a1, a2⟩ := inAll_at FN.out ha
          obtain ⟨b1, b2⟩ := inAll_at FQ.out hz
          have bA := own_blk hox
          have zw := hbi.size
          have hnm : n5 + 1 ≤ 1048576 := by omega
          have r1 : IntKind.i64.wrap (z - a) = z - a := IntWalk.i64_in _ (by omega)
          have r2 : IntKind.i64.wrap (-mo) = -mo := IntWalk.i64_in _ (by omega)
          clear ha hz
          have r3 : IntKind.i64.wrap (a + (if -mo < (if z - a < mo then z - a else mo) then (if z - a < mo then z - a else mo) else -mo)) = clF mo a z := by
            rw [IntWalk.i64_in _ (by omega)]
            unfold clF
            omega
          go_wp2
          go_region_held3 (fun w' => w'.cell? ⟨b, o + k, none⟩ = some (.int .i64 a) ∧ w'.cell? ⟨b', o' + k, none⟩ = some (.int .i64 z)) (first | go_keep | exact ⟨k0, k1⟩)
            ((refine step_app (wr.drewN _) (by rfl) _ _ 22 (by rfl) w5.heap.size 3 j0 (.int .i64 0) 1 8 Try.underlying22 hj jz0 jz1 jz2 rfl (by decide) (by rfl) (own_drewN hox _) [.int .i64 _] rfl (by simp [Value.oneCell']) (by rfl) (by rfl) (by unfold maxLen; omega) (by omega) zw (by rfl) ?_; intro g2 c2 w2 hown2 hg2; have k0 := grown_keep hg2 bA hbB c0; have k1 := grown_keep hg2 bA hbB' c1))
          clear k0 k1
          go_wp2
          go_roundw
          case rel => exact ⟨k + 1, _, n5 + 1, _, by omega, by go_num, rfl, by omega, by rw [HS.out]; exact one_row (by assumption) (by unfold clF; omega), bel_apart (below_drewN hbi _) (by assumption) bA (Nat.le_refl _)⟩
          case measure => simp [intOf]; omega
        · obtain rfl : k = nn := by omega
          rw [← HNX.out] at hox
          have hl5 := own_len hox
          have h16 := own_below H15.out hbi
          have bA6 := own_blk h16
          have hbel6 := hbel5.trans (hbi.mono hbel5.size)
          have zi := hbi.size
          have hn12 : n5 ≤ 12 := by have := HL.out; omega
          have hn402 : n' ≤ 402 := by omega
          have HLL := Lib.hid (And.intro hl5 (And.intro hln2 hlo))
          clear hl5 hln2 hlo
          go_wp2_with (at_builtin; refine wp_app rfl _ _ 31 rfl (w.heap.size + 1) 22 i0 (.slice none 0 0) 1 24 Try.underlying31 hi hz0 hz1 hz2 rfl (by decide) rfl h16 [.slice A5 n5 c5] rfl (by simp [Value.oneCell']) rfl (by simp) (by unfold maxLen; omega) (by omega) (by omega) ?_; intro A6 c6 w6 hown6 hg6)
          go_roundw
          case rel =>
            refine ⟨out ++ [nx mo now qs], nx mo now qs, f', A6, n' + 1, c6, A5, n5, c5, rfl, rfl, HST.out, ?_, ?_, ?_, hn12, ?_, ?_⟩
            · obtain ⟨hl5, hln2, hlo⟩ := HLL.out
              rw [totSS_app]; simp [totSS]; omega
            · exact S2_snoc (r := ⟨A5, n5, c5⟩) H15.out H2.out H35.out H4.out hbi hox (by omega) hg6 hown6
            · exact (Reads.of_own hox).grown hg6 fun b o e hc => own_neo hox h16 (by decide) e hc.symm
            · exact bel_apart hbel6 hg6 bA6 (by omega)
            · have := hg6.size; omega
          case measure => obtain ⟨_, _, hlo⟩ := HLL.out; simp [lenV]; omega
end Go.Proofs.Ytcdachkaalkjlaa
