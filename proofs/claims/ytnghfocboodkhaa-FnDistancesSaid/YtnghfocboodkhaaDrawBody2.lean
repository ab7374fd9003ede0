/- The draw of a valid body; no condition beyond the length of the code. -/
import Derived.Test.YtnghfocboodkhaaDrawBody
import Derived.IntWalk
namespace Go.Proofs.Ytnghfocboodkhaa
open Go.ChangeShapes Go.WideShapes Go.ChangeAt Go.RowKit Go.Deep Go.Joins
set_option maxRecDepth 100000

/-- A valid body, and what became of the cursor. -/
def DrawnBody (W0 w : World) (G : Nat) (A : Option Addr) (n c : Nat) (bs : List Int) (e : Ending) (w' : World) : Prop :=
  ∃ (N : Int) (ls : List Lb) (B : Option Addr) (m d : Nat), e = .returned (.agg #[.int .i64 N, .slice B m d]) ∧ w'.ownsRow w.heap.size 52 3 (.slice B m d) m (lbs ls) ∧ bodyOk N ls = true ∧ Cur W0 w' G A n c bs

set_option maxHeartbeats 4000000 in
theorem spec_l02Body {W0 w : World} {G n c : Nat} {A : Option Addr} {bs : List Int} (hc : Cur W0 w G A n c bs) :
    Calls Try.prog 64 #[.pointer (some ⟨G, 0, none⟩)] w (DrawnBody W0 w G A n c bs) := by
  have zG := hc.lt
  have hR := Row.new w 24 [.int .i64 0, .slice none 0 0]
  have HC := Lib.hid (hc.alloc (.cells #[.int .i64 0, .slice none 0 0] 24))
  clear hc
  go_enter Try.func64, Try.ntmps64
  go_wp2_with fail
  refine (spec_l01Once HC.out (by omega) (by omega)).mono ?_
  rintro e w1 ⟨b, rfl, hc1, hg1⟩
  have hR1 := row_cur hR hg1 (by omega)
  have z1 := hg1.size
  simp only [World.size_alloc] at z1
  have HC1 := Lib.hid hc1
  clear hR hc1 hg1 HC
  cases b with
  | true =>
    go_wp2_with fail
    refine spec_SampleBody.mono ?_
    rintro e w2 ⟨g, rfl, ho, hb⟩
    have hR2 := hR1.below hb
    have zR := hR1.lt
    have z2 := hb.size
    have s0 := hR2.cell_ (i := 0) rfl
    have s1 := hR2.cell_ (i := 1) rfl
    have f0 := hR2.frozen 0
    have f1 := hR2.frozen 1
    have HC2 := Lib.hid (HC1.out.below hb)
    clear hb
    go_wp2
    refine bodyPost_ret (v := .agg #[.int .i64 7, .slice (some ⟨g, 0, none⟩) 6 6]) (by simp [results, Try.results64, go_sem, s0, s1]) rfl ⟨7, sampleLbs, _, 6, 6, rfl, ?_, sample_ok, ?_⟩
    · exact ownsRow_le (ownsRow_setCell_below (ownsRow_setCell_below ho zR _) zR _) (by omega)
    · exact (HC2.out.set_far (p := ⟨w.heap.size, 0, none⟩) (by have := HC2.out.base.size; have := HC2.out.lo; simp; omega) (by simp; omega) _).set_far (p := ⟨w.heap.size, 1, none⟩) (by have := HC2.out.lo; simp; omega) (by simp; omega) _
  | false =>
    have hB := Row.new w1 24 [.int .i64 1, .slice none 0 0]
    have hR2 := hR1.alloc (.cells #[.int .i64 1, .slice none 0 0] 24)
    have HC2 := Lib.hid (HC1.out.alloc (.cells #[.int .i64 1, .slice none 0 0] 24))
    have zR := hR1.lt
    clear hR1 HC1
    go_wp2_with fail
    refine (l01Below_nat (N := 7) HC2.out (by omega) (by omega) (by omega)).mono ?_
    rintro e w2 ⟨k0, hk0, rfl, hc2, hg2⟩
    have hB2 := row_cur hB hg2 (by omega)
    have hR3 := row_cur hR2 hg2 (by omega)
    have HC3 := Lib.hid hc2
    have z2 := hg2.size
    simp only [World.size_alloc] at z2
    clear hB hR2 hc2 hg2 HC2
    go_wp2
    go_loopw [4] (fun kv wr => ∃ (k : Nat) (N : Int) (ls : List Lb) (B : Option Addr) (m d : Nat), k ≤ k0 ∧ kv = .int .i64 k ∧ Row wr w1.heap.size 24 [.int .i64 N, .slice B m d] ∧ wr.ownsRow w.heap.size 52 3 (.slice B m d) m (lbs ls) ∧ bodyOk N ls = true ∧ Row wr w.heap.size 24 [.int .i64 0, .slice none 0 0] ∧ Cur W0 wr G A n c bs ∧ w.heap.size ≤ wr.heap.size) (fun kv _ => (intOf kv).toNat)
    case atStart => exact ⟨k0, 1, [], none, 0, 0, by omega, rfl, hB2, World.ownsRow_nil _ _ _ _, one_ok, hR3, HC3.out, by omega⟩
    case round =>
      obtain ⟨k, N, ls, B, m, d, hk, rfl, hBx, hown, hok, hRx, hcur, hz⟩ := hrel
      clear hB2 hR3 HC3
      by_cases hpos : 0 < k
      · have hs := body_short hok
        obtain ⟨Nn, rfl⟩ := Int.eq_ofNat_of_zero_le (show 0 ≤ N by omega)
        have hml : m = ls.length := by have := hown.1; rw [lbs_length] at this; omega
        have hm12 : m ≤ 1048576 := by omega
        have hn1 : 1 ≤ Nn := by omega
        have hn12 : Nn ≤ 12 := by omega
        have q0 := hBx.cell_ (i := 0) rfl
        have q1 := hBx.cell_ (i := 1) rfl
        have HOK := Lib.hid hok
        have HCU := Lib.hid hcur
        have HBX := Lib.hid hBx
        have HRX := Lib.hid hRx
        have HOW := Lib.hid hown
        have bA := own_blk hown
        have ne1 : w1.heap.size ≠ G := by omega
        have ne2 : w.heap.size ≠ G := by omega
        have hpi : (0 : Int) < (k : Int) := by omega
        have zB := hBx.lt
        clear hok hcur hs hml hBx hRx hown
        go_wp2
        go_region_law
          (first
            | (go_simp; go_at_call_of 70 (Value.int .i64 9); refine (l01Below_nat (N := 9) HC5.out (by omega) (by omega) (by omega)).mono ?_; rintro e w5 ⟨j2, hj2, rfl, hc6, hg6⟩; have b0 := cell_cur hg6 a0 ne1; have b1 := cell_cur hg6 a1 ne1; have i1 : IntKind.i64.wrap (1 + (j2 : Int)) = 1 + (j2 : Int) := IntWalk.i64_in _ (by omega); have HC6 := Lib.hid hc6; have ho5 := own_cur ho4 hg6 bA zG; have z5 := hg6.size; have hB5 := row_cur hB4 hg6 ne1; have hR5 := row_cur hR4 hg6 ne2; clear hc6 hg6)
            | (go_simp; go_at_call 70; refine (l01Below_nat (N := Nn) (HCU.out.drewN _) rfl (by omega) (by omega)).mono ?_; rintro e w4 ⟨j1, hj1, rfl, hc5, hg5⟩; have a0 := cell_cur hg5 q0 ne1; have a1 := cell_cur hg5 q1 ne1; have HC5 := Lib.hid hc5; have ho4 := own_cur (own_drewN HOW.out _) hg5 bA zG; have z4 : wr.heap.size ≤ w4.heap.size := hg5.size; have hB4 := row_cur (HBX.out.drewN _) hg5 ne1; have hR4 := row_cur (HRX.out.drewN _) hg5 ne2; clear hc5 hg5)
            | (go_simp; go_at_call 71; refine (spec_AddLimb (Reads.of_own ho5) hm12 HOK.out (by omega) (by omega)).mono ?_; rintro e w6 ⟨N2, ls2, A6, m6, c6, ok6, rfl, ho6, hok6, hb6⟩; have e0 := keep_cell hb6 b0; have e1 := keep_cell hb6 b1; have hB6 := hB5.below hb6; have hR6 := hR5.below hb6; have f0 := hB6.frozen 0; have f1 := hB6.frozen 1; have HC7 := Lib.hid (HC6.out.below hb6); have z6 := hb6.size; clear hb6)
            | (fail "no arm"))
        all_goals
          have hB7 := hB6.set 0 (.int .i64 N2)
          have hB8 := hB7.set 1 (.slice A6 m6 c6)
          simp only [List.set_cons_succ, List.set_cons_zero] at hB8
          have hR7 := (hR6.far (p := ⟨w1.heap.size, 0, none⟩) (by simp; omega) (.int .i64 N2)).far (p := ⟨w1.heap.size, 1, none⟩) (by simp; omega) (.slice A6 m6 c6)
          have ho7 := own_set_row (i := 1) (own_set_row (i := 0) ho6 hB6 (by decide) (.int .i64 N2)) hB7 (by decide) (.slice A6 m6 c6)
          have hC8 := (HC7.out.set_far (p := ⟨w1.heap.size, 0, none⟩) (by have := HC7.out.lo; simp; omega) ne1 (.int .i64 N2)).set_far (p := ⟨w1.heap.size, 1, none⟩) (by have := HC7.out.lo; simp; omega) ne1 (.slice A6 m6 c6)
          have HB8 := Lib.hid hB8
          have HR7 := Lib.hid hR7
          have HO7 := Lib.hid ho7
          have HC8 := Lib.hid hC8
          have HK6 := Lib.hid hok6
          clear hB7 hB8 hR7 ho7 hC8 hok6 hB6 hR6 ho6 ho4 ho5 hB4 hB5 hR4 hR5 HC5 HC6 HC7
          go_wp2
          go_roundw
          case rel => exact ⟨k - 1, N2, ls2, A6, m6, c6, by omega, by go_num, HB8.out, ownsRow_le HO7.out (by omega), HK6.out, HR7.out, HC8.out, by simp; omega⟩
          case measure => simp [intOf]; omega
      · obtain rfl : k = 0 := by omega
        have q0 := hBx.cell_ (i := 0) rfl
        have q1 := hBx.cell_ (i := 1) rfl
        have s0 := hRx.cell_ (i := 0) rfl
        have s1 := hRx.cell_ (i := 1) rfl
        have f0 := hRx.frozen 0
        have f1 := hRx.frozen 1
        have HOK := Lib.hid hok
        have HCU := Lib.hid hcur
        clear hok hcur
        go_wp2
        refine bodyPost_ret (v := .agg #[.int .i64 N, .slice B m d]) (by simp [results, Try.results64, go_sem, s0, s1]) rfl ⟨N, ls, B, m, d, rfl, ?_, HOK.out, ?_⟩
        · exact own_set_row (own_set_row hown hRx (by decide) _) (hRx.set 0 _) (by decide) _
        · exact (HCU.out.set_far (p := ⟨w.heap.size, 0, none⟩) (by have := HCU.out.lo; simp; omega) (by simp; omega) _).set_far (p := ⟨w.heap.size, 1, none⟩) (by have := HCU.out.lo; simp; omega) (by simp; omega) _
end Go.Proofs.Ytnghfocboodkhaa
