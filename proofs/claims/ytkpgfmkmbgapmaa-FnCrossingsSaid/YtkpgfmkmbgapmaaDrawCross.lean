/- The draw of a number of puppets and valid crossings; no condition beyond the length of the code. -/
import Derived.Test.YtkpgfmkmbgapmaaDraw2
import Derived.Test.YtkpgfmkmbgapmaaCrossOk
namespace Go.Proofs.Ytkpgfmkmbgapmaa
open Go.ChangeShapes Go.WideShapes Go.ChangeAt Go.RowKit Go.Deep Go.Joins
set_option maxRecDepth 100000

/-- Crossings are between neighbours. -/
def InC (n : Int) (ls : List Cr) : Prop := ∀ x ∈ ls, 0 ≤ x.at_ ∧ x.at_ ≤ n - 2
theorem InC.snoc {n : Int} {ls : List Cr} {x : Cr} (h : InC n ls) (h1 : 0 ≤ x.at_) (h2 : x.at_ ≤ n - 2) : InC n (ls ++ [x]) := by
  intro y hy
  rcases List.mem_append.1 hy with hy | hy
  · exact h y hy
  · rw [List.mem_singleton.1 hy]; exact ⟨h1, h2⟩
def DrawnList (W0 w : World) (G : Nat) (A : Option Addr) (n c : Nat) (bs : List Int) (e : Ending) (w' : World) : Prop :=
  ∃ (N : Int) (ls : List Cr) (B : Option Addr) (m d : Nat), e = .returned (.tuple #[.int .i64 N, .slice B m d]) ∧ w'.ownsRow w.heap.size 49 2 (.slice B m d) m (crs ls) ∧ 2 ≤ N ∧ N ≤ 5 ∧ ls.length ≤ 9 ∧ InC N ls ∧ Cur W0 w' G A n c bs

set_option maxHeartbeats 4000000 in
theorem spec_l08List {W0 w : World} {G n c : Nat} {A : Option Addr} {bs : List Int} (hc : Cur W0 w G A n c bs) :
    Calls Try.prog 48 #[.pointer (some ⟨G, 0, none⟩)] w (DrawnList W0 w G A n c bs) := by
  obtain ⟨i0, hi, hz0, hz1, hz2⟩ := info_parts info_cross
  have zG := hc.lt
  have HC := Lib.hid hc
  clear hc
  go_enter Try.func48, Try.ntmps48
  go_wp2_with fail
  refine (spec_l01Below HC.out (by omega) (by omega)).mono ?_
  rintro e w1 ⟨v, v0, v1, rfl, hc1, hg1⟩
  have z1 : w.heap.size ≤ w1.heap.size := hg1.size
  have ho := own_empty w1 49 2
  have HC1 := Lib.hid (hc1.alloc (.cells #[] 49))
  obtain ⟨N, hN⟩ : ∃ N, N = 2 + v := ⟨_, rfl⟩
  have N2 : 2 ≤ N := by omega
  have N5 : N ≤ 5 := by omega
  clear hc1 hg1
  go_wp2_with fail
  refine (spec_l01Below HC1.out (by omega) (by omega)).mono ?_
  rintro e w2 ⟨k0, k00, k01, rfl, hc2, hg2⟩
  obtain ⟨k0, rfl⟩ := Int.eq_ofNat_of_zero_le k00
  have ho2 := ownsRow_le (own_cur ho hg2 (own_blk ho) (by omega)) z1
  have z2 : w.heap.size ≤ w2.heap.size := by have := hg2.size; simp only [World.size_alloc] at this; omega
  have HC2 := Lib.hid hc2
  rw [← hN]
  clear hc2 hg2 ho hN v0 v1
  go_wp2
  go_loopw [5, 6] (fun ov mv wr => ∃ (k : Nat) (B : Option Addr) (p d : Nat) (ls : List Cr), mv = .int .i64 k ∧ ov = .slice B p d ∧ p = ls.length ∧ p + k ≤ 9 ∧ InC N ls ∧ wr.ownsRow w.heap.size 49 2 (.slice B p d) p (crs ls) ∧ Cur W0 wr G A n c bs ∧ w.heap.size ≤ wr.heap.size) (fun _ mv _ => (intOf mv).toNat)
  case atStart => exact ⟨k0, _, 0, 0, [], rfl, rfl, rfl, by omega, fun x hx => by simp at hx, ho2, HC2.out, z2⟩
  case round =>
    obtain ⟨k, B, p, d, ls, rfl, rfl, hp, hpk, hin, hown, hcur, zr⟩ := hrel
    clear ho2
    have HIN := Lib.hid hin
    have HCU := Lib.hid hcur
    have HP := Lib.hid hp
    clear hin hcur hp
    rcases k with _ | k
    · go_wp2
      go_returns
      exact ⟨N, ls, B, p, d, rfl, hown, N2, N5, by have := HP.out; omega, HIN.out, HCU.out⟩
    · go_wp2_with fail
      refine (spec_l01Below (N := N - 1) HCU.out (by omega) (by omega)).mono ?_
      rintro e w3 ⟨x, x0, x1, rfl, hc3, hg3⟩
      have ho3 := own_cur hown hg3 (own_blk hown) (by omega)
      have z3 : w.heap.size ≤ w3.heap.size := by have := hg3.size; omega
      have HC3 := Lib.hid hc3
      clear hown hc3 hg3
      go_wp2_with fail
      refine (spec_l01Once HC3.out (by omega) (by omega)).mono ?_
      rintro e w4 ⟨b, rfl, hc4, hg4⟩
      have ho4 := own_cur ho3 hg4 (own_blk ho3) (by omega)
      have z4 : w.heap.size ≤ w4.heap.size := by have := hg4.size; omega
      have hbx := Row.new w4 49 [.int .i64 x, .bool b]
      have ho5 := ho4.alloc (.cells #[.int .i64 x, .bool b] 49)
      have HC5 := Lib.hid (hc4.alloc (.cells #[.int .i64 x, .bool b] 49))
      have bB := own_blk ho4
      have z5 : w4.heap.size < (w4.alloc (.cells #[.int .i64 x, .bool b] 49)).heap.size := by simp
      have zG4 := hc4.lt
      clear ho3 ho4 hc4 hg4
      have HS := Lib.hid (HIN.out.snoc (x := ⟨x, b⟩) (by omega) (by simp only; omega))
      rcases p with _ | q
      · go_wp2_with (at_builtin; refine wp_app rfl _ _ 25 rfl w.heap.size 49 i0 (.agg #[.int .i64 0, .bool false]) 2 16 Try.underlying25 hi hz0 hz1 hz2 rfl (by decide) rfl ho5 [.int .i64 x, .bool b] rfl (by simp [Value.oneCell']) rfl (by simp) (by unfold maxLen; omega) (by omega) (by simp; omega) ?_; intro A6 c6 w6 hown6 hg6)
        go_roundw
        case rel => exact ⟨k, A6, 0 + 1, c6, ls ++ [⟨x, b⟩], by go_num, rfl, by have := HP.out; rw [List.length_append, List.length_singleton]; omega, by omega, HS.out, by rw [crs_append]; exact hown6, HC5.out.apart hg6 bB (by omega), by have := hg6.size; omega⟩
        case measure => first | (simp [intOf]; done) | (simp [intOf]; omega)
      · have q0 := hbx.cell_ (i := 0) rfl
        have q1 := hbx.cell_ (i := 1) rfl
        go_wp2_with fail
        generalize w4.alloc (.cells #[.int .i64 x, .bool b] 49) = w5 at *
        refine (spec_l01Once (N := 3) HC5.out (by omega) (by omega)).mono ?_
        rintro e w6 ⟨b2, rfl, hc6, hg6⟩
        have ho6 := own_cur ho5 hg6 bB (by omega)
        have hbx6 := row_cur hbx hg6 (by omega)
        have HC6 := Lib.hid hc6
        have z6 : w5.heap.size ≤ w6.heap.size := hg6.size
        clear ho5 hbx hc6 hg6 q0 q1
        have q0 := hbx6.cell_ (i := 0) rfl
        have q1 := hbx6.cell_ (i := 1) rfl
        cases b2 with
        | false =>
          clear hbx6
          go_wp2_with (at_builtin; refine wp_app rfl _ _ 25 rfl w.heap.size 49 i0 (.agg #[.int .i64 0, .bool false]) 2 16 Try.underlying25 hi hz0 hz1 hz2 rfl (by decide) rfl ho6 [.int .i64 x, .bool b] rfl (by simp [Value.oneCell']) rfl (by simp) (by unfold maxLen; omega) (by omega) (by omega) ?_; intro A7 c7 w7 hown7 hg7)
          go_roundw
          case rel => exact ⟨k, A7, q + 1 + 1, c7, ls ++ [⟨x, b⟩], by go_num, rfl, by have := HP.out; rw [List.length_append, List.length_singleton]; omega, by omega, HS.out, by rw [crs_append]; exact hown7, HC6.out.apart hg7 bB (by omega), by have := hg7.size; omega⟩
          case measure => first | (simp [intOf]; done) | (simp [intOf]; omega)
        | true =>
          obtain ⟨g, o, y, rfl, hgB, hy, e0, e1⟩ := (Reads.of_own ho6).cr (k := q) (by omega)
          obtain ⟨ya, yf⟩ := y
          have hyin := HIN.out _ (List.mem_of_getElem? hy)
          simp only at e0 e1 hyin
          have f0 := hbx6.frozen 0
          have f1 := hbx6.frozen 1
          have hbx7 := (hbx6.set 0 (.int .i64 ya)).set 1 (.bool (!yf))
          simp only [List.set_cons_succ, List.set_cons_zero] at hbx7
          have gb := (bB _ rfl).2
          simp only at gb
          have ho7 := own_grown ho6 (grown_setCell (grown_setCell (World.grownBy.refl w6 (some w4.heap.size)) (p := ⟨w4.heap.size, 0, none⟩) (.inl rfl) (.int .i64 ya)) (p := ⟨w4.heap.size, 1, none⟩) (.inl rfl) (.bool (!yf))) (fun g' e hc => by injection e with e; injection e with e _; injection hc with hc; omega)
          have HC7 := Lib.hid ((HC6.out.set_far (p := ⟨w4.heap.size, 0, none⟩) (by have := HC6.out.lo; simp; omega) (by simp; omega) (.int .i64 ya)).set_far (p := ⟨w4.heap.size, 1, none⟩) (by have := HC6.out.lo; simp; omega) (by simp; omega) (.bool (!yf)))
          have HS7 := Lib.hid (HIN.out.snoc (x := ⟨ya, !yf⟩) hyin.1 hyin.2)
          have HO7 := Lib.hid ho7
          have HB7 := Lib.hid hbx7
          have hlq : ((q : Int) + 1 - 1).toNat = q := by omega
          clear hy hyin hbx6 ho7 hbx7
          go_wp2
          go_region
          have p0 := HB7.out.cell_ (i := 0) rfl
          have p1 := HB7.out.cell_ (i := 1) rfl
          clear q0 q1 e0 e1 f0 f1 ho6
          have zz : ((w6.setCell ⟨w4.heap.size, 0, none⟩ (.int .i64 ya)).setCell ⟨w4.heap.size, 1, none⟩ (.bool (!yf))).heap.size = w6.heap.size := by simp [World.setCell]
          generalize (w6.setCell ⟨w4.heap.size, 0, none⟩ (.int .i64 ya)).setCell ⟨w4.heap.size, 1, none⟩ (.bool (!yf)) = w7 at *
          go_wp2_with (at_builtin; refine wp_app_at (w7.drewN 1) rfl _ _ 25 rfl w.heap.size 49 i0 (.agg #[.int .i64 0, .bool false]) 2 16 Try.underlying25 hi hz0 hz1 hz2 rfl (by decide) rfl (own_drewN HO7.out 1) [.int .i64 ya, .bool (!yf)] rfl (by simp [Value.oneCell']) rfl zz.symm (by unfold maxLen; omega) (by omega) (by have : w.heap.size ≤ w7.heap.size := (by omega); exact this) rfl ?_; intro A8 c8 w8 hown8 hg8)
          go_roundw
          case rel => exact ⟨k, A8, q + 1 + 1, c8, ls ++ [⟨ya, !yf⟩], by go_num, rfl, by have := HP.out; rw [List.length_append, List.length_singleton]; omega, by omega, HS7.out, by rw [crs_append]; exact hown8, (HC7.out.drewN 1).apart hg8 bB (by omega), by have : w7.heap.size ≤ w8.heap.size := hg8.size; omega⟩
          case measure => first | (simp [intOf]; done) | (simp [intOf]; omega)

def DrawnCr (w : World) (e : Ending) (w' : World) : Prop :=
  ∃ (N : Int) (ls : List Cr) (B : Option Addr) (m d : Nat), e = .returned (.tuple #[.int .i64 N, .slice B m d]) ∧ w'.ownsRow w.heap.size 49 2 (.slice B m d) m (crs ls) ∧ 2 ≤ N ∧ N ≤ 5 ∧ ls.length ≤ 9 ∧ crossesOk N ls = true ∧ Below w.heap.size w w'
theorem spec_DrawCrosses {w : World} {n c : Nat} {A : Option Addr} {bs : List Int} (hr : Reads w 1 A n (u8s bs)) (hb : ∀ x ∈ bs, 0 ≤ x ∧ x ≤ 255) (hn : n ≤ 1048576) :
    Calls Try.prog 37 #[.slice A n c] w (DrawnCr w) := by
  go_enter Try.func37, Try.ntmps37
  go_wp2_with fail
  refine (spec_l01New hr hb hn).mono ?_
  rintro e w1 ⟨G, rfl, hc1, hG, hb1⟩
  have HC1 := Lib.hid hc1
  have hz := hb1.size
  clear hc1 hb1
  go_wp2_with fail
  refine (spec_l08List HC1.out).mono ?_
  rintro e w2 ⟨N, ls, B, m, d, rfl, ho, n2, n5, hl, hin, hc2⟩
  have hB := hc2.base
  have HOK := Lib.hid (show crossesOk N ls = true from decide_eq_true ⟨by omega, by omega, by omega, hin⟩)
  have HL := Lib.hid hl
  clear hc2 hin hl
  go_wp2
  go_returns
  exact ⟨N, ls, B, m, d, rfl, ownsRow_le ho hz, n2, n5, HL.out, HOK.out, hB⟩
end Go.Proofs.Ytkpgfmkmbgapmaa
