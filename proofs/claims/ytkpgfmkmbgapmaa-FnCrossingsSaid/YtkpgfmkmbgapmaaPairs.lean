/- Contracts of PairsOf of both sides; no condition beyond the slice's length. -/
import Derived.Test.YtkpgfmkmbgapmaaOrderAfter
import Derived.Test.YtkpgfmkmbgapmaaSS3
namespace Go.Proofs.Ytkpgfmkmbgapmaa
open Go.ChangeShapes Go.WideShapes Go.ChangeAt Go.RowKit Go.Deep Go.Joins
set_option maxRecDepth 100000

def pairC (f : Bool) (a b : Int) : List Int := if f then [a, b] else [b, a]
def pairsTo (N : Nat) (ls : List Cr) : Nat → List (List Int)
  | 0 => []
  | k + 1 => pairsTo N ls k ++ [match ls[k]? with
    | some x => match (orderTo N ls k)[x.at_.toNat]?, (orderTo N ls k)[x.at_.toNat + 1]? with
      | some a, some b => pairC x.front a b
      | _, _ => []
    | none => []]
theorem pairsTo_step {N : Nat} {ls : List Cr} {k : Nat} {x : Cr} {a b : Int} (hx : ls[k]? = some x) (ha : (orderTo N ls k)[x.at_.toNat]? = some a) (hb : (orderTo N ls k)[x.at_.toNat + 1]? = some b) : pairsTo N ls (k + 1) = pairsTo N ls k ++ [pairC x.front a b] := by
  rw [pairsTo, hx]
  simp only [ha, hb]
theorem pairsTo_len (N : Nat) (ls : List Cr) (k : Nat) : (pairsTo N ls k).length = k := by
  induction k with
  | zero => rfl
  | succ k ih => rw [pairsTo, List.length_append, ih]; rfl
theorem pairC_len (f : Bool) (a b : Int) : (pairC f a b).length = 2 := by cases f <;> rfl
theorem pairsTo_tot (N : Nat) (ls : List Cr) (k : Nat) : totSS (pairsTo N ls k) ≤ 2 * k := by
  induction k with
  | zero => simp [pairsTo, totSS]
  | succ k ih =>
    rw [pairsTo, totSS_app]
    simp only [totSS]
    split
    · split
      · rw [pairC_len]; omega
      · simp; omega
    · simp; omega
def pairsOf (n : Int) (ls : List Cr) : List (List Int) := if crossesOk n ls then pairsTo n.toNat ls ls.length else []
theorem pairsOf_yes {N : Nat} {ls : List Cr} (h : crossesOk (N : Int) ls = true) : pairsOf N ls = pairsTo N ls ls.length := by simp [pairsOf, h]
theorem pairsOf_no {n : Int} {ls : List Cr} (h : crossesOk n ls = false) : pairsOf n ls = [] := by simp [pairsOf, h]
theorem info_ps : (Try.prog.info? 34).map (fun i => (i.zero, i.size, i.bytes)) = some (some (.slice none 0 0), 1, 24) := by kernel_rfl
theorem nilSS {w w' : World} (hb : Below w.heap.size w w') : OwnsSS w' w.heap.size w'.heap.size none 0 0 [] :=
  ⟨[], World.ownsRow_nil _ _ _ _, nofun, rfl, fun i r xs h => by simp at h, fun i j r s _ h => by simp at h, Nat.le_refl _⟩

set_option maxHeartbeats 4000000 in
theorem spec_PairsOf {n : Int} {A : Option Addr} {m c : Nat} {ls : List Cr} {w : World} (hr : Reads w 2 A m (crs ls)) (hm : m ≤ 1048576) :
    Calls Try.prog 31 #[.int .i64 n, .slice A m c] w fun e w' => ∃ A' n' c', e = .returned (.slice A' n' c') ∧ OwnsSS w' w.heap.size w'.heap.size A' n' c' (pairsOf n ls) ∧ n' + totSS (pairsOf n ls) ≤ 1048576 ∧ Below w.heap.size w w' := by
  have hl := hr.crlen
  have ho := own_emptyS2 w (w.heap.size)
  cases hok : crossesOk n ls with
  | false =>
    have E := Lib.hid hok
    clear hok
    go_enter Try.func31, Try.ntmps31
    go_wp2_with fail
    refine (spec_CrossesOk (hr.below (by go_grown)) hm).mono ?_
    rintro e w1 ⟨rfl, hb1⟩
    rw [E.out]
    have hz := hb1.size
    simp only [World.size_alloc] at hz
    go_wp2
    go_ret
    exact ⟨_, 0, 0, rfl, by rw [pairsOf_no E.out]; exact (ho.below hb1).SS (Nat.le_refl _), by rw [pairsOf_no E.out]; simp [totSS], (by go_grown : Below w.heap.size w _).trans (hb1.mono (by simp))⟩
  | true =>
    have hf := crossFacts hok
    have h1 := hf.n1
    have h7 := hf.n7
    obtain ⟨N, rfl⟩ := Int.eq_ofNat_of_zero_le (show 0 ≤ n by omega)
    have h40 := hf.len
    have hm40 : m ≤ 40 := by omega
    have AT := Lib.hid hf.at_
    have E := Lib.hid hok
    have HL := Lib.hid hl
    clear hok hf hl h40
    obtain ⟨i0, hi, hz0, hz1, hz2⟩ := info_parts info_ps
    go_enter Try.func31, Try.ntmps31
    go_wp2_with fail
    refine (spec_CrossesOk (hr.below (by go_grown)) hm).mono ?_
    rintro e w1 ⟨rfl, hb1⟩
    rw [E.out]
    have hB1 : Below w.heap.size w w1 := (by go_grown : Below w.heap.size w _).trans (hb1.mono (by simp))
    replace ho := ho.below hb1
    clear hb1
    go_wp2_with fail
    refine (spec_l08Start (by omega)).mono ?_
    rintro e w2 ⟨A1, c1, rfl, hown1, hb2⟩
    have hB2 := hB1.trans (hb2.mono hB1.size)
    have ho2 := ho.below hb2
    replace hown1 := ownsRow_le hown1 hB1.size
    clear hb2 ho hB1
    go_wp2
    go_loopw [5, 6, 7] (fun ov nv iv wr => ∃ (k : Nat) (A' : Option Addr) (n' c' : Nat) (An : Option Addr) (cn : Nat), k ≤ m ∧ iv = .int .i64 k ∧ ov = .slice A' n' c' ∧ nv = .slice An N cn ∧ OwnsS2 wr w.heap.size w.heap.size A' n' c' (pairsTo N ls k) ∧ wr.ownsRow w.heap.size 3 1 (.slice An N cn) N (ints (orderTo N ls k)) ∧ Below w.heap.size w wr) (fun _ _ iv _ => m - (intOf iv).toNat)
    case atStart => exact ⟨0, _, 0, 0, A1, c1, by omega, rfl, rfl, rfl, ho2, hown1, hB2⟩
    case round =>
      clear hown1 hB2 ho2
      obtain ⟨k, A', n', c', An, cn, hk, rfl, rfl, rfl, hS, hnow, hbel⟩ := hrel
      have hn' : n' = k := by rw [← hS.len, pairsTo_len]
      by_cases hlt : k < m
      · obtain ⟨b, o, x, rfl, hbB, hx, c0, c1'⟩ := hr.cr hlt
        obtain ⟨a0, a1⟩ := AT.out x (List.mem_of_getElem? hx)
        have HS := Lib.hid (orderTo_step (N := N) hx)
        have hlen := orderTo_len N ls k
        have HX := Lib.hid hx
        clear hx
        obtain ⟨xa, xf⟩ := x
        simp only at a0 a1 c0 c1' HS
        obtain ⟨j, rfl⟩ := Int.eq_ofNat_of_zero_le a0
        have C0 := Lib.hid c0
        have C1 := Lib.hid c1'
        replace c0 := keep_cell hbel c0
        replace c1' := keep_cell hbel c1'
        have HW := Lib.hid (swapAt_at (j := j) (orderTo_ok (N := N) (by omega) (by omega) ls k) (by omega))
        have HN := Lib.hid (swapN_len (orderTo N ls k) j)
        have ha : (orderTo N ls k)[j]? = some ((orderTo N ls k)[j]'(by omega)) := List.getElem?_eq_getElem (by omega)
        have hb : (orderTo N ls k)[j + 1]? = some ((orderTo N ls k)[j + 1]'(by omega)) := List.getElem?_eq_getElem (by omega)
        generalize (orderTo N ls k)[j]'(by omega) = a at ha
        generalize (orderTo N ls k)[j + 1]'(by omega) = z at hb
        have HP : Hid (pairsTo N ls (k + 1) = pairsTo N ls k ++ [pairC xf a z]) := Lib.hid (pairsTo_step HX.out (by simpa using ha) (by simpa using hb))
        have HLN := Lib.hid hlen
        have hN : N ≤ 1048576 := by omega
        have hn40 : n' ≤ 40 := by omega
        obtain ⟨g, rfl, _, _⟩ := own_form hnow (by omega)
        have p0 := own_int hnow ha
        have p1 := own_int hnow hb
        have l1 : (j : Int) < (N : Int) := by omega
        have l2 : (j : Int) + 1 < (N : Int) := by omega
        obtain ⟨rs, q1, q2, q3, q4⟩ := hS
        have HQ1 := Lib.hid q1
        have HQ2 := Lib.hid q2
        have HQ3 := Lib.hid q3
        have HQ4 := Lib.hid q4
        have HNW := Lib.hid hnow
        have zw := hbel.size
        have HK := Lib.hid hn'
        clear ha hb hlen q1 q2 q3 q4 hnow hn'
        cases xf with
        | true =>
          have hrow := (Row.new wr 3 [.int .i64 a, .int .i64 z]).own (base := wr.heap.size) (size := 1) (n := 2) (xs := ints (pairC true a z)) (Nat.le_refl _) (Nat.le_refl 2) (by unfold maxLen; omega) rfl rfl
          have h1W := HQ1.out.alloc (.cells #[.int .i64 a, .int .i64 z] 3)
          have hbW := hbel.alloc hbel.size (.cells #[.int .i64 a, .int .i64 z] 3)
          have HRW := Lib.hid hrow
          clear hrow
          go_wp2_with (at_builtin; refine wp_app rfl _ _ 40 rfl w.heap.size 34 i0 (.slice none 0 0) 1 24 Try.underlying40 hi hz0 hz1 hz2 rfl (by decide) rfl h1W [.slice (some ⟨wr.heap.size, 0, none⟩) 2 2] rfl (by simp [Value.oneCell']) rfl (by simp) (by unfold maxLen; omega) (by omega) (by simp; omega) ?_; intro A3 c3 w3 hown3 hg3; have hbel3 := bel_apart hbW hg3 (own_blk h1W) (Nat.le_refl _); have e0 := keep_cell hbel3 C0.out; have e1 := keep_cell hbel3 C1.out)
          have hS3 := S2_snoc (r := ⟨some ⟨wr.heap.size, 0, none⟩, 2, 2⟩) HQ1.out HQ2.out HQ3.out HQ4.out (by go_grown) HRW.out zw hg3 hown3
          have hnow3 := own_grown (HNW.out.alloc _) hg3 fun g e => own_ne (HNW.out.alloc _) h1W (by decide) e
          have HS3 := Lib.hid hS3
          clear hS3 hown3 hg3 h1W hbW p0 p1 c0 c1' e0 e1
          refine (spec_SwapAt (k := (j : Int)) (Reads.of_own hnow3) hN).mono ?_
          rintro e w4 ⟨A4, n4, c4, rfl, hown4, hn4, hb4⟩
          rw [HW.out] at hown4
          obtain rfl : N = n4 := by have := own_len hown4; rw [HN.out, HLN.out] at this; omega
          replace hown4 := ownsRow_le hown4 hbel3.size
          have hbel4 := hbel3.trans (hb4.mono hbel3.size)
          have hS4 := HS3.out.below hb4
          clear hb4 hnow3 hbel3 hbel HS3
          go_wp2
          go_roundw
          case rel => exact ⟨k + 1, A3, n' + 1, c3, A4, c4, by omega, by go_num, rfl, rfl, by rw [HP.out]; exact hS4, by rw [HS.out]; simpa using hown4, hbel4⟩
          case measure => simp [intOf]; omega
        | false =>
          have hrow := (Row.new wr 3 [.int .i64 z, .int .i64 a]).own (base := wr.heap.size) (size := 1) (n := 2) (xs := ints (pairC false a z)) (Nat.le_refl _) (Nat.le_refl 2) (by unfold maxLen; omega) rfl rfl
          have h1W := HQ1.out.alloc (.cells #[.int .i64 z, .int .i64 a] 3)
          have hbW := hbel.alloc hbel.size (.cells #[.int .i64 z, .int .i64 a] 3)
          have HRW := Lib.hid hrow
          clear hrow
          go_wp2_with (at_builtin; refine wp_app rfl _ _ 40 rfl w.heap.size 34 i0 (.slice none 0 0) 1 24 Try.underlying40 hi hz0 hz1 hz2 rfl (by decide) rfl h1W [.slice (some ⟨wr.heap.size, 0, none⟩) 2 2] rfl (by simp [Value.oneCell']) rfl (by simp) (by unfold maxLen; omega) (by omega) (by simp; omega) ?_; intro A3 c3 w3 hown3 hg3; have hbel3 := bel_apart hbW hg3 (own_blk h1W) (Nat.le_refl _); have e0 := keep_cell hbel3 C0.out; have e1 := keep_cell hbel3 C1.out)
          have hS3 := S2_snoc (r := ⟨some ⟨wr.heap.size, 0, none⟩, 2, 2⟩) HQ1.out HQ2.out HQ3.out HQ4.out (by go_grown) HRW.out zw hg3 hown3
          have hnow3 := own_grown (HNW.out.alloc _) hg3 fun g e => own_ne (HNW.out.alloc _) h1W (by decide) e
          have HS3 := Lib.hid hS3
          clear hS3 hown3 hg3 h1W hbW p0 p1 c0 c1' e0 e1
          refine (spec_SwapAt (k := (j : Int)) (Reads.of_own hnow3) hN).mono ?_
          rintro e w4 ⟨A4, n4, c4, rfl, hown4, hn4, hb4⟩
          rw [HW.out] at hown4
          obtain rfl : N = n4 := by have := own_len hown4; rw [HN.out, HLN.out] at this; omega
          replace hown4 := ownsRow_le hown4 hbel3.size
          have hbel4 := hbel3.trans (hb4.mono hbel3.size)
          have hS4 := HS3.out.below hb4
          clear hb4 hnow3 hbel3 hbel HS3
          go_wp2
          go_roundw
          case rel => exact ⟨k + 1, A3, n' + 1, c3, A4, c4, by omega, by go_num, rfl, rfl, by rw [HP.out]; exact hS4, by rw [HS.out]; simpa using hown4, hbel4⟩
          case measure => simp [intOf]; omega
      · obtain rfl : k = m := by omega
        have HT := Lib.hid (pairsTo_tot N ls k)
        have HK := Lib.hid hn'
        clear hn'
        go_wp2
        go_ret
        exact ⟨A', n', c', rfl, by rw [pairsOf_yes E.out, HL.out]; exact hS.SS (Nat.le_refl _), by rw [pairsOf_yes E.out, HL.out]; have := HT.out; have := HK.out; omega, hbel⟩

end Go.Proofs.Ytkpgfmkmbgapmaa
