/- Contracts of FormatInt of both sides; no condition but that the program's table reads as its initialiser lays it. -/
import Derived.Test.YtjcfdkmlkhgfiaaDoorHexT
import Derived.Test.YtjcfdkmlkhgfiaaDoorShelf
import Derived.Lib.ItoaMem
import Derived.Lib.AppendIntMem
import Derived.Lib.ItoaLen
namespace Go.Proofs.YtjcfdkmlkhgfiaaDoor
open Go.ChangeShapes Go.WideShapes Go.ChangeAt Go.RowKit Go.Deep Go.Joins
set_option maxRecDepth 100000

def Tab (w : World) : Prop := Lib.TabIs Tryd.prog w "internal/strconv.uint64pow10" .u64 Lib.pow10Tab
theorem Tab.below {w w' : World} (h : Tab w) (hb : Below w.heap.size w w') : Tab w' := Lib.tabBelow_of_tabIs h w' hb
theorem Tab.belowB {B : World} {w w' : World} (h : Tab B) (hb : Below B.heap.size B w') (_ : Below B.heap.size B w) : Tab w' := Lib.tabBelow_of_tabIs h w' hb

theorem impl_FormatInt {n : Int} {w : World} (h0 : -9223372036854775808 ≤ n) (h1 : n ≤ 9223372036854775807) (htab : Tab w) :
    Calls Tryd.prog 9 #[.int .i64 n] w fun e w' => e = .returned (.string ⟨(Lib.itoa n).toArray⟩) ∧ Below w.heap.size w w' := by
  go_enter Tryd.func9, Tryd.ntmps9
  go_wp2_with fail
  refine (Tryd.strconv_Itoa n h0 h1 w htab).mono ?_
  rintro e w1 ⟨rfl, k, os, rfl⟩
  have hb := Lib.below_grow w.heap.size w (Nat.le_refl _) k os
  generalize Go.Sort.grow (w.drewN k) os = w2 at *
  go_wp2
  go_ret
  exact ⟨rfl, hb⟩

theorem cat_str (a b : List UInt8) : (⟨a.toArray⟩ : ByteArray) ++ ⟨b.toArray⟩ = ⟨(a ++ b).toArray⟩ := by
  apply ByteArray.ext
  simp

theorem dec_step {u : Nat} {t D : List UInt8} (h : 0 < u → Lib.decDigits u ++ t = D) (hu : 0 < u) : (0 < u / 10 → Lib.decDigits (u / 10) ++ (figB (u % 10) :: t) = D) ∧ (u / 10 = 0 → figB (u % 10) :: t = D) := by
  have hd := h hu
  have hf : figB (u % 10) = UInt8.ofNat (48 + u % 10) := by unfold figB; rw [if_pos (by omega)]
  rw [Lib.decDigits] at hd
  by_cases hlt : u < 10
  · rw [dif_pos hlt] at hd
    refine ⟨fun hp => by omega, fun _ => ?_⟩
    rw [hf, Nat.mod_eq_of_lt hlt]
    exact hd
  · rw [dif_neg hlt] at hd
    refine ⟨fun _ => ?_, fun h0 => by omega⟩
    rw [hf, ← hd]
    simp

set_option maxHeartbeats 2000000 in
theorem spec_FormatInt {n : Int} {w : World} (h0 : -9223372036854775808 ≤ n) (h1 : n ≤ 9223372036854775807) :
    Calls Tryd.prog 8 #[.int .i64 n] w fun e w' => e = .returned (.string ⟨(Lib.itoa n).toArray⟩) ∧ Below w.heap.size w w' := by
  by_cases hn : n = 0
  · subst hn
    have hz : Hid (Lib.itoa 0 = [48]) := Lib.hid (by simp [Lib.itoa, Lib.decDigits_one])
    go_enter Tryd.func8, Tryd.ntmps8
    go_wp2
    go_ret
    exact ⟨by rw [hz.out]; rfl, Below.refl _ _⟩
  have e1 : (n == 0) = false := by simpa using hn
  obtain ⟨D, hD⟩ : ∃ D, D = Lib.decDigits n.natAbs := ⟨_, rfl⟩
  have hl : D.length ≤ 20 := by
    rw [hD, Lib.decDigits_length]
    exact Lib.nDigits_le20 _ (by omega)
  go_enter Tryd.func8, Tryd.ntmps8
  go_wp2
  go_loopw [0, 4] (fun xv sv wr => ∃ (x : Int) (t : List UInt8), xv = .int .i64 x ∧ sv = .string ⟨t.toArray⟩ ∧ (n < 0 → x ≤ 0) ∧ (0 < n → 0 ≤ x) ∧ -9223372036854775808 ≤ x ∧ x ≤ 9223372036854775807 ∧ (0 < x.natAbs → Lib.decDigits x.natAbs ++ t = D) ∧ (x.natAbs = 0 → t = D) ∧ Below w.heap.size w wr) (fun xv _ _ => (intOf xv).natAbs)
  case atStart => exact ⟨n, [], rfl, rfl, by omega, by omega, h0, h1, fun _ => by rw [List.append_nil, hD], fun h => by omega, Below.refl _ _⟩
  case round =>
    obtain ⟨x, t, rfl, rfl, hx0, hx1, x0, x1, ht, hz, hbel⟩ := hrel
    by_cases hxz : x = 0
    · have ex : (x == 0) = true := by simp [hxz]
      have ex2 : (x != 0) = false := by simp [hxz]
      obtain rfl := hz (by omega)
      have hts : t.length ≤ 20 := hl
      by_cases hng : n < 0
      · have gn : decide (n < 0) = true := decide_eq_true hng
        have HR : Hid ((⟨#[45]⟩ : ByteArray) ++ ⟨t.toArray⟩ = ⟨(Lib.itoa n).toArray⟩) := Lib.hid (by
          rw [cat_str, show Lib.itoa n = 45 :: Lib.decDigits n.natAbs by unfold Lib.itoa; rw [if_pos hng], ← hD]
          rfl)
        clear hz ht hD hxz
        go_wp2
        go_ret
        exact ⟨by rw [← HR.out]; rfl, hbel⟩
      · have gn : decide (n < 0) = false := decide_eq_false hng
        have HR : Hid ((⟨t.toArray⟩ : ByteArray) = ⟨(Lib.itoa n).toArray⟩) := Lib.hid (by
          rw [show Lib.itoa n = Lib.decDigits n.natAbs by unfold Lib.itoa; rw [if_neg hng]; congr 1; omega, ← hD])
        clear hz ht hD hxz
        go_wp2
        go_ret
        exact ⟨by rw [← HR.out]; rfl, hbel⟩
    · have ex : (x == 0) = false := by simp [hxz]
      have ex2 : (x != 0) = true := by simp [hxz]
      have zw := hbel.size
      have hst := dec_step ht (by omega)
      have HST := Lib.hid hst
      have hlt : t.length ≤ 20 := by have := ht (by omega); rw [← this, List.length_append] at hl; omega
      obtain ⟨u, hu⟩ : ∃ u, u = x.natAbs := ⟨_, rfl⟩
      obtain ⟨b, hb⟩ : ∃ b, b = figB (u % 10) := ⟨_, rfl⟩
      obtain ⟨fv, hfv⟩ : ∃ fv, fv = figI ((u : Int) % 10) := ⟨_, rfl⟩
      have hrow : (wr.alloc (.cells #[.int .u8 fv] 5)).ownsRow wr.heap.size 5 1 (.slice (some ⟨wr.heap.size, 0, none⟩) 1 1) 1 (bys [b]) := by
        have hbv : [Value.int .u8 fv] = bys [b] := by
          rw [hfv, hb]
          unfold figI
          rw [show ((u : Int) % 10).toNat = u % 10 by omega]
          rfl
        exact (Row.new wr 5 [.int .u8 fv]).own (base := wr.heap.size) (size := 1) (n := 1) (xs := bys [b]) (Nat.le_refl _) (Nat.le_refl 1) (by unfold maxLen; omega) rfl (by rw [hbv]; rfl)
      have HC := conv_back hrow
      have hgr : Below w.heap.size w (wr.alloc (.cells #[.int .u8 fv] 5)) := hbel.alloc hbel.size _
      have HU := Lib.hid hu
      have HBB := Lib.hid hb
      by_cases hs : 0 ≤ x
      · have hxu : x = (u : Int) := by omega
        have hn0 : ¬ n < 0 := fun h => by have := hx0 h; omega
        subst hxu
        have t1 : ((u : Int)).tmod 10 = (u : Int) % 10 := Int.tmod_eq_emod_of_nonneg (by omega)
        have t2 : ((u : Int)).tdiv 10 = (u : Int) / 10 := Int.tdiv_eq_ediv_of_nonneg (by omega)
        have g1 : decide ((u : Int) % 10 < 0) = false := decide_eq_false (by omega)
        clear hst ht hz hu hb hx0 hx1 hrow
        go_wp2_with fail
        refine (spec_l01Figure (x := (u : Int) % 10) (by omega) (by omega)).mono ?_
        rintro e w' ⟨rfl, rfl⟩
        rw [← hfv]
        clear hfv
        go_wp2
        go_roundw
        case rel => exact ⟨(u : Int) / 10, b :: t, rfl, by rw [cat_str]; rfl, by omega, by omega, by omega, by omega, fun h => by
          have e := HST.out.1 (by rw [← HU.out]; omega)
          rw [← HU.out, ← HBB.out] at e
          rw [show ((u : Int) / 10).natAbs = u / 10 by omega]
          exact e, fun h => by
          have e := HST.out.2 (by rw [← HU.out]; omega)
          rw [← HU.out, ← HBB.out] at e
          exact e, hgr⟩
        case measure => simp [intOf]; omega
      · have hxu : x = -(u : Int) := by omega
        have hn0 : ¬ 0 < n := fun h => by have := hx1 h; omega
        subst hxu
        have hu0 : 0 < u := by omega
        have t1 : (-(u : Int)).tmod 10 = -((u : Int) % 10) := by rw [Int.neg_tmod, Int.tmod_eq_emod_of_nonneg (by omega)]
        have t2 : (-(u : Int)).tdiv 10 = -((u : Int) / 10) := by rw [Int.neg_tdiv, Int.tdiv_eq_ediv_of_nonneg (by omega)]
        by_cases hz9 : u % 10 = 0
        · have g0 : (u : Int) % 10 = 0 := by omega
          have hfv0 : fv = figI 0 := by rw [hfv, g0]
          clear hst ht hz hu hb hx0 hx1 hrow hfv hz9
          go_wp2_with fail
          refine (spec_l01Figure (x := 0) (by omega) (by omega)).mono ?_
          rintro e w' ⟨rfl, rfl⟩
          rw [← hfv0]
          clear hfv0
          go_wp2
          go_roundw
          case rel => exact ⟨-((u : Int) / 10), b :: t, rfl, by rw [cat_str]; rfl, by omega, by omega, by omega, by omega, fun h => by
              have e := HST.out.1 (by rw [← HU.out]; omega)
              rw [← HU.out, ← HBB.out] at e
              rw [show (-((u : Int) / 10)).natAbs = u / 10 by omega]
              exact e, fun h => by
              have e := HST.out.2 (by rw [← HU.out]; omega)
              rw [← HU.out, ← HBB.out] at e
              exact e, hgr⟩
          case measure => simp [intOf]; omega
        · have g1 : decide (0 < (u : Int) % 10) = true := decide_eq_true (by omega)
          have g2 : 0 < (u : Int) % 10 := by omega
          clear hst ht hz hu hb hx0 hx1 hrow hz9
          go_wp2_with fail
          refine (spec_l01Figure (x := (u : Int) % 10) (by omega) (by omega)).mono ?_
          rintro e w' ⟨rfl, rfl⟩
          rw [← hfv]
          clear hfv
          go_wp2
          go_roundw
          case rel => exact ⟨-((u : Int) / 10), b :: t, rfl, by rw [cat_str]; rfl, by omega, by omega, by omega, by omega, fun h => by
              have e := HST.out.1 (by rw [← HU.out]; omega)
              rw [← HU.out, ← HBB.out] at e
              rw [show (-((u : Int) / 10)).natAbs = u / 10 by omega]
              exact e, fun h => by
              have e := HST.out.2 (by rw [← HU.out]; omega)
              rw [← HU.out, ← HBB.out] at e
              exact e, hgr⟩
          case measure => simp [intOf]; omega
end Go.Proofs.YtjcfdkmlkhgfiaaDoor
