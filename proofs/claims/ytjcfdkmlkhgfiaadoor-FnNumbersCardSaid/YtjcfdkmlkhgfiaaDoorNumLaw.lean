/- The plain law of decimal texts of at most ten bytes: what both sides read of them; no condition. -/
import Derived.Test.YtjcfdkmlkhgfiaaDoorItoa
import Derived.Lib.AtoiAllCases
import Derived.Lib.AtoiTie
namespace Go.Proofs.YtjcfdkmlkhgfiaaDoor
open Go.ChangeShapes Go.WideShapes Go.ChangeAt Go.RowKit Go.Deep Go.Joins
set_option maxRecDepth 100000
theorem decFrom_app : ∀ (a : List UInt8) (b : List UInt8) (acc n : Nat), Lib.decFrom acc a = some n → Lib.decFrom acc (a ++ b) = Lib.decFrom n b
  | [], b, acc, n, h => by
    simp only [Lib.decFrom, Option.some.injEq] at h
    subst h; rfl
  | c :: r, b, acc, n, h => by
    simp only [Lib.decFrom, List.cons_append] at h ⊢
    cases hc : Lib.digitVal c with
    | none => simp [hc] at h
    | some d =>
      simp only [hc] at h ⊢
      exact decFrom_app r b _ n h

theorem digit_ofNat {d : Nat} (h : d < 10) : Lib.digitVal (UInt8.ofNat (48 + d)) = some d := by
  have e : (UInt8.ofNat (48 + d)).toNat = 48 + d := by simp; omega
  unfold Lib.digitVal
  rw [e, if_pos (by omega)]
  congr 1; omega

theorem decFrom_digits (u : Nat) : Lib.decFrom 0 (Lib.decDigits u) = some u := by
  induction u using Nat.strongRecOn with
  | _ u ih =>
    rw [Lib.decDigits]
    by_cases h : u < 10
    · rw [dif_pos h]
      simp only [Lib.decFrom, digit_ofNat h]
      congr 1; omega
    · rw [dif_neg h, decFrom_app _ _ _ _ (ih (u / 10) (by omega))]
      have hm : u % 10 < 10 := Nat.mod_lt _ (by omega)
      simp only [Lib.decFrom, digit_ofNat hm]
      congr 1; omega

theorem digits_head (u : Nat) : ∃ c r, Lib.decDigits u = c :: r ∧ 48 ≤ c.toNat ∧ c.toNat ≤ 57 := by
  have h := decFrom_digits u
  cases hd : Lib.decDigits u with
  | nil => have := Lib.decDigits_length u; rw [hd] at this; rw [Lib.decDigits] at hd; split at hd <;> simp at hd
  | cons c r =>
    refine ⟨c, r, rfl, ?_⟩
    rw [hd] at h
    simp only [Lib.decFrom] at h
    cases hc : Lib.digitVal c with
    | none => simp [hc] at h
    | some d =>
      unfold Lib.digitVal at hc
      split at hc
      · assumption
      · simp at hc

/-- A text of at most ten bytes as both sides read it. -/
def pu (l : List UInt8) : Int × Bool :=
  match Lib.decFrom 0 l with
  | some n => if n ≤ 1000000000 ∧ Lib.itoa n = l then ((n : Int), true) else (0, false)
  | none => (0, false)

theorem pu_itoa {n : Int} (h0 : 0 ≤ n) (h1 : n ≤ 1000000000) : pu (Lib.itoa n) = (n, true) := by
  obtain ⟨u, rfl⟩ : ∃ u : Nat, n = u := ⟨n.toNat, by omega⟩
  unfold pu
  rw [Lib.itoa_nonneg, decFrom_digits]
  simp only []
  rw [if_pos ⟨by omega, Lib.itoa_nonneg u⟩]

theorem pu_out {n : Int} (h : n < 0 ∨ 1000000000 < n) : pu (Lib.itoa n) = (0, false) := by
  unfold pu
  by_cases hn : n < 0
  · have e : Lib.itoa n = 45 :: Lib.decDigits n.natAbs := by unfold Lib.itoa; rw [if_pos hn]
    rw [e]
    have : Lib.decFrom 0 (45 :: Lib.decDigits n.natAbs) = none := by simp [Lib.decFrom, Lib.digitVal]
    rw [this]
  · obtain ⟨u, rfl⟩ : ∃ u : Nat, n = u := ⟨n.toNat, by omega⟩
    rw [Lib.itoa_nonneg, decFrom_digits]
    simp only []
    rw [if_neg (by omega)]

theorem pu_some {l : List UInt8} {n : Nat} (h : Lib.decFrom 0 l = some n) (h1 : n ≤ 1000000000) (h2 : Lib.itoa n = l) : pu l = ((n : Int), true) := by
  unfold pu; rw [h]; simp only []; rw [if_pos ⟨h1, h2⟩]

theorem pu_big {l : List UInt8} {n : Nat} (h : Lib.decFrom 0 l = some n) (h1 : ¬ n ≤ 1000000000) : pu l = (0, false) := by
  unfold pu; rw [h]; simp only []; rw [if_neg (by omega)]

theorem pu_other {l : List UInt8} {n : Nat} (h : Lib.decFrom 0 l = some n) (h1 : Lib.itoa n ≠ l) : pu l = (0, false) := by
  unfold pu; rw [h]; simp only []; rw [if_neg (fun c => h1 c.2)]

theorem pu_none {l : List UInt8} (h : Lib.decFrom 0 l = none) : pu l = (0, false) := by
  unfold pu; rw [h]

theorem pu_atoi_none {l : List UInt8} (h : Lib.atoi l = none) : pu l = (0, false) := by
  cases hd : Lib.decFrom 0 l with
  | none => exact pu_none hd
  | some n =>
    refine pu_other hd fun e => ?_
    rw [Lib.itoa_nonneg] at e
    obtain ⟨c, r, ec, c0, c1⟩ := digits_head n
    rw [ec] at e
    subst e
    have h45 : (c == 45) = false := by
      simp only [beq_eq_false_iff_ne, ne_eq]; rintro rfl; simp at c0
    have h43 : (c == 43) = false := by
      simp only [beq_eq_false_iff_ne, ne_eq]; rintro rfl; simp at c0
    simp [Lib.atoi, h45, h43, Lib.decNat, hd] at h

theorem pu_atoi {l : List UInt8} {v : Int} (_h : Lib.atoi l = some v) (h0 : 0 ≤ v) (h1 : v ≤ 1000000000) (h2 : Lib.itoa v = l) : pu l = (v, true) := by
  rw [← h2]; exact pu_itoa h0 h1

theorem pu_atoi_not {l : List UInt8} {v : Int} (h : Lib.atoi l = some v) (hn : v < 0 ∨ 1000000000 < v ∨ Lib.itoa v ≠ l) : pu l = (0, false) := by
  cases hd : Lib.decFrom 0 l with
  | none => exact pu_none hd
  | some n =>
    by_cases e : Lib.itoa n = l
    · have hv : v = n := by
        have e' := e
        rw [Lib.itoa_nonneg] at e'
        obtain ⟨c, r, ec, c0, c1⟩ := digits_head n
        rw [ec] at e'
        subst e'
        have h45 : (c == 45) = false := by
          simp only [beq_eq_false_iff_ne, ne_eq]; rintro rfl; simp at c0
        have h43 : (c == 43) = false := by
          simp only [beq_eq_false_iff_ne, ne_eq]; rintro rfl; simp at c0
        simp [Lib.atoi, h45, h43, Lib.decNat, hd] at h
        exact h.symm
      subst hv
      refine pu_big hd ?_
      rcases hn with hn | hn | hn
      · omega
      · omega
      · exact absurd e hn
    · exact pu_other hd e

theorem nDigits_le : ∀ (k u : Nat), u < 10 ^ (k + 1) → Lib.nDigits u ≤ k + 1
  | 0, u, h => by rw [Lib.nDigits_small (by simpa using h)]; exact Nat.le_refl _
  | k + 1, u, h => by
    by_cases h1 : u < 10
    · rw [Lib.nDigits_small h1]; omega
    · rw [Lib.nDigits_big h1]
      rw [Nat.pow_succ] at h
      have := nDigits_le k (u / 10) (by omega)
      omega

theorem itoa_short {n : Int} (h0 : 0 ≤ n) (h1 : n ≤ 1000000000) : (Lib.itoa n).length ≤ 10 := by
  obtain ⟨u, rfl⟩ : ∃ u : Nat, n = u := ⟨n.toNat, by omega⟩
  rw [Lib.itoa_nonneg, Lib.decDigits_length]
  exact nDigits_le 9 u (by omega)

theorem itoa_ne_nil (n : Int) : 1 ≤ (Lib.itoa n).length := by
  unfold Lib.itoa
  split
  · simp
  · obtain ⟨c, r, e, _⟩ := digits_head n.toNat
    rw [e]; simp

end Go.Proofs.YtjcfdkmlkhgfiaaDoor
