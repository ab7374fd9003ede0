/- Plain law of hexadecimal texts: what is encoded is decoded again; no program in sight. -/
import Derived.Test.YtjcfdkmlkhgfiaaDoorDecT
import Derived.Test.YtjcfdkmlkhgfiaaDoorDrawText
import Derived.Test.YtjcfdkmlkhgfiaaDoorDoorKit
namespace Go.Proofs.YtjcfdkmlkhgfiaaDoor
open Go.ChangeShapes Go.WideShapes Go.ChangeAt Go.RowKit Go.Deep Go.Joins
set_option maxRecDepth 100000

theorem val_fig (i : Nat) (h : i < 16) : valB (figB i) = (i : Int) := by
  have : ∀ n : Fin 16, valB (figB n.val) = (n.val : Int) := by decide +kernel
  exact this ⟨i, h⟩

theorem encL_len (l : List UInt8) : (encL l).length = 2 * l.length := by
  induction l with
  | nil => rfl
  | cons x xs ih => simp only [encL, List.flatMap_cons, List.length_append, List.length_cons] at ih ⊢; simp at ih ⊢; omega

theorem encL_at {l : List UInt8} : ∀ {k : Nat} {b : UInt8}, l[k]? = some b → (encL l)[2 * k]? = some (figB (b.toNat / 16)) ∧ (encL l)[2 * k + 1]? = some (figB (b.toNat % 16)) := by
  induction l with
  | nil => intro k b h; simp at h
  | cons x xs ih =>
    intro k b h
    have e : encL (x :: xs) = figB (x.toNat / 16) :: figB (x.toNat % 16) :: encL xs := rfl
    rw [e]
    cases k with
    | zero => simp at h; subst h; exact ⟨rfl, rfl⟩
    | succ k =>
      rw [List.getElem?_cons_succ] at h
      have := ih h
      exact ⟨by rw [show 2 * (k + 1) = 2 * k + 1 + 1 by omega]; simpa using this.1, by rw [show 2 * (k + 1) + 1 = 2 * k + 1 + 1 + 1 by omega]; simpa using this.2⟩

theorem decP_enc (l : List UInt8) : ∀ k, k ≤ l.length → decP (encL l) k = some (l.take k) := by
  intro k
  induction k with
  | zero => intro _; rfl
  | succ k ih =>
    intro hk
    have hx : l[k]? = some (l[k]'(by omega)) := List.getElem?_eq_getElem (by omega)
    generalize l[k]'(by omega) = b at hx
    obtain ⟨h1, h2⟩ := encL_at hx
    have hb := UInt8.toNat_lt b
    have v1 := val_fig (b.toNat / 16) (by omega)
    have v2 := val_fig (b.toNat % 16) (by omega)
    rw [decP, ih (by omega)]
    simp only [h1, h2, v1, v2]
    rw [if_neg (by omega), take_snoc hx]
    congr 2
    have : (16 * ((b.toNat / 16 : Nat) : Int) + ((b.toNat % 16 : Nat) : Int)).toNat = b.toNat := by omega
    rw [this]
    simp

theorem encS_size {s : ByteArray} (h : s.size ≤ 20000) : (encS s).size = 2 * s.size := by
  rw [encS_yes h]
  have := encL_len s.data.toList
  have e : s.data.toList.length = s.size := by first | (simp; done) | (simp; rfl)
  rw [e] at this
  show (encL s.data.toList).toArray.size = _
  simpa using this

theorem dec_enc {s : ByteArray} (h : s.size ≤ 20000) : decS (encS s) = some s.data.toList := by
  have hz := encS_size h
  have e : s.data.toList.length = s.size := by first | (simp; done) | (simp; rfl)
  unfold decS
  rw [if_pos (by omega), hz, show 2 * s.size / 2 = s.size by omega]
  rw [show (encS s).data.toList = encL s.data.toList by rw [encS_yes h]]
  rw [decP_enc _ _ (by omega), List.take_of_length_le (by omega)]

theorem itoa10 : Lib.itoa 10 = [49, 48] := by
  rw [show (10 : Int) = ((10 : Nat) : Int) from rfl, Lib.itoa_nonneg, Lib.decDigits_two (by decide) (by decide)]
  rfl
end Go.Proofs.YtjcfdkmlkhgfiaaDoor
