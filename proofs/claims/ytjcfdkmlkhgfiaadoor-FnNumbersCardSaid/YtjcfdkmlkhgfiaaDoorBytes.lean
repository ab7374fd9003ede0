/- The argument of bytes, opened, and what it reads as; no condition. -/
import Derived.Test.YtjcfdkmlkhgfiaaDoorKit
namespace Go.Proofs.YtjcfdkmlkhgfiaaDoor
open Go.ChangeShapes Go.WideShapes Go.ChangeAt Go.RowKit Go.Deep Go.Joins
set_option maxRecDepth 100000

def u8s (xs : List Int) : List Value := xs.map (.int .u8 ·)
theorem u8s_length (xs : List Int) : (u8s xs).length = xs.length := by simp [u8s]
theorem u8s_get (xs : List Int) (k : Nat) : (u8s xs)[k]? = (xs[k]?).map (.int .u8 ·) := by simp [u8s]
theorem Reads.u8 {w : World} {A : Option Addr} {n : Nat} {xs : List Int} (h : Reads w 1 A n (u8s xs)) {k : Nat} (hk : k < n) :
    ∃ b o x, A = some ⟨b, o, none⟩ ∧ b < w.heap.size ∧ xs[k]? = some x ∧ w.cell? ⟨b, o + k, none⟩ = some (.int .u8 x) := by
  obtain ⟨b, o, e, hb, hc⟩ := h.2 (by omega)
  have hl : xs.length = n := by have := h.1; rw [u8s_length] at this; omega
  have hx : xs[k]? = some (xs[k]'(by omega)) := List.getElem?_eq_getElem (by omega)
  exact ⟨b, o, xs[k]'(by omega), e, hb, hx, hc k _ (by rw [u8s_get, hx]; rfl)⟩
theorem Reads.lenB {w : World} {A : Option Addr} {n : Nat} {xs : List Int} (h : Reads w 1 A n (u8s xs)) : xs.length = n := by have := h.1; rw [u8s_length] at this; omega
theorem cells_u8 : Tryd.prog.cellsOf 5 = 1 := by kernel_rfl
theorem u8s_at {w : World} {a : Addr} {m : Nat} {zs : List Int} (hcell : ∀ i, i < zs.length → w.cell? (a.add i) = some (.int .u8 (zs.getD i 0))) (hm : 0 < zs.length) :
    ∃ b o, a = ⟨b, o, none⟩ ∧ ∀ i, i < zs.length → w.cell? ⟨b, o + i, none⟩ = some (.int .u8 (zs.getD i 0)) := by
  obtain ⟨b, o, rfl, _⟩ := addr_plain (hcell 0 hm) ⟨_, hcell 0 hm⟩
  exact ⟨b, o, rfl, fun i hi => by rw [← Go.WideShapes.add_plain]; exact hcell i hi⟩
theorem open_byteA {H : Type} {enc : TypeId × Value → H} {w : World} {base : Nat} {r : Reach} {b0 : Nat} {v : Value} {d : DataW H} {p : List MemPlace} (hv : Value.okWide Tryd.prog w r b0 24 v) (h : DataW.Trod enc Tryd.prog w base (fun _ => true) true 24 v d p) :
    ∃ (A : Option Addr) (n c : Nat) (xs : List Int), v = .slice A n c ∧ Reads w 1 A n (u8s xs) ∧ n ≤ 9223372036854775807 ∧ ∀ x ∈ xs, 0 ≤ x ∧ x ≤ 255 := by
  obtain ⟨a0, len, cap, rfl⟩ := okWide_slice Tryd.underlying24 hv
  obtain ⟨fuel, hf⟩ := h
  rcases open_ints Tryd.underlying24 Tryd.underlying5 cells_u8 hf with ⟨hcs, hx⟩ | ⟨a, len', cap', zs, hcs, _, hl, hm, hz, hx, hcell, hwz⟩
  · simp only [Value.cells] at hcs
    have e1 : (Value.slice a0 len cap) = .slice none 0 0 := by simpa using hcs
    injection e1 with e1 e2 e3
    subst e1 e2 e3
    exact ⟨none, 0, 0, [], rfl, Reads.none_, by omega, by simp⟩
  · have e1 : (Value.slice a0 len cap) = .slice (some a) len' cap' := by simpa [Value.cells] using hcs
    injection e1 with e1 e2 e3
    subst e1 e2 e3
    simp only [if_true] at hz
    refine ⟨some a, len, cap, zs.take len, rfl, ⟨by simp [u8s, hz]; omega, fun hn => ?_⟩, by unfold maxLen at hm; omega, fun x hx => bounds_u8 (hwz x (List.mem_of_mem_take hx))⟩
    obtain ⟨b, o, rfl, hat⟩ := u8s_at (m := 0) hcell (by omega)
    refine ⟨b, o, rfl, World.block_lt_of_cell? _ _ (hat 0 (by omega)), fun j u hu => ?_⟩
    rw [u8s_get] at hu
    cases hq : (zs.take len)[j]? with
    | none => rw [hq] at hu; cases hu
    | some z =>
      rw [hq] at hu
      have hu' : Value.int .u8 z = u := by simpa using hu
      subst hu'
      have hj : j < len := by have := (List.getElem?_eq_some_iff.1 hq).1; simp at this; omega
      have hz' : zs.getD j 0 = z := by rw [List.getElem?_take_of_lt hj] at hq; simp [List.getD, hq]
      rw [← hz']
      exact hat j (by omega)
end Go.Proofs.YtjcfdkmlkhgfiaaDoor
