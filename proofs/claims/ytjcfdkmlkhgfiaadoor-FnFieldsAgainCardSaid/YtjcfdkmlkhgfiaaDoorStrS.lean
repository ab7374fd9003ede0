/- Contracts of the helpers that compare, mark and hold slices of strings; lengths at most 2^20. -/
import Derived.Test.YtjcfdkmlkhgfiaaDoorSplit
namespace Go.Proofs.YtjcfdkmlkhgfiaaDoor
open Go.ChangeShapes Go.WideShapes Go.ChangeAt Go.RowKit Go.Deep Go.Joins
set_option maxRecDepth 100000

theorem Reads.str {w : World} {A : Option Addr} {n : Nat} {xs : List ByteArray} (h : Reads w 1 A n (strs xs)) {k : Nat} (hk : k < n) :
    ∃ b o x, A = some ⟨b, o, none⟩ ∧ b < w.heap.size ∧ xs[k]? = some x ∧ w.cell? ⟨b, o + k, none⟩ = some (.string x) := by
  obtain ⟨b, o, e, hb, hc⟩ := h.2 (by omega)
  have hl : xs.length = n := by have := h.1; rw [strs_length] at this; omega
  have hx : xs[k]? = some (xs[k]'(by omega)) := List.getElem?_eq_getElem (by omega)
  exact ⟨b, o, xs[k]'(by omega), e, hb, hx, hc k _ (by rw [strs_get, hx]; rfl)⟩

theorem Reads.strlen {w : World} {A : Option Addr} {n : Nat} {xs : List ByteArray} (h : Reads w 1 A n (strs xs)) : xs.length = n := by have := h.1; rw [strs_length] at this; omega
/-- The digits of k, laid ahead of out. -/
def mkt : Nat → Int → ByteArray → ByteArray
  | 0, _, out => out
  | f + 1, k, out => if 0 < k then mkt f (k / 10) (⟨#[UInt8.ofNat (48 + k % 10).toNat]⟩ ++ out) else out

theorem mkt_done (f : Nat) {k : Int} (out : ByteArray) (h : ¬ 0 < k) : mkt f k out = out := by
  cases f with
  | zero => rfl
  | succ f => simp [mkt, h]

theorem mkt_step {f : Nat} {k : Int} (out : ByteArray) (h : 0 < k) : mkt (f + 1) k out = mkt f (k / 10) (⟨#[UInt8.ofNat (48 + k % 10).toNat]⟩ ++ out) := by simp [mkt, h]

def markT (k : Int) : ByteArray := ⟨#[109]⟩ ++ mkt k.toNat k ⟨#[]⟩

def marks (k : Int) (n : Nat) : List ByteArray := (List.range n).map fun i : Nat => markT (k + (i : Int))

theorem marks_length (k : Int) (n : Nat) : (marks k n).length = n := by simp [marks]

theorem marks_get (k : Int) (n i : Nat) (h : i < n) : (marks k n)[i]? = some (markT (k + (i : Int))) := by simp [marks, List.getElem?_map, List.getElem?_range h]

theorem marks_snoc (k : Int) (n : Nat) : marks k (n + 1) = marks k n ++ [markT (k + (n : Int))] := by simp [marks, List.range_succ]
end Go.Proofs.YtjcfdkmlkhgfiaaDoor
