/- Slices of slices of integers that grow row by row, the outer slice and the rows each from a block of its own on; no condition beyond lengths. -/
import Derived.Test.YtcdachkaalkjlaaSS2
import Derived.Test.YtcdachkaalkjlaaKit4
namespace Go.Proofs.Ytcdachkaalkjlaa
open Go.ChangeShapes Go.WideShapes Go.ChangeAt Go.RowKit Go.Deep Go.Joins
set_option maxRecDepth 100000

def OwnsS2 (w : World) (bo lo : Nat) (A : Option Addr) (n c : Nat) (xss : List (List Int)) : Prop :=
  ∃ rs : List Sl, w.ownsRow bo 22 1 (.slice A n c) n (rs.map Sl.v) ∧ rs.length = xss.length ∧
    (∀ (i : Nat) (r : Sl) (xs : List Int), rs[i]? = some r → xss[i]? = some xs → w.ownsRow lo 3 1 (.slice r.A r.n r.c) r.n (ints xs)) ∧ Apart rs
section
variable {w w' : World} {bo lo n c : Nat} {A : Option Addr} {xss : List (List Int)}
theorem OwnsS2.SS (h : OwnsS2 w bo lo A n c xss) (hb : bo ≤ lo) : OwnsSS w bo w.heap.size A n c xss := by
  obtain ⟨rs, h1, h2, h3, h4⟩ := h
  refine ⟨rs, h1, own_blk h1, h2, fun i r xs hr hx => ⟨ownsRow_le (h3 i r xs hr hx) hb, fun a e => ?_⟩, h4, Nat.le_refl _⟩
  have := own_blk (h3 i r xs hr hx) a e
  omega
theorem OwnsS2.reads (h : OwnsS2 w bo lo A n c xss) : ReadsSS w A n xss := by
  obtain ⟨rs, h1, h2, h3, _⟩ := h
  exact ⟨rs, Reads.of_own h1, h2, fun i r xs hr hx => Reads.of_own (h3 i r xs hr hx)⟩
theorem OwnsS2.len (h : OwnsS2 w bo lo A n c xss) : xss.length = n := h.reads.len
theorem OwnsS2.grown {row : Option Nat} (h : OwnsS2 w bo lo A n c xss) (hg : w.grownBy w' row) (hr : ∀ b, row = some b → b < lo ∧ ∀ a, A = some a → a.block ≠ b) : OwnsS2 w' bo lo A n c xss := by
  obtain ⟨rs, h1, h2, h3, h4⟩ := h
  refine ⟨rs, own_grown h1 hg fun g e hc => (hr g hc).2 _ e rfl, h2, fun i r xs hri hx => ?_, h4⟩
  have o := h3 i r xs hri hx
  exact own_grown o hg fun g e hc => by
    have b1 := (own_blk o _ e).1
    have b2 := (hr g hc).1
    simp only at b1
    omega
theorem OwnsS2.below (h : OwnsS2 w bo lo A n c xss) (hb : Below w.heap.size w w') : OwnsS2 w' bo lo A n c xss := h.grown (grown_of_below hb none) nofun
theorem OwnsS2.drewN (h : OwnsS2 w bo lo A n c xss) (q : Nat) : OwnsS2 (w.drewN q) bo lo A n c xss := h.below (below_drewN (Below.refl _ _) q)
end
theorem own_emptyS2 (w : World) (lo : Nat) : OwnsS2 (w.alloc (.cells #[] 22)) w.heap.size lo (some ⟨w.heap.size, 0, none⟩) 0 0 [] :=
  ⟨[], own_empty w 22 1, rfl, fun i r xs h => by simp at h, fun i j r s _ h => by simp at h⟩
theorem OwnsS2.lift {w : World} {bo lo lo' c : Nat} {A : Option Addr} (h : OwnsS2 w bo lo A 0 c []) : OwnsS2 w bo lo' A 0 c [] := by
  obtain ⟨rs, h1, h2, h3, h4⟩ := h
  have : rs = [] := List.eq_nil_of_length_eq_zero (by simpa using h2)
  subst this
  exact ⟨[], h1, rfl, fun i r xs h => by simp at h, h4⟩
/-- A new row laid behind the others, and the outer slice that has grown. -/
theorem S2_snoc {W0 W w' : World} {bo lo n c c' : Nat} {A A' : Option Addr} {rs : List Sl} {r : Sl} {xss : List (List Int)} {ys : List Int} (h1 : W0.ownsRow bo 22 1 (.slice A n c) n (rs.map Sl.v)) (h2 : rs.length = xss.length)
    (h3 : ∀ (i : Nat) (r : Sl) (xs : List Int), rs[i]? = some r → xss[i]? = some xs → W0.ownsRow lo 3 1 (.slice r.A r.n r.c) r.n (ints xs)) (h4 : Apart rs) (hb : Below W0.heap.size W0 W)
    (hr : W.ownsRow W0.heap.size 3 1 (.slice r.A r.n r.c) r.n (ints ys)) (hlo : lo ≤ W0.heap.size) (hw : W.grownBy w' (Value.slice A n c).ownBlock)
    (ho : w'.ownsRow bo 22 1 (.slice A' (n + 1) c') (n + 1) (rs.map Sl.v ++ [r.v])) : OwnsS2 w' bo lo A' (n + 1) c' (xss ++ [ys]) := by
  have h1W := own_below h1 hb
  refine ⟨rs ++ [r], by simpa using ho, by simp [h2], fun i s xs hs hx => ?_, fun i j s t hij hs ht a b ha hb' => ?_⟩
  · rcases Nat.lt_or_ge i rs.length with hi | hi
    · rw [List.getElem?_append_left hi] at hs
      rw [List.getElem?_append_left (by omega)] at hx
      have o2 := own_below (h3 i s xs hs hx) hb
      exact own_grown o2 hw fun g e => own_ne o2 h1W (by decide) e
    · rw [List.getElem?_append_right hi] at hs
      rw [List.getElem?_append_right (by omega)] at hx
      have hi0 : i - rs.length = 0 := by have := (List.getElem?_eq_some_iff.1 hs).1; simp at this; omega
      rw [hi0] at hs
      rw [← h2, hi0] at hx
      simp at hs hx
      subst hs hx
      exact own_grown (ownsRow_le hr hlo) hw fun g e => own_ne hr h1W (by decide) e
  · have hi : i < rs.length := by have := (List.getElem?_eq_some_iff.1 ht).1; simp at this; omega
    rw [List.getElem?_append_left hi] at hs
    rcases Nat.lt_or_ge j rs.length with hj | hj
    · rw [List.getElem?_append_left hj] at ht
      exact h4 i j s t hij hs ht a b ha hb'
    · rw [List.getElem?_append_right hj] at ht
      have hj0 : j - rs.length = 0 := by have := (List.getElem?_eq_some_iff.1 ht).1; simp at this; omega
      rw [hj0] at ht
      simp at ht
      subst ht
      have hx : xss[i]? = some (xss[i]'(by omega)) := List.getElem?_eq_getElem (by omega)
      have := (own_blk (h3 i s _ hs hx) a ha).2
      have := (own_blk hr b hb').1
      omega
theorem blk_off {A : Option Addr} {lo hi base top n c : Nat} (hA : Blk A lo hi) (h : hi ≤ base ∨ top ≤ lo) : ∀ b, (Value.slice A n c).ownBlock = some b → b < base ∨ top ≤ b := by
  intro b hb
  cases A with
  | none => cases hb
  | some a =>
    have a1 := hA a rfl
    have e : a.block = b := by injection hb
    omega
theorem below_onto {a W w' : World} {B : Nat} (h0 : Below a.heap.size a W) (hb : Below B W w') (hB : B ≤ a.heap.size) : Below B a w' := (h0.mono hB).trans hb
end Go.Proofs.Ytcdachkaalkjlaa
