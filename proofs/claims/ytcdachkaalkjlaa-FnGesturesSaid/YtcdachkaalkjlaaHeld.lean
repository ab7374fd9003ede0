/- Contracts of IsHeld of both sides; no condition beyond the slices' lengths. -/
import Derived.Test.YtcdachkaalkjlaaPose
namespace Go.Proofs.Ytcdachkaalkjlaa
open Go.ChangeShapes Go.WideShapes Go.ChangeAt Go.RowKit Go.Deep Go.Joins
set_option maxRecDepth 100000

def heldAtP (ps qs : List Int) (k : Nat) : Bool := match ps[k]?, qs[k]? with | some p, some h => decide (0 ≤ p → p ≤ h) | _, _ => true
def isHeld (n : Int) (ls : List Lb) (ps qs : List Int) : Bool := (pullsOk n ls ps && poseOk n ls qs) && (List.range ps.length).all (heldAtP ps qs)
theorem isHeld_no1 {n : Int} {ls : List Lb} {ps qs : List Int} (h : pullsOk n ls ps = false) : isHeld n ls ps qs = false := by simp [isHeld, h]
theorem isHeld_no2 {n : Int} {ls : List Lb} {ps qs : List Int} (h : poseOk n ls qs = false) : isHeld n ls ps qs = false := by simp [isHeld, h]
theorem isHeld_bad {n : Int} {ls : List Lb} {ps qs : List Int} {k : Nat} {p h : Int} (hp : ps[k]? = some p) (hq : qs[k]? = some h) (h0 : 0 ≤ p) (hlt : h < p) : isHeld n ls ps qs = false := by
  have h1 : heldAtP ps qs k = false := by
    simp only [heldAtP, hp, hq]
    exact decide_eq_false (by omega)
  have : (List.range ps.length).all (heldAtP ps qs) = false := by
    rw [Bool.eq_false_iff]
    intro ha
    rw [List.all_eq_true.1 ha k (List.mem_range.2 (List.getElem?_eq_some_iff.1 hp).1)] at h1
    cases h1
  simp [isHeld, this]
def HeldTo (ps qs : List Int) (k : Nat) : Prop := ∀ i p h, i < k → ps[i]? = some p → qs[i]? = some h → 0 ≤ p → p ≤ h
theorem HeldTo.zero (ps qs : List Int) : HeldTo ps qs 0 := fun i p h hi => absurd hi (by omega)
theorem HeldTo.next {ps qs : List Int} {k : Nat} {p h : Int} (H : HeldTo ps qs k) (hp : ps[k]? = some p) (hq : qs[k]? = some h) (hh : 0 ≤ p → p ≤ h) : HeldTo ps qs (k + 1) := by
  intro i a b hi ha hb
  rcases Nat.lt_or_ge i k with hlt | hge
  · exact H i a b hlt ha hb
  · obtain rfl : i = k := by omega
    rw [hp] at ha; rw [hq] at hb
    obtain rfl := Option.some.inj ha
    obtain rfl := Option.some.inj hb
    exact hh
theorem isHeld_yes {n : Int} {ls : List Lb} {ps qs : List Int} (h1 : pullsOk n ls ps = true) (h2 : poseOk n ls qs = true) (hk : HeldTo ps qs ps.length) : isHeld n ls ps qs = true := by
  have : (List.range ps.length).all (heldAtP ps qs) = true := by
    refine List.all_eq_true.2 fun k hk' => ?_
    unfold heldAtP
    split
    · rename_i p h hp hq
      exact decide_eq_true (hk k p h (List.mem_range.1 hk') hp hq)
    · rfl
  simp [isHeld, h1, h2, this]
theorem isHeld_facts {n : Int} {ls : List Lb} {ps qs : List Int} (h : isHeld n ls ps qs = true) : pullsOk n ls ps = true ∧ poseOk n ls qs = true ∧ HeldTo ps qs ps.length := by
  simp only [isHeld, Bool.and_eq_true] at h
  refine ⟨h.1.1, h.1.2, fun i p q hi hp hq => ?_⟩
  have := List.all_eq_true.1 h.2 i (List.mem_range.2 hi)
  simp only [heldAtP, hp, hq] at this
  exact of_decide_eq_true this
end Go.Proofs.Ytcdachkaalkjlaa
