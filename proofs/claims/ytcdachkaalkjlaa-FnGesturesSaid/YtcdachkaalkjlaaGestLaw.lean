/- Plain law of smoothed gestures: their number, their ends, their steps; no program in sight. -/
import Derived.Test.YtcdachkaalkjlaaSmooth
import Derived.Test.YtcdachkaalkjlaaGest
namespace Go.Proofs.Ytcdachkaalkjlaa
open Go.ChangeShapes Go.WideShapes Go.ChangeAt Go.RowKit Go.Deep Go.Joins
set_option maxRecDepth 100000

theorem smL_law {n : Int} {ls : List Lb} {q : List Int} (hq : poseOk n ls q = true) : ∀ (f : Nat) (p : List Int), poseOk n ls p = true → p.length = q.length → stepTo p q p.length ≤ 12 * f →
    ((p :: smL 12 q f p).length : Int) = 1 + (stepTo p q p.length + 11) / 12 ∧ (p :: smL 12 q f p)[(smL 12 q f p).length]? = some q ∧
    ∀ (k : Nat) (x y : List Int), (p :: smL 12 q f p)[k]? = some x → (p :: smL 12 q f p)[k + 1]? = some y → poseOk n ls y = true ∧ stepSize x y ≤ 12 := by
  intro f
  induction f with
  | zero =>
    intro p hp hl hs
    have h0 := stepTo_nn p q p.length
    have e : stepTo p q p.length = 0 := by simp at hs; omega
    have hpq := stepTo_zero hl e
    rw [e]
    refine ⟨by simp [smL], by simp [smL, hpq], fun k x y hx hy => ?_⟩
    simp [smL] at hy
  | succ f ih =>
    intro p hp hl hs
    by_cases hpq : p = q
    · subst hpq
      rw [smL_stop, stepTo_self]
      refine ⟨by simp, by simp, fun k x y hx hy => ?_⟩
      simp at hy
    · rw [smL_step hpq]
      have hnx := nx_pose (m := 12) (by omega) hp hq
      have hln := nx_len (m := 12) hl
      have hne := nx_near (m := 12) (by omega) hl
      have h0 := stepTo_nn p q p.length
      have h1 : stepTo p q p.length ≠ 0 := fun e => hpq (stepTo_zero hl e)
      obtain ⟨a1, a2, a3⟩ := ih (nx 12 p q) hnx (by omega) (by rw [hln, hne]; omega)
      rw [hln, hne] at a1
      have hst : stepSize p (nx 12 p q) ≤ 12 := by
        rw [stepSize_yes (pose_step hp hnx)]
        exact nx_small (by omega) hl
      refine ⟨?_, ?_, ?_⟩
      · rw [List.length_cons, Int.natCast_add, a1]
        simp only [Int.natCast_one]
        omega
      · rw [List.length_cons, List.getElem?_cons_succ]
        exact a2
      · intro k x y hx hy
        cases k with
        | zero =>
          simp at hx hy
          subst hx hy
          exact ⟨hnx, hst⟩
        | succ k =>
          rw [List.getElem?_cons_succ] at hx hy
          exact a3 k x y hx hy
section
variable {N : Nat} {ls : List Lb} {p q : List Int}
structure GestFacts (n : Int) (ls : List Lb) (p q : List Int) (s : List (List Int)) (T : Int) : Prop where
  len : (s.length : Int) = 1 + (T + 11) / 12
  pos : 0 < s.length
  first : s[0]? = some p
  last : s[s.length - 1]? = some q
  pose : ∀ (k : Nat) (x : List Int), s[k]? = some x → poseOk n ls x = true
  step : ∀ (k : Nat) (x y : List Int), s[k]? = some x → s[k + 1]? = some y → stepSize x y ≤ 12
theorem gestFacts {n : Int} (hp : poseOk n ls p = true) (hq : poseOk n ls q = true) : GestFacts n ls p q (smoothed n ls p q 12) (stepSize p q) := by
  have fp := poseFacts hp
  have fq := poseFacts hq
  have hl : p.length = q.length := by have := fp.len; have := fq.len; omega
  have hb := stepTo_bd fp.rng fq.rng p.length
  have hok : smoothOk n ls p q 12 = true := by simp [smoothOk, hp, hq]
  obtain ⟨a1, a2, a3⟩ := smL_law hq 401 p hp hl (by omega)
  rw [smoothed_yes hok, stepSize_yes (pose_step hp hq)]
  refine ⟨a1, by simp, rfl, by simpa using a2, fun k x hx => ?_, fun k x y hx hy => (a3 k x y hx hy).2⟩
  cases k with
  | zero => simp at hx; rw [← hx]; exact hp
  | succ k =>
    have hk := (List.getElem?_eq_some_iff.1 hx).1
    exact (a3 k _ x (List.getElem?_eq_getElem (by omega)) hx).1
theorem GestFacts.gest {n : Int} {s : List (List Int)} {T : Int} (h : GestFacts n ls p q s T) : gestOk n ls s 12 = decide (s.length ≤ 20) := by
  have hp := h.pos
  by_cases hl : s.length ≤ 20
  · rw [decide_eq_true hl]
    refine gest_yes ⟨by omega, hl⟩ ⟨by omega, by omega⟩ fun k hk => ?_
    have hx : s[k]? = some (s[k]'hk) := List.getElem?_eq_getElem hk
    cases k with
    | zero => exact gestK_0 hx (h.pose 0 _ hx)
    | succ k =>
      have hy : s[k]? = some (s[k]'(by omega)) := List.getElem?_eq_getElem (by omega)
      rw [gestK_s rfl hx hy (h.pose _ _ hx)]
      exact decide_eq_true (h.step k _ _ hy hx)
  · rw [decide_eq_false hl]
    exact gest_len (by omega)
end
end Go.Proofs.Ytcdachkaalkjlaa
