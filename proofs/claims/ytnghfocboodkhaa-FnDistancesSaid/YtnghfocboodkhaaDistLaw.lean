/- Plain law of distances: the farthest joints and the center; neighbours on the way; no program in sight. -/
import Derived.Test.YtnghfocboodkhaaPathI
import Derived.Test.YtnghfocboodkhaaSpan
import Derived.Test.YtnghfocboodkhaaShape
namespace Go.Proofs.Ytnghfocboodkhaa
open Go.ChangeShapes Go.WideShapes Go.ChangeAt Go.RowKit Go.Deep Go.Joins
set_option maxRecDepth 100000

theorem maxTo_ge {f : Nat → Int} {v : Nat} : ∀ {n : Nat}, v < n → f v ≤ maxTo f n := by
  intro n
  induction n with
  | zero => intro h; omega
  | succ n ih =>
    intro h
    have e : maxTo f (n + 1) = max (maxTo f n) (f n) := rfl
    rw [e]
    rcases Nat.lt_or_ge v n with h1 | h1
    · have := ih h1; omega
    · obtain rfl : v = n := by omega
      omega
theorem maxTo_at {f : Nat → Int} : ∀ (n : Nat), maxTo f n = 0 ∨ ∃ v, v < n ∧ maxTo f n = f v := by
  intro n
  induction n with
  | zero => exact .inl rfl
  | succ n ih =>
    have e : maxTo f (n + 1) = max (maxTo f n) (f n) := rfl
    rw [e]
    by_cases h : maxTo f n ≤ f n
    · exact .inr ⟨n, by omega, by omega⟩
    · rcases ih with h0 | ⟨v, hv, hv2⟩
      · left; omega
      · exact .inr ⟨v, by omega, by omega⟩
theorem link_dist {N J u v : Nat} {ls : List Lb} (t : Tree N ls) (hJ : J < N) (l : Link N ls (dist N ls J) u v) : dist N ls u v = dist N ls J u - dist N ls J v := by
  obtain ⟨y, hy, ha⟩ := l.ex
  have h1 := l.all y hy ha
  have h2 := t.lipd l.hu y hy
  have h3 := t.self l.hu
  have h4 := t.tri hJ l.hu l.hv
  have h5 := t.symm l.hu l.hv
  rcases ha with ⟨e1, e2⟩ | ⟨e1, e2⟩
  · rw [e1, e2] at h2; omega
  · rw [e1, e2] at h2; omega
theorem far_span {N c : Nat} {ls : List Lb} (t : Tree N ls) (hc : c < N) : far N ls c ≤ maxTo (far N ls) N ∧ maxTo (far N ls) N ≤ 2 * far N ls c := by
  refine ⟨maxTo_ge hc, ?_⟩
  have h0 := (far_bd t c hc).1
  rcases maxTo_at (f := far N ls) N with h | ⟨x, hx, h⟩
  · omega
  · rw [h]
    rcases maxTo_at (f := dist N ls x) N with h2 | ⟨y, hy, h2⟩
    · unfold far at *; omega
    · have h3 := t.tri hx hy hc
      have h4 := t.symm hx hc
      have h5 := maxTo_ge (f := dist N ls c) hx
      have h6 := maxTo_ge (f := dist N ls c) hy
      unfold far at *
      omega
theorem dist_span {N i j : Nat} {ls : List Lb} (hi : i < N) (hj : j < N) : dist N ls i j ≤ maxTo (far N ls) N := by
  have h1 := maxTo_ge (f := far N ls) hi
  have h2 := maxTo_ge (f := dist N ls i) hj
  unfold far at *
  omega
theorem cent_lt {N : Nat} (f : Nat → Int) (h : 0 < N) : centTo f N < N := by
  cases N with
  | zero => omega
  | succ n => exact centTo_lt f n
/-- The sum of the distances on the way up to a place. -/
theorem shape_self {N : Nat} {ls : List Lb} (h : bodyOk (N : Int) ls = true) : sameShape (N : Int) ls (N : Int) ls = true := shape_yes h h fun i _ => decide_eq_true rfl
theorem isJ_in {N i : Nat} {ls : List Lb} (h : bodyOk (N : Int) ls = true) (hi : i < N) : isJ (N : Int) ls (i : Int) = true := by
  simp only [isJ, h, Bool.true_and]; exact decide_eq_true (by omega)
theorem pathOf_in {N i j : Nat} {ls : List Lb} (h : bodyOk (N : Int) ls = true) (hi : i < N) (hj : j < N) : pathOf (N : Int) ls (i : Int) (j : Int) = chI ls (dist N ls j) j i := by
  simp [pathOf, isJ_in h hi, isJ_in h hj]
end Go.Proofs.Ytnghfocboodkhaa
