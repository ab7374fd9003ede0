/- Plain law: an exchange of neighbours that stand wrong takes one inversion away, and the exchanges that sort; no condition. -/
import Derived.Test.YtkpgfmkmbgapmaaInv
import Derived.Test.YtkpgfmkmbgapmaaSwap
namespace Go.Proofs.Ytkpgfmkmbgapmaa
open Go.ChangeShapes Go.WideShapes Go.ChangeAt Go.RowKit Go.Deep Go.Joins
set_option maxRecDepth 100000

def invL : List Int → Int
  | [] => 0
  | x :: r => ((r.countP fun y => decide (y < x) : Nat) : Int) + invL r
theorem invL_nonneg (xs : List Int) : 0 ≤ invL xs := by
  induction xs with
  | nil => simp [invL]
  | cons x r ih => simp only [invL]; omega
theorem invL_snoc (l : List Int) (z : Int) : invL (l ++ [z]) = invL l + ((l.countP fun y => decide (z < y) : Nat) : Int) := by
  induction l with
  | nil => simp [invL]
  | cons x r ih =>
    simp only [List.cons_append, invL, List.countP_append, List.countP_cons, List.countP_nil, ih]
    by_cases h : z < x <;> simp [h] <;> omega
theorem take_none {α : Type} {l : List α} {k : Nat} (h : l[k]? = none) : l.take (k + 1) = l.take k := by
  have := List.getElem?_eq_none_iff.1 h
  rw [List.take_of_length_le this, List.take_of_length_le (by omega)]
theorem invIn_count (xs : List Int) (z : Int) (i : Nat) : invIn xs z i = (((xs.take i).countP fun y => decide (z < y) : Nat) : Int) := by
  induction i with
  | zero => simp [invIn]
  | succ i ih =>
    rw [invIn]
    cases h : xs[i]? with
    | none => rw [take_none h, ← ih]; simp
    | some y =>
      rw [take_snoc h, List.countP_append, ih]
      by_cases hz : z < y <;> simp [hz]
theorem invTo_take (xs : List Int) (k : Nat) : invTo xs k = invL (xs.take k) := by
  induction k with
  | zero => simp [invTo, invL]
  | succ k ih =>
    rw [invTo]
    cases h : xs[k]? with
    | none => rw [take_none h, ← ih]; simp
    | some z => rw [take_snoc h, invL_snoc, ih]; simp only [invIn_count]
theorem invTo_all (xs : List Int) : invTo xs xs.length = invL xs := by rw [invTo_take, List.take_length]
theorem invL_swap (l r : List Int) (a b : Int) : invL (l ++ b :: a :: r) + (if b < a then 1 else 0) = invL (l ++ a :: b :: r) + (if a < b then 1 else 0) := by
  induction l with
  | nil =>
    simp only [List.nil_append, invL, List.countP_cons]
    by_cases h1 : b < a <;> by_cases h2 : a < b <;> simp [h1, h2] <;> omega
  | cons x l ih =>
    simp only [List.cons_append, invL, List.countP_append, List.countP_cons]
    omega
theorem swapN_form {xs : List Int} {j : Nat} {a b : Int} (ha : xs[j]? = some a) (hb : xs[j + 1]? = some b) :
    xs = xs.take j ++ a :: b :: xs.drop (j + 2) ∧ swapN xs j = xs.take j ++ b :: a :: xs.drop (j + 2) := by
  have hl1 := (List.getElem?_eq_some_iff.1 ha).1
  have s1 : xs = xs.take j ++ a :: b :: xs.drop (j + 2) := by
    rw [← drop_cons hb, ← drop_cons ha, List.take_append_drop]
  have t1 : (xs.take j).length = j := by simp; omega
  refine ⟨s1, ?_⟩
  rw [swapN_at ha hb]
  conv => lhs; rw [s1]
  rw [set_append_cons _ _ _ _ t1.symm, List.append_cons, set_append_cons _ _ _ _ (by simp [t1]), ← List.append_cons]
theorem swapN_perm (xs : List Int) (j : Nat) : (swapN xs j).Perm xs := by
  cases ha : xs[j]? with
  | none => simp [swapN, ha]
  | some a =>
    cases hb : xs[j + 1]? with
    | none => simp [swapN, ha, hb]
    | some b =>
      obtain ⟨s1, s2⟩ := swapN_form ha hb
      rw [s2]
      conv => rhs; rw [s1]
      exact List.Perm.append_left _ (List.Perm.swap a b _)
theorem invL_swapN {xs : List Int} {j : Nat} {a b : Int} (ha : xs[j]? = some a) (hb : xs[j + 1]? = some b) : invL (swapN xs j) + (if b < a then 1 else 0) = invL xs + (if a < b then 1 else 0) := by
  obtain ⟨s1, s2⟩ := swapN_form ha hb
  have h := invL_swap (xs.take j) (xs.drop (j + 2)) a b
  rwa [← s1, ← s2] at h
theorem invL_drop {xs : List Int} {j : Nat} {a b : Int} (ha : xs[j]? = some a) (hb : xs[j + 1]? = some b) (h : b < a) : invL xs = invL (swapN xs j) + 1 := by
  have := invL_swapN ha hb
  rw [if_pos h, if_neg (by omega)] at this
  omega
theorem orderOk_perm {xs ys : List Int} (h : xs.Perm ys) : orderOk xs = orderOk ys := by
  unfold orderOk
  rw [h.length_eq]
  congr 1
  rw [h.nodup_iff]
  have e : (∀ x ∈ xs, 0 ≤ x ∧ x ≤ (ys.length : Int) - 1) ↔ ∀ x ∈ ys, 0 ≤ x ∧ x ≤ (ys.length : Int) - 1 :=
    ⟨fun g x hx => g x (h.mem_iff.2 hx), fun g x hx => g x (h.mem_iff.1 hx)⟩
  rw [e]
theorem orderOk_swapN {xs : List Int} (h : orderOk xs = true) (j : Nat) : orderOk (swapN xs j) = true := (orderOk_perm (swapN_perm xs j)).trans h
theorem orderOk_ne {xs : List Int} (h : orderOk xs = true) {i j : Nat} {a b : Int} (hij : i < j) (ha : xs[i]? = some a) (hb : xs[j]? = some b) : a ≠ b := by
  obtain ⟨_, _, _, h4⟩ := of_decide_eq_true h
  have h1 := List.getElem?_eq_some_iff.1 ha
  have h2 := List.getElem?_eq_some_iff.1 hb
  have := List.pairwise_iff_getElem.1 h4 i j h1.1 h2.1 hij
  rwa [h1.2, h2.2] at this
theorem invL_up {xs : List Int} (h : xs.Pairwise (· < ·)) : invL xs = 0 := by
  induction xs with
  | nil => rfl
  | cons x r ih =>
    obtain ⟨h1, h2⟩ := List.pairwise_cons.1 h
    have : (r.countP fun y => decide (y < x)) = 0 := List.countP_eq_zero.2 fun y hy => by have := h1 y hy; simp; omega
    simp [invL, ih h2, this]
theorem countInv_inv {xs : List Int} (h : orderOk xs = true) : countInv xs = invL xs := by rw [countInv_yes h, invTo_all]

/-- The first place whose neighbours stand wrong. -/
def firstDrop : List Int → Option Nat
  | a :: b :: r => if b < a then some 0 else (firstDrop (b :: r)).map (· + 1)
  | _ => none
theorem UpTo.tail {x : Int} {xs : List Int} {k : Nat} (h : UpTo (x :: xs) (k + 1)) : UpTo xs k :=
  fun i a b hi ha hb => h (i + 1) a b (by omega) (by simpa using ha) (by simpa using hb)
theorem firstDrop_some {xs : List Int} {k : Nat} {a b : Int} (h : UpTo xs (k + 1)) (ha : xs[k]? = some a) (hb : xs[k + 1]? = some b) (hlt : b < a) : firstDrop xs = some k := by
  induction k generalizing xs with
  | zero =>
    match xs, ha, hb with
    | x :: y :: r, ha, hb =>
      simp at ha hb
      subst ha hb
      simp [firstDrop, hlt]
  | succ k ih =>
    match xs, h, ha, hb with
    | x :: y :: r, h, ha, hb =>
      have hxy : x < y := h 0 x y (by omega) rfl rfl
      have := ih (xs := y :: r) h.tail (by simpa using ha) (by simpa using hb)
      simp [firstDrop, this]
      omega
    | [x], _, ha, _ => simp at ha
    | [], _, ha, _ => simp at ha
theorem drop_there {xs : List Int} (ho : orderOk xs = true) (h : 0 < invL xs) : ∃ k a b, UpTo xs (k + 1) ∧ xs[k]? = some a ∧ xs[k + 1]? = some b ∧ b < a := by
  refine Classical.byContradiction fun hno => ?_
  have up : ∀ k, UpTo xs k := by
    intro k
    induction k with
    | zero => exact fun i x y hi => absurd hi (by omega)
    | succ k ih =>
      rcases k with _ | k
      · exact fun i x y hi => absurd hi (by omega)
      · intro i x y hi hx hy
        rcases Nat.lt_or_ge (i + 1) (k + 1) with h1 | h1
        · exact ih i x y h1 hx hy
        · obtain rfl : i = k := by omega
          have hne := orderOk_ne ho (Nat.lt_succ_self i) hx hy
          rcases Int.lt_or_gt_of_ne hne with h2 | h2
          · exact h2
          · exact absurd ⟨i, x, y, ih, hx, hy, h2⟩ hno
  have hp : xs.Pairwise (· < ·) := of_decide_eq_true (UpTo.all (up xs.length))
  have := invL_up hp
  omega
def sortSw : Nat → List Int → List Int
  | 0, _ => []
  | f + 1, xs => match firstDrop xs with
    | none => []
    | some k => (k : Int) :: sortSw f (swapN xs k)
theorem sortSw_step {f : Nat} {xs : List Int} {k : Nat} {a b : Int} (h : UpTo xs (k + 1)) (ha : xs[k]? = some a) (hb : xs[k + 1]? = some b) (hlt : b < a) :
    sortSw (f + 1) xs = (k : Int) :: sortSw f (swapN xs k) := by simp [sortSw, firstDrop_some h ha hb hlt]
def sortingSwaps (xs : List Int) : List Int := if orderOk xs then sortSw (invL xs).toNat xs else []
theorem sortingSwaps_no {xs : List Int} (h : orderOk xs = false) : sortingSwaps xs = [] := by simp [sortingSwaps, h]
/-- A state on the way: the exchanges so far, and what is left. -/
structure SortSt (xs out now : List Int) (f : Nat) : Prop where
  ok : orderOk now = true
  len : now.length = xs.length
  inv : invL now = f
  all : sortingSwaps xs = out ++ sortSw f now
  sum : out.length + f = (invL xs).toNat
theorem SortSt.start {xs : List Int} (h : orderOk xs = true) : SortSt xs [] xs (invL xs).toNat :=
  ⟨h, rfl, by have := invL_nonneg xs; omega, by simp [sortingSwaps, h], by simp⟩
theorem SortSt.pos {xs out now : List Int} {f : Nat} (s : SortSt xs out now f) {k : Nat} {a b : Int} (ha : now[k]? = some a) (hb : now[k + 1]? = some b) (hlt : b < a) : ∃ f', f = f' + 1 := by
  have h1 := invL_drop ha hb hlt
  have h2 := invL_nonneg (swapN now k)
  have h3 := s.inv
  exact ⟨f - 1, by omega⟩
theorem SortSt.next {xs out now : List Int} {f : Nat} (s : SortSt xs out now (f + 1)) {k : Nat} {a b : Int} (h : UpTo now (k + 1)) (ha : now[k]? = some a) (hb : now[k + 1]? = some b) (hlt : b < a) :
    SortSt xs (out ++ [(k : Int)]) (swapN now k) f := by
  refine ⟨orderOk_swapN s.ok k, by rw [swapN_len, s.len], ?_, ?_, ?_⟩
  · have h1 := invL_drop ha hb hlt
    have h3 := s.inv
    omega
  · rw [s.all, sortSw_step h ha hb hlt]; simp
  · have := s.sum
    simp; omega
theorem SortSt.done {xs out now : List Int} (s : SortSt xs out now 0) : sortingSwaps xs = out := by rw [s.all]; simp [sortSw]
theorem SortSt.stop {xs out now : List Int} {f : Nat} (s : SortSt xs out now f) (h : UpTo now now.length) : sortingSwaps xs = out := by
  have hp : now.Pairwise (· < ·) := of_decide_eq_true (UpTo.all h)
  have h1 := invL_up hp
  have h2 := s.inv
  obtain rfl : f = 0 := by omega
  exact s.done
theorem inv_short {xs : List Int} (h : orderOk xs = true) : (invL xs).toNat ≤ 64 := by
  have h7 := orderOk_short h
  have := invTo_bd xs (k := xs.length) (by omega)
  rw [invTo_all] at this
  omega
end Go.Proofs.Ytkpgfmkmbgapmaa
