/- Plain law of places: the sorting exchanges are as many as the inversions and sort; exchanging twice gives the order back; no program in sight. -/
import Derived.Test.YtbdiknfgfnibnaaInvLaw
import Derived.Test.YtbdiknfgfnibnaaAfter
namespace Go.Proofs.Ytbdiknfgfnibnaa
open Go.ChangeShapes Go.WideShapes Go.ChangeAt Go.RowKit Go.Deep Go.Joins
set_option maxRecDepth 100000

theorem sort_law : ∀ (f : Nat) (xs : List Int), orderOk xs = true → invL xs = (f : Int) →
    (sortSw f xs).length = f ∧ ∃ now, afterRun xs (sortSw f xs) = some now ∧ orderOk now = true ∧ invL now = 0 ∧ now.Perm xs := by
  intro f
  induction f with
  | zero => intro xs h hi; exact ⟨rfl, xs, rfl, h, hi, List.Perm.refl _⟩
  | succ f ih =>
    intro xs h hi
    obtain ⟨k, a, b, hu, ha, hb, hlt⟩ := drop_there h (by omega)
    have hd := invL_drop ha hb hlt
    obtain ⟨h1, now, h2, h3, h4, h5⟩ := ih (swapN xs k) (orderOk_swapN h k) (by omega)
    rw [sortSw_step hu ha hb hlt]
    have hk := (List.getElem?_eq_some_iff.1 hb).1
    have hs : swapOk xs (k : Int) = true := swapOk_yes h (by omega) (by omega)
    refine ⟨by simp [h1], now, ?_, h3, h4, h5.trans (swapN_perm xs k)⟩
    rw [afterRun_cons, if_pos hs, swapAt_yes hs, Int.toNat_natCast]
    exact h2
theorem zero_up {xs : List Int} (h : orderOk xs = true) (hi : invL xs = 0) : ∀ i x y, xs[i]? = some x → xs[i + 1]? = some y → x < y := by
  intro i x y hx hy
  have hne := orderOk_ne h (show i < i + 1 by omega) hx hy
  rcases Int.lt_or_le x y with hlt | hle
  · exact hlt
  · have := invL_drop hx hy (by omega)
    have := invL_nonneg (swapN xs i)
    omega
theorem up_far {xs : List Int} (h : ∀ i x y, xs[i]? = some x → xs[i + 1]? = some y → x < y) : ∀ (d i : Nat) (x y : Int), xs[i]? = some x → xs[i + d]? = some y → x + d ≤ y := by
  intro d
  induction d with
  | zero => intro i x y hx hy; rw [Nat.add_zero, hx] at hy; injection hy with hy; omega
  | succ d ih =>
    intro i x y hx hy
    have hl := (List.getElem?_eq_some_iff.1 hy).1
    have hz : xs[i + d]? = some (xs[i + d]'(by omega)) := List.getElem?_eq_getElem (by omega)
    have h1 := ih i x _ hx hz
    have h2 := h (i + d) _ y hz hy
    omega
theorem orderOk_in {xs : List Int} (h : orderOk xs = true) : ∀ x ∈ xs, 0 ≤ x ∧ x ≤ (xs.length : Int) - 1 := (of_decide_eq_true h).2.2.1
theorem up_id {xs : List Int} (h : orderOk xs = true) (hi : invL xs = 0) {k : Nat} {x : Int} (hx : xs[k]? = some x) : x = (k : Int) := by
  have hk := (List.getElem?_eq_some_iff.1 hx).1
  have h0 : xs[0]? = some (xs[0]'(by omega)) := List.getElem?_eq_getElem (by omega)
  have hl : xs[k + (xs.length - 1 - k)]? = some (xs[k + (xs.length - 1 - k)]'(by omega)) := List.getElem?_eq_getElem (by omega)
  have a1 := up_far (zero_up h hi) k 0 _ x h0 (by rw [Nat.zero_add]; exact hx)
  have a2 := up_far (zero_up h hi) _ k x _ hx hl
  have b1 := orderOk_in h _ (List.mem_of_getElem? h0)
  have b2 := orderOk_in h _ (List.mem_of_getElem? hl)
  omega
theorem placeIn_first {v : Int} : ∀ (xs : List Int) (k0 : Nat), v ∈ xs → ∃ i, xs[i]? = some v ∧ placeIn v xs k0 = ((k0 + i : Nat) : Int) := by
  intro xs
  induction xs with
  | nil => intro k0 h; cases h
  | cons x xs ih =>
    intro k0 h
    rw [placeIn_cons]
    by_cases hx : x = v
    · rw [if_pos hx]; exact ⟨0, by simp [hx], rfl⟩
    · rw [if_neg hx]
      obtain ⟨i, h1, h2⟩ := ih (k0 + 1) (by rcases List.mem_cons.1 h with h | h; exact absurd h.symm hx; exact h)
      exact ⟨i + 1, by simpa using h1, by rw [h2]; omega⟩
theorem sort_all {xs : List Int} (h : orderOk xs = true) : (sortingSwaps xs).length = (invL xs).toNat ∧ ∃ now, afterRun xs (sortingSwaps xs) = some now ∧ orderOk now = true ∧ invL now = 0 ∧ now.Perm xs := by
  have := invL_nonneg xs
  have e : sortingSwaps xs = sortSw (invL xs).toNat xs := by simp [sortingSwaps, h]
  rw [e]
  exact sort_law _ xs h (by omega)
theorem order_has {xs : List Int} (h : orderOk xs = true) {k : Nat} (hk : k < xs.length) : (k : Int) ∈ xs := by
  obtain ⟨_, now, _, h3, h4, h5⟩ := sort_all h
  have hl := h5.length_eq
  have hx : now[k]? = some (now[k]'(by omega)) := List.getElem?_eq_getElem (by omega)
  have := up_id h3 h4 hx
  rw [this] at hx
  exact h5.mem_iff.1 (List.mem_of_getElem? hx)
theorem place_at {xs : List Int} (h : orderOk xs = true) {k : Nat} (hk : k < xs.length) : ∃ i, i < xs.length ∧ xs[i]? = some (k : Int) ∧ placeOf xs (k : Int) = (i : Int) := by
  obtain ⟨i, h1, h2⟩ := placeIn_first xs 0 (order_has h hk)
  exact ⟨i, (List.getElem?_eq_some_iff.1 h1).1, h1, by rw [placeOf_yes h, h2, Nat.zero_add]⟩
theorem place_id {xs : List Int} (h : orderOk xs = true) (hi : invL xs = 0) {k : Nat} (hk : k < xs.length) : placeOf xs (k : Int) = (k : Int) := by
  obtain ⟨i, h1, h2, h3⟩ := place_at h hk
  have := up_id h hi h2
  rw [h3]; omega
theorem swap_back {xs : List Int} {j : Nat} {a b : Int} (ha : xs[j]? = some a) (hb : xs[j + 1]? = some b) : (swapN xs j)[j]? = some b ∧ (swapN xs j)[j + 1]? = some a ∧ swapN (swapN xs j) j = xs := by
  have l1 := (List.getElem?_eq_some_iff.1 hb).1
  have h1 : (swapN xs j)[j]? = some b := by
    rw [swapN_at ha hb, List.getElem?_set_ne (by omega), List.getElem?_set_self (by omega)]
  have h2 : (swapN xs j)[j + 1]? = some a := by
    rw [swapN_at ha hb, List.getElem?_set_self (by simp; omega)]
  refine ⟨h1, h2, ?_⟩
  rw [swapN_at h1 h2, swapN_at ha hb]
  apply List.ext_getElem?
  intro i
  by_cases hi1 : i = j + 1
  · subst hi1
    rw [List.getElem?_set_self (by simp; omega), hb]
  · rw [List.getElem?_set_ne (by omega)]
    by_cases hi0 : i = j
    · subst hi0
      rw [List.getElem?_set_self (by simp; omega), ha]
    · rw [List.getElem?_set_ne (by omega), List.getElem?_set_ne (by omega), List.getElem?_set_ne (by omega)]
theorem swap_count {xs : List Int} (h : orderOk xs = true) {j : Nat} {a b : Int} (ha : xs[j]? = some a) (hb : xs[j + 1]? = some b) : countInv (swapN xs j) - countInv xs = if b < a then -1 else 1 := by
  rw [countInv_inv h, countInv_inv (orderOk_swapN h j)]
  have := invL_swapN ha hb
  have hne := orderOk_ne h (show j < j + 1 by omega) ha hb
  by_cases hlt : b < a
  · rw [if_pos hlt] at this ⊢
    rw [if_neg (by omega)] at this
    omega
  · rw [if_neg hlt] at this ⊢
    rw [if_pos (by omega)] at this
    omega
theorem invL_le : ∀ xs : List Int, xs.length ≤ 7 → invL xs ≤ 6 * (xs.length : Int) := by
  intro xs
  induction xs with
  | nil => intro _; simp [invL]
  | cons x xs ih =>
    intro h
    simp only [List.length_cons] at h
    have h1 := ih (by omega)
    have h2 := List.countP_le_length (p := fun y => decide (y < x)) (l := xs)
    simp only [invL, List.length_cons]
    omega
theorem inv_42 {xs : List Int} (h : orderOk xs = true) : (invL xs).toNat ≤ 42 := by
  have := orderOk_short h
  have := invL_le xs this.2
  omega
end Go.Proofs.Ytbdiknfgfnibnaa
