/- Plain law: insertion keeps what a list holds and orders it; no condition. -/
import Derived.Test.YtcdachkaalkjlaaKit
namespace Go.Proofs.Ytcdachkaalkjlaa
open Go.ChangeShapes Go.WideShapes Go.ChangeAt Go.RowKit Go.Deep Go.Joins
set_option maxRecDepth 100000

def putL (n : Int) : List Int → List Int
  | [] => [n]
  | y :: ys => if n ≤ y then n :: y :: ys else y :: putL n ys
theorem putL_perm (n : Int) (xs : List Int) : (putL n xs).Perm (n :: xs) := by
  induction xs with
  | nil => exact List.Perm.refl _
  | cons y ys ih =>
    unfold putL
    split
    · exact List.Perm.refl _
    · exact (List.Perm.cons y ih).trans (List.Perm.swap n y ys)
theorem putL_len (n : Int) (xs : List Int) : (putL n xs).length = xs.length + 1 := by simpa using (putL_perm n xs).length_eq
theorem putL_up (n : Int) {xs : List Int} (h : xs.Pairwise (· ≤ ·)) : (putL n xs).Pairwise (· ≤ ·) := by
  induction xs with
  | nil => simp [putL]
  | cons y ys ih =>
    rw [List.pairwise_cons] at h
    unfold putL
    split
    · rename_i hle
      refine List.pairwise_cons.2 ⟨fun z hz => ?_, List.pairwise_cons.2 h⟩
      rcases List.mem_cons.1 hz with rfl | hz
      · exact hle
      · exact Int.le_trans hle (h.1 z hz)
    · rename_i hle
      refine List.pairwise_cons.2 ⟨fun z hz => ?_, ih h.2⟩
      rcases List.mem_cons.1 ((putL_perm n ys).mem_iff.1 hz) with rfl | hz
      · omega
      · exact h.1 z hz
def sortTo (xs : List Int) (k : Nat) : List Int := (xs.take k).foldl (fun acc x => putL x acc) []
theorem sortTo_step {xs : List Int} {k : Nat} {x : Int} (hx : xs[k]? = some x) : sortTo xs (k + 1) = putL x (sortTo xs k) := by simp [sortTo, take_snoc hx]
def sortL (xs : List Int) : List Int := sortTo xs xs.length
theorem sortTo_perm (xs : List Int) (k : Nat) : (sortTo xs k).Perm (xs.take k) := by
  induction k with
  | zero => simp [sortTo]
  | succ k ih =>
    rcases Nat.lt_or_ge k xs.length with h | h
    · have hx := List.getElem?_eq_getElem h
      rw [sortTo_step hx, take_snoc hx]
      exact (putL_perm _ _).trans ((List.Perm.cons _ ih).trans (List.perm_append_singleton _ _).symm)
    · have e1 : xs.take (k + 1) = xs.take k := by rw [List.take_of_length_le h, List.take_of_length_le (by omega)]
      have e2 : sortTo xs (k + 1) = sortTo xs k := by unfold sortTo; rw [e1]
      rw [e1, e2]
      exact ih
theorem sortTo_up (xs : List Int) (k : Nat) : (sortTo xs k).Pairwise (· ≤ ·) := by
  induction k with
  | zero => simp [sortTo]
  | succ k ih =>
    rcases Nat.lt_or_ge k xs.length with h | h
    · rw [sortTo_step (List.getElem?_eq_getElem h)]
      exact putL_up _ ih
    · have e1 : xs.take (k + 1) = xs.take k := by rw [List.take_of_length_le h, List.take_of_length_le (by omega)]
      have e2 : sortTo xs (k + 1) = sortTo xs k := by unfold sortTo; rw [e1]
      rw [e2]
      exact ih
theorem sortTo_len {xs : List Int} {k : Nat} (h : k ≤ xs.length) : (sortTo xs k).length = k := by
  have := (sortTo_perm xs k).length_eq
  rw [this, List.length_take]
  omega
theorem sortL_perm (xs : List Int) : (sortL xs).Perm xs := by have := sortTo_perm xs xs.length; rwa [List.take_length] at this
theorem sortL_up (xs : List Int) : (sortL xs).Pairwise (· ≤ ·) := sortTo_up xs _
theorem sortL_len (xs : List Int) : (sortL xs).length = xs.length := (sortL_perm xs).length_eq
theorem sortL_strict (xs : List Int) : (sortL xs).Pairwise (· < ·) ↔ xs.Nodup := by
  rw [← (sortL_perm xs).nodup_iff]
  constructor
  · intro h
    exact h.imp (fun h => by omega)
  · intro h
    exact (List.Pairwise.and (sortL_up xs) h).imp (fun h => by omega)

def inAll (xs : List Int) (a b : Int) : Bool := decide (∀ x ∈ xs, a ≤ x ∧ x ≤ b)
def strictUp (xs : List Int) : Bool := decide (xs.Pairwise (· < ·))
def isStrictL (xs : List Int) (a b : Int) : Bool := strictUp xs && inAll xs a b
def orderOk (xs : List Int) : Bool := decide (1 ≤ xs.length ∧ xs.length ≤ 7 ∧ (∀ x ∈ xs, 0 ≤ x ∧ x ≤ (xs.length : Int) - 1) ∧ xs.Nodup)
theorem orderOk_sorted (xs : List Int) : orderOk xs = (decide (1 ≤ xs.length ∧ xs.length ≤ 7) && isStrictL (sortL xs) 0 ((xs.length : Int) - 1)) := by
  have e : (∀ x ∈ sortL xs, 0 ≤ x ∧ x ≤ (xs.length : Int) - 1) ↔ ∀ x ∈ xs, 0 ≤ x ∧ x ≤ (xs.length : Int) - 1 := by
    constructor
    · intro h x hx; exact h x ((sortL_perm xs).mem_iff.2 hx)
    · intro h x hx; exact h x ((sortL_perm xs).mem_iff.1 hx)
  unfold orderOk isStrictL strictUp inAll
  rw [← Bool.decide_and, ← Bool.decide_and]
  congr 1
  rw [sortL_strict, e]
  refine propext ⟨fun ⟨a, b, c, d⟩ => ⟨⟨a, b⟩, d, c⟩, fun ⟨⟨a, b⟩, d, c⟩ => ⟨a, b, c, d⟩⟩

/-- Neighbours ascend, up to a place. -/
def UpTo (xs : List Int) (k : Nat) : Prop := ∀ i x y, i + 1 < k → xs[i]? = some x → xs[i + 1]? = some y → x < y
theorem UpTo.next {xs : List Int} {k : Nat} {x y : Int} (h : UpTo xs (k + 1)) (hx : xs[k]? = some x) (hy : xs[k + 1]? = some y) (hlt : x < y) : UpTo xs (k + 2) := by
  intro i a b hi ha hb
  rcases Nat.lt_or_ge (i + 1) (k + 1) with h1 | h1
  · exact h i a b h1 ha hb
  · obtain rfl : i = k := by omega
    rw [hx] at ha; rw [hy] at hb
    obtain rfl := Option.some.inj ha
    obtain rfl := Option.some.inj hb
    exact hlt
theorem UpTo.all {xs : List Int} (h : UpTo xs xs.length) : strictUp xs = true := by
  refine decide_eq_true ?_
  induction xs with
  | nil => simp
  | cons x xs ih =>
    have h' : UpTo xs xs.length := fun i a b hi ha hb => h (i + 1) a b (by simp; omega) (by simpa using ha) (by simpa using hb)
    have hp := ih h'
    refine List.pairwise_cons.2 ⟨fun z hz => ?_, hp⟩
    cases xs with
    | nil => cases hz
    | cons y ys =>
      have hxy : x < y := h 0 x y (by simp) rfl rfl
      rcases List.mem_cons.1 hz with rfl | hz
      · exact hxy
      · exact Int.lt_trans hxy ((List.pairwise_cons.1 hp).1 z hz)
theorem strictUp_no {xs : List Int} {k : Nat} {x y : Int} (hx : xs[k]? = some x) (hy : xs[k + 1]? = some y) (h : y ≤ x) : strictUp xs = false := by
  refine decide_eq_false fun hp => ?_
  have h1 := (List.getElem?_eq_some_iff.1 hx)
  have h2 := (List.getElem?_eq_some_iff.1 hy)
  have := List.pairwise_iff_getElem.1 hp k (k + 1) h1.1 h2.1 (by omega)
  rw [h1.2, h2.2] at this
  omega
def InUpTo (xs : List Int) (a b : Int) (k : Nat) : Prop := ∀ i x, i < k → xs[i]? = some x → a ≤ x ∧ x ≤ b
theorem InUpTo.next {xs : List Int} {a b x : Int} {k : Nat} (h : InUpTo xs a b k) (hx : xs[k]? = some x) (h1 : a ≤ x) (h2 : x ≤ b) : InUpTo xs a b (k + 1) := by
  intro i y hi hy
  rcases Nat.lt_or_ge i k with hlt | hge
  · exact h i y hlt hy
  · obtain rfl : i = k := by omega
    rw [hx] at hy
    obtain rfl := Option.some.inj hy
    exact ⟨h1, h2⟩
theorem InUpTo.all {xs : List Int} {a b : Int} {k : Nat} (h : InUpTo xs a b k) (hk : xs.length ≤ k) : inAll xs a b = true := by
  refine decide_eq_true fun x hx => ?_
  obtain ⟨i, hi⟩ := List.getElem?_of_mem hx
  exact h i x (by have := (List.getElem?_eq_some_iff.1 hi).1; omega) hi
theorem inAll_no {xs : List Int} {a b x : Int} {k : Nat} (hx : xs[k]? = some x) (h : x < a ∨ b < x) : inAll xs a b = false :=
  decide_eq_false fun h1 => by have := h1 x (List.mem_of_getElem? hx); omega
theorem inAll_at {xs : List Int} {a b x : Int} {k : Nat} (h : inAll xs a b = true) (hx : xs[k]? = some x) : a ≤ x ∧ x ≤ b := of_decide_eq_true h x (List.mem_of_getElem? hx)
end Go.Proofs.Ytcdachkaalkjlaa
