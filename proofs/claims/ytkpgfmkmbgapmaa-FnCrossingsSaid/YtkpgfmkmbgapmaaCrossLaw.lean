/- Plain law of crossings: undoing leads back, reduction keeps the order and leaves nothing to undo; no program in sight. -/
import Derived.Test.YtkpgfmkmbgapmaaPairs
import Derived.Test.YtkpgfmkmbgapmaaReduced
namespace Go.Proofs.Ytkpgfmkmbgapmaa
open Go.ChangeShapes Go.WideShapes Go.ChangeAt Go.RowKit Go.Deep Go.Joins
set_option maxRecDepth 100000

def foldO (now : List Int) (ls : List Cr) : List Int := ls.foldl (fun now x => swapN now x.at_.toNat) now
theorem foldO_app (now : List Int) (a b : List Cr) : foldO now (a ++ b) = foldO (foldO now a) b := by simp [foldO]
theorem foldO_len (ls : List Cr) (now : List Int) : (foldO now ls).length = now.length := (fold_perm ls now).length_eq
theorem orderTo_fold (N : Nat) (ls : List Cr) : orderTo N ls ls.length = foldO (startL N) ls := by simp [orderTo, foldO]
theorem swap_twice {xs : List Int} {j : Nat} (h : j + 1 < xs.length) : swapN (swapN xs j) j = xs := by
  have ha : xs[j]? = some (xs[j]'(by omega)) := List.getElem?_eq_getElem (by omega)
  have hb : xs[j + 1]? = some (xs[j + 1]'(by omega)) := List.getElem?_eq_getElem (by omega)
  generalize xs[j]'(by omega) = a at ha
  generalize xs[j + 1]'(by omega) = b at hb
  have h1 : (swapN xs j)[j]? = some b := by
    rw [swapN_at ha hb, List.getElem?_set_ne (by omega), List.getElem?_set_self (by omega)]
  have h2 : (swapN xs j)[j + 1]? = some a := by
    rw [swapN_at ha hb, List.getElem?_set_self (by simp; omega)]
  rw [swapN_at h1 h2, swapN_at ha hb]
  apply List.ext_getElem?
  intro i
  by_cases hi1 : i = j + 1
  · subst hi1
    rw [List.getElem?_set_self (by simp; omega), hb]
  · rw [List.getElem?_set_ne (by omega)]
    by_cases hi0 : i = j
    · subst hi0
      rw [List.getElem?_set_self (by simp; omega), ha]
    · rw [List.getElem?_set_ne (by omega), List.getElem?_set_ne (by omega), List.getElem?_set_ne (by omega)]

/-! ### One step of the reduction -/
def invC (x : Cr) : Cr := ⟨x.at_, !x.front⟩
theorem red_cases (s : List Cr) (x : Cr) : (∃ pre, s = pre ++ [invC x] ∧ redStep s x = pre) ∨ (redStep s x = s ++ [x] ∧ ∀ pre, s ≠ pre ++ [invC x]) := by
  rcases List.eq_nil_or_concat s with rfl | ⟨pre, y, rfl⟩
  · exact .inr ⟨rfl, fun pre h => by cases pre <;> cases h⟩
  · rw [List.concat_eq_append]
    by_cases hc : y.at_ = x.at_ ∧ y.front ≠ x.front
    · left
      obtain ⟨ya, yf⟩ := y
      obtain ⟨xa, xf⟩ := x
      obtain ⟨h1, h2⟩ := hc
      simp only at h1 h2
      subst h1
      have e : yf = !xf := by cases yf <;> cases xf <;> first | rfl | exact absurd rfl h2
      subst e
      exact ⟨pre, rfl, redStep_drop _ _ _ rfl h2⟩
    · right
      refine ⟨redStep_app _ _ _ ?_, fun pre' h => ?_⟩
      · by_cases h1 : y.at_ = x.at_
        · right
          by_cases h2 : y.front = x.front
          · exact h2
          · exact absurd ⟨h1, h2⟩ hc
        · exact .inl h1
      · have h3 : y = invC x := by
          have := congrArg List.getLast? h
          simpa using this
        subst h3
        exact hc ⟨rfl, by cases x with | mk a f => cases f <;> simp [invC]⟩
theorem invC_inv (x : Cr) : invC (invC x) = x := by cases x; simp [invC]
theorem red_fold {s : List Cr} {x : Cr} {now : List Int} (h : x.at_.toNat + 1 < now.length) : foldO now (redStep s x) = swapN (foldO now s) x.at_.toNat := by
  rcases red_cases s x with ⟨pre, rfl, e⟩ | ⟨e, _⟩
  · rw [e, foldO_app]
    have : foldO (foldO now pre) [invC x] = swapN (foldO now pre) x.at_.toNat := rfl
    rw [this, swap_twice (by rw [foldO_len]; exact h)]
  · rw [e, foldO_app]; rfl
theorem red_mem {s : List Cr} {x y : Cr} (h : y ∈ redStep s x) : y ∈ s ∨ y = x := by
  rcases red_cases s x with ⟨pre, rfl, e⟩ | ⟨e, _⟩
  · rw [e] at h; exact .inl (List.mem_append_left _ h)
  · rw [e] at h
    rcases List.mem_append.1 h with h | h
    · exact .inl h
    · exact .inr (List.mem_singleton.1 h)
/-- No two neighbours undo each other. -/
def Red (s : List Cr) : Prop := ∀ (i : Nat) (x y : Cr), s[i]? = some x → s[i + 1]? = some y → y ≠ invC x
theorem Red.pre {s t : List Cr} (h : Red (s ++ t)) : Red s := by
  intro i x y hx hy
  have l1 := (List.getElem?_eq_some_iff.1 hy).1
  exact h i x y (by rw [List.getElem?_append_left (by omega)]; exact hx) (by rw [List.getElem?_append_left (by omega)]; exact hy)
theorem Red.step {s : List Cr} (h : Red s) (x : Cr) : Red (redStep s x) := by
  rcases red_cases s x with ⟨pre, rfl, e⟩ | ⟨e, hne⟩
  · rw [e]; exact h.pre
  · rw [e]
    intro i y z hy hz
    have l1 := (List.getElem?_eq_some_iff.1 hz).1
    rw [List.length_append, List.length_singleton] at l1
    rw [List.getElem?_append_left (by omega)] at hy
    rcases Nat.lt_or_ge (i + 1) s.length with h1 | h1
    · rw [List.getElem?_append_left h1] at hz
      exact h i y z hy hz
    · rw [List.getElem?_append_right h1, show i + 1 - s.length = 0 by omega] at hz
      simp only [List.getElem?_cons_zero, Option.some.injEq] at hz
      subst hz
      intro hc
      have hy' : s = s.dropLast ++ [y] := by
        rcases List.eq_nil_or_concat s with h0 | ⟨p, q, h0⟩
        · subst h0; simp at hy
        · subst h0
          rw [List.concat_eq_append] at hy ⊢
          rw [List.dropLast_concat]
          rw [List.getElem?_append_right (by simp at h1 l1 ⊢; omega)] at hy
          simp only [List.concat_eq_append, List.length_append, List.length_singleton] at h1 l1
          rw [show i - p.length = 0 by omega] at hy
          simp only [List.getElem?_cons_zero, Option.some.injEq] at hy
          rw [hy]
      refine hne s.dropLast ?_
      rw [hc, invC_inv]
      exact hy'
theorem Red.nil : Red [] := fun i x y h => by simp at h
theorem red_back {s : List Cr} (h : Red s) (x : Cr) : redStep (redStep s x) (invC x) = s := by
  rcases red_cases s x with ⟨pre, rfl, e⟩ | ⟨e, _⟩
  · rw [e]
    rcases red_cases pre (invC x) with ⟨p, hp, _⟩ | ⟨e2, _⟩
    · exfalso
      rw [invC_inv] at hp
      subst hp
      refine h p.length x (invC x) ?_ ?_ rfl
      · rw [List.getElem?_append_left (by simp), List.getElem?_append_right (by simp)]; simp
      · rw [List.getElem?_append_right (by simp)]; simp
    · exact e2
  · rw [e]
    exact redStep_drop s x (invC x) rfl (by cases x with | mk a f => cases f <;> simp [invC])
def redF (s : List Cr) (ls : List Cr) : List Cr := ls.foldl redStep s
theorem redTo_fold (ls : List Cr) : redTo ls ls.length = redF [] ls := by simp [redTo, redF]
theorem redF_app (s a b : List Cr) : redF s (a ++ b) = redF (redF s a) b := by simp [redF]
theorem redF_red {s : List Cr} (h : Red s) (ls : List Cr) : Red (redF s ls) := by
  induction ls generalizing s with
  | nil => exact h
  | cons x ls ih => exact ih (h.step x)
theorem redF_mem {s ls : List Cr} {y : Cr} (h : y ∈ redF s ls) : y ∈ s ∨ y ∈ ls := by
  induction ls generalizing s with
  | nil => exact .inl h
  | cons x ls ih =>
    rcases ih (s := redStep s x) h with h | h
    · rcases red_mem h with h | rfl
      · exact .inl h
      · exact .inr (List.mem_cons_self ..)
    · exact .inr (List.mem_cons_of_mem _ h)
theorem redF_fold {now : List Int} {s ls : List Cr} (h : ∀ x ∈ ls, x.at_.toNat + 1 < now.length) : foldO now (redF s ls) = foldO (foldO now s) ls := by
  induction ls generalizing s with
  | nil => rfl
  | cons x ls ih =>
    have e : redF s (x :: ls) = redF (redStep s x) ls := rfl
    rw [e, ih (fun y hy => h y (List.mem_cons_of_mem _ hy)), red_fold (h x (List.mem_cons_self ..))]
    rfl
theorem redF_back {s : List Cr} (h : Red s) (ls : List Cr) : redF s (ls ++ undo ls) = s := by
  induction ls generalizing s with
  | nil => rfl
  | cons x ls ih =>
    have e : redF s (x :: ls ++ undo (x :: ls)) = redStep (redF (redStep s x) (ls ++ undo ls)) (invC x) := by
      rw [undo_cons]
      simp [redF, invC]
    rw [e, ih (h.step x), red_back h]
theorem fold_back {now : List Int} (ls : List Cr) (h : ∀ x ∈ ls, x.at_.toNat + 1 < now.length) : foldO now (ls ++ undo ls) = now := by
  induction ls generalizing now with
  | nil => rfl
  | cons x ls ih =>
    have e : foldO now (x :: ls ++ undo (x :: ls)) = swapN (foldO (swapN now x.at_.toNat) (ls ++ undo ls)) x.at_.toNat := by
      rw [undo_cons]
      simp [foldO]
    rw [e, ih (fun y hy => by rw [swapN_len]; exact h y (List.mem_cons_of_mem _ hy)), swap_twice (h x (List.mem_cons_self ..))]
theorem redF_par (ls : List Cr) (s : List Cr) : ∃ q : Nat, s.length + ls.length = (redF s ls).length + 2 * q := by
  induction ls generalizing s with
  | nil => exact ⟨0, by simp [redF]⟩
  | cons x ls ih =>
    obtain ⟨q, hq⟩ := ih (redStep s x)
    have e : redF s (x :: ls) = redF (redStep s x) ls := rfl
    rw [e]
    rcases red_cases s x with ⟨pre, rfl, e2⟩ | ⟨e2, _⟩
    · exact ⟨q + 1, by rw [e2] at hq ⊢; simp at hq ⊢; omega⟩
    · exact ⟨q, by rw [e2] at hq ⊢; simp at hq ⊢; omega⟩

/-! ### The law's own facts -/
theorem crossesOk_mk {n : Int} {ls : List Cr} (h1 : 1 ≤ n) (h2 : n ≤ 7) (hl : ls.length ≤ 40) (h : ∀ x ∈ ls, 0 ≤ x.at_ ∧ x.at_ ≤ n - 2) : crossesOk n ls = true := decide_eq_true ⟨h1, h2, hl, h⟩
theorem undo_mem {ls : List Cr} {y : Cr} (h : y ∈ undo ls) : ∃ x ∈ ls, y.at_ = x.at_ := by
  simp only [undo, List.mem_reverse, List.mem_map] at h
  obtain ⟨x, hx, rfl⟩ := h
  exact ⟨x, hx, rfl⟩
section
variable {N : Nat} {ls : List Cr}
theorem cr_at (hf : CrossFacts (N : Int) ls) : ∀ x ∈ ls, x.at_.toNat + 1 < (startL N).length := fun x hx => by
  have := hf.at_ x hx
  rw [startL_len]
  omega
theorem ca_reduced (h : crossesOk (N : Int) ls = true) : reduced N ls = redF [] ls := by rw [reduced_yes h, redTo_fold]
theorem ca_red_ok (h : crossesOk (N : Int) ls = true) : crossesOk (N : Int) (reduced N ls) = true := by
  have hf := crossFacts h
  obtain ⟨q, hq⟩ := redF_par ls []
  rw [ca_reduced h]
  refine crossesOk_mk hf.n1 hf.n7 (by have := hf.len; simp at hq; omega) fun x hx => ?_
  rcases redF_mem hx with h | h
  · cases h
  · exact hf.at_ x h
theorem ca_red_order (h : crossesOk (N : Int) ls = true) : orderAfter N (reduced N ls) = orderAfter N ls := by
  rw [orderAfter_yes h, orderAfter_yes (ca_red_ok h), orderTo_fold, orderTo_fold, ca_reduced h]
  exact redF_fold (cr_at (crossFacts h))
theorem ca_red_len (h : crossesOk (N : Int) ls = true) : ∃ q : Nat, ls.length = (reduced N ls).length + 2 * q := by
  obtain ⟨q, hq⟩ := redF_par ls []
  exact ⟨q, by rw [ca_reduced h]; simpa using hq⟩
theorem ca_red_red (h : crossesOk (N : Int) ls = true) : Red (reduced N ls) := by rw [ca_reduced h]; exact redF_red Red.nil ls
theorem ca_both_ok (h : crossesOk (N : Int) ls = true) (hl : ls.length ≤ 20) : crossesOk (N : Int) (ls ++ undo ls) = true := by
  have hf := crossFacts h
  refine crossesOk_mk hf.n1 hf.n7 (by rw [List.length_append, undo_length]; omega) fun x hx => ?_
  rcases List.mem_append.1 hx with hx | hx
  · exact hf.at_ x hx
  · obtain ⟨y, hy, e⟩ := undo_mem hx
    rw [e]; exact hf.at_ y hy
theorem ca_both_order (h : crossesOk (N : Int) ls = true) (hl : ls.length ≤ 20) : orderAfter N (ls ++ undo ls) = startL N := by
  rw [orderAfter_yes (ca_both_ok h hl), orderTo_fold]
  exact fold_back ls (cr_at (crossFacts h))
theorem ca_both_red (h : crossesOk (N : Int) ls = true) (hl : ls.length ≤ 20) : reduced N (ls ++ undo ls) = [] := by
  rw [ca_reduced (ca_both_ok h hl)]
  exact redF_back Red.nil ls
theorem ca_nil (h1 : 1 ≤ N) (h7 : N ≤ 7) : orderAfter N [] = startL N := by
  rw [orderAfter_yes (crossesOk_mk (by omega) (by omega) (by simp) (by simp))]; rfl
theorem ca_order_len (h : crossesOk (N : Int) ls = true) : (orderAfter N ls).length = N := by rw [orderAfter_yes h, orderTo_len]
theorem ca_pairs_len (h : crossesOk (N : Int) ls = true) : (pairsOf N ls).length = ls.length := by rw [pairsOf_yes h, pairsTo_len]
theorem startL_in {x : Int} (h : x ∈ startL N) : 0 ≤ x ∧ x < N := by
  obtain ⟨i, hi, rfl⟩ := List.mem_map.1 h
  have := List.mem_range.1 hi
  omega
theorem orderTo_in {k : Nat} {x : Int} (h : x ∈ orderTo N ls k) : 0 ≤ x ∧ x < N := startL_in ((orderTo_perm N ls k).mem_iff.1 h)
/-- Each pair is of two different puppets. -/
theorem pairsTo_at (hf : CrossFacts (N : Int) ls) : ∀ (m k : Nat), k < m → m ≤ ls.length → ∃ a b : Int, (pairsTo N ls m)[k]? = some [a, b] ∧ a ≠ b ∧ 0 ≤ a ∧ a < N ∧ 0 ≤ b ∧ b < N := by
  intro m
  induction m with
  | zero => intro k hk; omega
  | succ m ih =>
    intro k hk hm
    have hx : ls[m]? = some (ls[m]'(by omega)) := List.getElem?_eq_getElem (by omega)
    generalize ls[m]'(by omega) = x at hx
    obtain ⟨a0, a1⟩ := hf.at_ x (List.mem_of_getElem? hx)
    have hlen := orderTo_len N ls m
    have ha : (orderTo N ls m)[x.at_.toNat]? = some ((orderTo N ls m)[x.at_.toNat]'(by omega)) := List.getElem?_eq_getElem (by omega)
    have hb : (orderTo N ls m)[x.at_.toNat + 1]? = some ((orderTo N ls m)[x.at_.toNat + 1]'(by omega)) := List.getElem?_eq_getElem (by omega)
    generalize (orderTo N ls m)[x.at_.toNat]'(by omega) = a at ha
    generalize (orderTo N ls m)[x.at_.toNat + 1]'(by omega) = b at hb
    rw [pairsTo_step hx ha hb]
    have hl := pairsTo_len N ls m
    rcases Nat.lt_or_ge k m with h1 | h1
    · rw [List.getElem?_append_left (by omega)]
      exact ih k h1 (by omega)
    · rw [List.getElem?_append_right (by omega), show k - (pairsTo N ls m).length = 0 by omega]
      have i1 := orderTo_in (List.mem_of_getElem? ha)
      have i2 := orderTo_in (List.mem_of_getElem? hb)
      have hne := orderOk_ne (orderTo_ok (N := N) (by have := hf.n1; omega) (by have := hf.n7; omega) ls m) (Nat.lt_succ_self _) ha hb
      cases x.front with
      | true => exact ⟨a, b, rfl, hne, i1.1, i1.2, i2.1, i2.2⟩
      | false => exact ⟨b, a, rfl, fun e => hne e.symm, i2.1, i2.2, i1.1, i1.2⟩
theorem pairs_at (h : crossesOk (N : Int) ls = true) {k : Nat} (hk : k < ls.length) : ∃ a b : Int, (pairsOf N ls)[k]? = some [a, b] ∧ a ≠ b ∧ 0 ≤ a ∧ a < N ∧ 0 ≤ b ∧ b < N := by
  rw [pairsOf_yes h]
  exact pairsTo_at (crossFacts h) _ k hk (Nat.le_refl _)
end
end Go.Proofs.Ytkpgfmkmbgapmaa
