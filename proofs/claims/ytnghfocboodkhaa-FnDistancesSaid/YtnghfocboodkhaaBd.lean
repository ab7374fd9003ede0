/- Plain mathematics of bodies, with no program in sight: the relaxation of distances, trees, and the joining of parts; no condition but those typed. -/
import Derived.Below
namespace Go.Proofs.Ytnghfocboodkhaa

/-- A limb's three numbers. -/
structure Lb where
  a : Int
  b : Int
  l : Int
def Lb.p (x : Lb) : Nat := x.a.toNat
def Lb.q (x : Lb) : Nat := x.b.toNat
def okLb (N : Nat) (x : Lb) : Prop := 0 ≤ x.a ∧ x.a < N ∧ 0 ≤ x.b ∧ x.b < N ∧ x.a ≠ x.b ∧ 1 ≤ x.l ∧ x.l ≤ 100
theorem okLb.p_lt {N : Nat} {x : Lb} (h : okLb N x) : x.p < N := by unfold okLb at h; unfold Lb.p; omega
theorem okLb.q_lt {N : Nat} {x : Lb} (h : okLb N x) : x.q < N := by unfold okLb at h; unfold Lb.q; omega
theorem okLb.ne {N : Nat} {x : Lb} (h : okLb N x) : x.p ≠ x.q := by unfold okLb at h; unfold Lb.p Lb.q; omega
theorem okLb.l1 {N : Nat} {x : Lb} (h : okLb N x) : 1 ≤ x.l ∧ x.l ≤ 100 := by unfold okLb at h; omega

/-! ### Counting -/
def cnt (P : Nat → Bool) : Nat → Nat
  | 0 => 0
  | n + 1 => cnt P n + (if P n then 1 else 0)
theorem cnt_le (P : Nat → Bool) (n : Nat) : cnt P n ≤ n := by
  induction n with
  | zero => simp [cnt]
  | succ n ih => simp only [cnt]; split <;> omega
theorem cnt_congr {P Q : Nat → Bool} {n : Nat} (h : ∀ v, v < n → P v = Q v) : cnt P n = cnt Q n := by
  induction n with
  | zero => rfl
  | succ n ih => simp only [cnt]; rw [ih fun v hv => h v (by omega), h n (by omega)]
theorem cnt_add {P Q : Nat → Bool} {n v : Nat} (hv : v < n) (hp : P v = false) (hq : Q v = true) (h : ∀ y, y ≠ v → P y = Q y) : cnt Q n = cnt P n + 1 := by
  induction n with
  | zero => omega
  | succ n ih =>
    simp only [cnt]
    by_cases e : v = n
    · subst e
      rw [hp, hq, cnt_congr (P := Q) (Q := P) fun y hy => (h y (by omega)).symm]
      simp
    · rw [ih (by omega), h n (by omega)]
      omega
theorem cnt_mono {P Q : Nat → Bool} {n : Nat} (h : ∀ v, v < n → P v = true → Q v = true) : cnt P n ≤ cnt Q n := by
  induction n with
  | zero => simp [cnt]
  | succ n ih =>
    simp only [cnt]
    have := ih fun v hv => h v (by omega)
    have h2 := h n (by omega)
    cases hp : P n
    · simp; omega
    · rw [h2 hp]; simp; omega
theorem cnt_all {P : Nat → Bool} {n : Nat} (h : cnt P n = n) : ∀ v, v < n → P v = true := by
  induction n with
  | zero => intro v hv; omega
  | succ n ih =>
    simp only [cnt] at h
    have := cnt_le P n
    have hn : P n = true := by
      cases hp : P n
      · rw [hp] at h; simp at h; omega
      · rfl
    rw [hn] at h
    intro v hv
    by_cases e : v = n
    · subst e; exact hn
    · exact ih (by simp at h; omega) v (by omega)
theorem cnt_full {P : Nat → Bool} {n : Nat} (h : ∀ v, v < n → P v = true) : cnt P n = n := by
  induction n with
  | zero => rfl
  | succ n ih => simp only [cnt]; rw [ih fun v hv => h v (by omega), h n (by omega)]; simp
theorem cnt_ge_one {P : Nat → Bool} {n v : Nat} (hv : v < n) (hp : P v = true) : 1 ≤ cnt P n := by
  induction n with
  | zero => omega
  | succ n ih =>
    simp only [cnt]
    by_cases e : v = n
    · subst e; rw [hp]; simp
    · have := ih (by omega); omega
theorem cnt_one {P : Nat → Bool} {n v w : Nat} (h : cnt P n = 1) (hv : v < n) (hw : w < n) (pv : P v = true) (pw : P w = true) : v = w := by
  induction n with
  | zero => omega
  | succ n ih =>
    simp only [cnt] at h
    by_cases e1 : v = n
    · by_cases e2 : w = n
      · omega
      · subst e1
        have := cnt_ge_one (P := P) (n := v) (v := w) (by omega) pw
        rw [pv] at h; simp at h; omega
    · by_cases e2 : w = n
      · subst e2
        have := cnt_ge_one (P := P) (n := w) (v := v) (by omega) pv
        rw [pw] at h; simp at h; omega
      · have h1 := cnt_ge_one (P := P) (n := n) (v := v) (by omega) pv
        exact ih (by split at h <;> omega) (by omega) (by omega)

def cntL {α : Type} (P : α → Bool) : List α → Nat
  | [] => 0
  | x :: xs => (if P x then 1 else 0) + cntL P xs
theorem cntL_le {α : Type} (P : α → Bool) (l : List α) : cntL P l ≤ l.length := by
  induction l with
  | nil => simp [cntL]
  | cons x xs ih => simp only [cntL, List.length_cons]; split <;> omega
theorem cntL_mono {α : Type} {P Q : α → Bool} {l : List α} (h : ∀ x ∈ l, P x = true → Q x = true) : cntL P l ≤ cntL Q l := by
  induction l with
  | nil => simp [cntL]
  | cons x xs ih =>
    simp only [cntL]
    have := ih fun y hy => h y (by simp [hy])
    have h2 := h x (by simp)
    cases hp : P x
    · simp; omega
    · rw [h2 hp]; simp; omega
theorem cntL_add {α : Type} {P Q : α → Bool} {l : List α} {x : α} (h : ∀ y ∈ l, P y = true → Q y = true) (hx : x ∈ l) (hp : P x = false) (hq : Q x = true) : cntL P l + 1 ≤ cntL Q l := by
  induction l with
  | nil => simp at hx
  | cons y ys ih =>
    simp only [cntL]
    have hm := cntL_mono (P := P) (Q := Q) (l := ys) fun z hz => h z (by simp [hz])
    rcases List.mem_cons.1 hx with e | e
    · subst e
      rw [hp, hq]; simp; omega
    · have h1 := ih (fun z hz => h z (by simp [hz])) e
      have h2 := h y (by simp)
      cases hpy : P y
      · simp; omega
      · rw [h2 hpy]; simp; omega
theorem cntL_all {α : Type} {P : α → Bool} {l : List α} (h : l.length ≤ cntL P l) : ∀ x ∈ l, P x = true := by
  induction l with
  | nil => simp
  | cons x xs ih =>
    simp only [cntL, List.length_cons] at h
    have hl := cntL_le P xs
    have hx : P x = true := by
      cases hp : P x
      · rw [hp] at h; simp at h; omega
      · rfl
    rw [hx] at h
    intro y hy
    rcases List.mem_cons.1 hy with e | e
    · rw [e]; exact hx
    · exact ih (by simp at h; omega) y e

/-! ### Distances: the relaxation -/
def upd {α : Type} (f : Nat → α) (i : Nat) (x : α) : Nat → α := fun j => if j = i then x else f j
theorem upd_same {α : Type} (f : Nat → α) (i : Nat) (x : α) : upd f i x i = x := by simp [upd]
theorem upd_ne {α : Type} (f : Nat → α) {i j : Nat} (x : α) (h : j ≠ i) : upd f i x j = f j := by simp [upd, h]
def rl (f : Nat → Int) (x : Lb) : Nat → Int :=
  let f1 := if 0 ≤ f x.p ∧ f x.q < 0 then upd f x.q (f x.p + x.l) else f
  if 0 ≤ f1 x.q ∧ f1 x.p < 0 then upd f1 x.p (f1 x.q + x.l) else f1
def pass (ls : List Lb) (f : Nat → Int) : Nat → Int := ls.foldl rl f
def iter {β : Type} (g : β → β) : Nat → β → β
  | 0, x => x
  | k + 1, x => g (iter g k x)
def start (s : Nat) : Nat → Int := fun j => if j = s then 0 else -1
def dist (N : Nat) (ls : List Lb) (s : Nat) : Nat → Int := iter (pass ls) N (start s)

/-- The three outcomes of one relaxation. -/
theorem rl_cases (f : Nat → Int) (x : Lb) (hne : x.p ≠ x.q) :
    (0 ≤ f x.p ∧ f x.q < 0 ∧ rl f x = upd f x.q (f x.p + x.l)) ∨ (0 ≤ f x.q ∧ f x.p < 0 ∧ rl f x = upd f x.p (f x.q + x.l)) ∨ (¬(0 ≤ f x.p ∧ f x.q < 0) ∧ ¬(0 ≤ f x.q ∧ f x.p < 0) ∧ rl f x = f) := by
  unfold rl
  by_cases h1 : 0 ≤ f x.p ∧ f x.q < 0
  · left
    refine ⟨h1.1, h1.2, ?_⟩
    simp only [h1, and_self, if_true]
    rw [upd_ne _ _ hne, if_neg (by omega)]
  · right
    simp only [h1, if_false]
    by_cases h2 : 0 ≤ f x.q ∧ f x.p < 0
    · left
      exact ⟨h2.1, h2.2, by rw [if_pos h2]⟩
    · right
      exact ⟨not_false, h2, by rw [if_neg h2]⟩

def reach (f : Nat → Int) (v : Nat) : Bool := decide (0 ≤ f v)
def tight (f : Nat → Int) (x : Lb) : Bool := decide (0 ≤ f x.p ∧ 0 ≤ f x.q ∧ (f x.q = f x.p + x.l ∨ f x.p = f x.q + x.l))
def par (f : Nat → Int) (v : Nat) (x : Lb) : Bool := decide ((x.q = v ∧ 0 ≤ f x.p ∧ f v = f x.p + x.l) ∨ (x.p = v ∧ 0 ≤ f x.q ∧ f v = f x.q + x.l))
def Closed (ls : List Lb) (S : Nat → Prop) : Prop := ∀ x ∈ ls, (S x.p ↔ S x.q)

structure Inv (N : Nat) (ls : List Lb) (s : Nat) (f : Nat → Int) : Prop where
  root : f s = 0
  low : ∀ v, -1 ≤ f v
  out : ∀ v, 0 ≤ f v → v < N
  up : ∀ v, 0 ≤ f v → v ≠ s → ∃ x ∈ ls, par f v x = true
  many : cnt (reach f) N ≤ cntL (tight f) ls + 1
  inside : ∀ S : Nat → Prop, Closed ls S → S s → ∀ v, 0 ≤ f v → S v
  small : ∀ v, f v + 100 ≤ 100 * (cnt (reach f) N : Int)

theorem inv_start {N : Nat} {ls : List Lb} {s : Nat} (hs : s < N) : Inv N ls s (start s) := by
  have hc : cnt (reach (start s)) N = 1 := by
    have h := cnt_add (P := fun _ => false) (Q := reach (start s)) hs rfl (by simp [reach, start]) (fun y hy => by simp [reach, start, hy])
    have h0 : cnt (fun _ => false) N = 0 := by
      clear h hs
      induction N with
      | zero => rfl
      | succ n ih => simp [cnt, ih]
    omega
  refine ⟨by simp [start], fun v => by unfold start; split <;> omega, fun v hv => ?_, fun v hv hne => ?_, by omega, fun S _ h v hv => ?_, fun v => ?_⟩
  · unfold start at hv; split at hv <;> omega
  · unfold start at hv; rw [if_neg hne] at hv; omega
  · unfold start at hv; split at hv
    · rename_i e; subst e; exact h
    · omega
  · rw [hc]; unfold start; split <;> omega

/-- One new joint, over a limb of the list. -/
theorem inv_set {N : Nat} {ls : List Lb} {s : Nat} {f : Nat → Int} (h : Inv N ls s f) {x : Lb} (hx : x ∈ ls) (ok : okLb N x) {u v : Nat} (hu : 0 ≤ f u) (hv : f v < 0) (he : (u = x.p ∧ v = x.q) ∨ (u = x.q ∧ v = x.p)) :
    Inv N ls s (upd f v (f u + x.l)) := by
  have hp := ok.p_lt
  have hq := ok.q_lt
  have hl := ok.l1
  have hne := ok.ne
  have hvN : v < N := by rcases he with ⟨_, e⟩ | ⟨_, e⟩ <;> omega
  have hvs : v ≠ s := by rintro rfl; have := h.root; omega
  have huv : u ≠ v := by rintro rfl; omega
  have same : ∀ y, y ≠ v → upd f v (f u + x.l) y = f y := fun y hy => upd_ne _ _ hy
  have self : upd f v (f u + x.l) v = f u + x.l := upd_same _ _ _
  have old : ∀ y, 0 ≤ f y → upd f v (f u + x.l) y = f y := fun y hy => same y (by rintro rfl; omega)
  have hcnt : cnt (reach (upd f v (f u + x.l))) N = cnt (reach f) N + 1 :=
    cnt_add hvN (by simp [reach]; omega) (by simp only [reach, self]; simp; omega) (fun y hy => by simp only [reach, same y hy])
  refine ⟨by rw [same s (Ne.symm hvs)]; exact h.root, fun y => ?_, fun y hy => ?_, fun y hy hys => ?_, ?_, fun S hS hs y hy => ?_, fun y => ?_⟩
  · by_cases e : y = v
    · subst e; rw [self]; omega
    · rw [same y e]; exact h.low y
  · by_cases e : y = v
    · subst e; exact hvN
    · rw [same y e] at hy; exact h.out y hy
  · by_cases e : y = v
    · subst e
      refine ⟨x, hx, ?_⟩
      simp only [par, self, decide_eq_true_eq]
      rcases he with ⟨rfl, rfl⟩ | ⟨rfl, rfl⟩
      · left; rw [same _ huv]; exact ⟨rfl, hu, rfl⟩
      · right; rw [same _ huv]; exact ⟨rfl, hu, rfl⟩
    · rw [same y e] at hy
      obtain ⟨z, hz, hpz⟩ := h.up y hy hys
      refine ⟨z, hz, ?_⟩
      simp only [par, decide_eq_true_eq, same y e] at hpz ⊢
      rcases hpz with ⟨h1, h2, h3⟩ | ⟨h1, h2, h3⟩
      · left; rw [old _ h2]; exact ⟨h1, h2, h3⟩
      · right; rw [old _ h2]; exact ⟨h1, h2, h3⟩
  · rw [hcnt]
    have := cntL_add (P := tight f) (Q := tight (upd f v (f u + x.l))) (l := ls) (x := x) (fun z _ hz => by
        simp only [tight, decide_eq_true_eq] at hz ⊢
        rw [old _ hz.1, old _ hz.2.1]
        exact hz) hx (by
        simp only [tight, decide_eq_false_iff_not]
        rcases he with ⟨rfl, rfl⟩ | ⟨rfl, rfl⟩ <;> omega) (by
        simp only [tight, decide_eq_true_eq]
        rcases he with ⟨rfl, rfl⟩ | ⟨rfl, rfl⟩
        · rw [self, same _ huv]; omega
        · rw [self, same _ huv]; omega)
    have := h.many
    omega
  · by_cases e : y = v
    · subst e
      have hu' := h.inside S hS hs u hu
      have := hS x hx
      rcases he with ⟨rfl, rfl⟩ | ⟨rfl, rfl⟩
      · exact this.1 hu'
      · exact this.2 hu'
    · rw [same y e] at hy
      exact h.inside S hS hs y hy
  · rw [hcnt]
    by_cases e : y = v
    · subst e; rw [self]; have := h.small u; push_cast; omega
    · rw [same y e]; have := h.small y; push_cast; omega

theorem inv_rl {N : Nat} {ls : List Lb} {s : Nat} {f : Nat → Int} (h : Inv N ls s f) {x : Lb} (hx : x ∈ ls) (ok : okLb N x) : Inv N ls s (rl f x) := by
  rcases rl_cases f x ok.ne with ⟨h1, h2, e⟩ | ⟨h1, h2, e⟩ | ⟨_, _, e⟩ <;> rw [e]
  · exact inv_set h hx ok h1 h2 (.inl ⟨rfl, rfl⟩)
  · exact inv_set h hx ok h1 h2 (.inr ⟨rfl, rfl⟩)
  · exact h
theorem inv_fold {N : Nat} {ls : List Lb} {s : Nat} (ok : ∀ x ∈ ls, okLb N x) : ∀ (ms : List Lb) (f : Nat → Int), (∀ x ∈ ms, x ∈ ls) → Inv N ls s f → Inv N ls s (ms.foldl rl f) := by
  intro ms
  induction ms with
  | nil => intro f _ h; exact h
  | cons x xs ih => intro f hm h; exact ih _ (fun y hy => hm y (by simp [hy])) (inv_rl h (hm x (by simp)) (ok x (hm x (by simp))))
theorem inv_iter {N : Nat} {ls : List Lb} {s : Nat} (hs : s < N) (ok : ∀ x ∈ ls, okLb N x) (k : Nat) : Inv N ls s (iter (pass ls) k (start s)) := by
  induction k with
  | zero => exact inv_start hs
  | succ k ih => exact inv_fold ok ls _ (fun x hx => hx) ih
theorem inv_dist {N : Nat} {ls : List Lb} {s : Nat} (hs : s < N) (ok : ∀ x ∈ ls, okLb N x) : Inv N ls s (dist N ls s) := inv_iter hs ok N

/-! ### What is reached is closed -/
theorem rl_keep (f : Nat → Int) (x : Lb) (_hl : 0 ≤ x.l) (v : Nat) (hv : 0 ≤ f v) : rl f x v = f v := by
  unfold rl
  by_cases h1 : 0 ≤ f x.p ∧ f x.q < 0
  · simp only [h1, and_self, if_true]
    have e1 : upd f x.q (f x.p + x.l) v = f v := upd_ne _ _ (by rintro rfl; omega)
    split
    · rename_i h2
      rw [upd_ne _ _ (by rintro rfl; rw [e1] at h2; omega), e1]
    · exact e1
  · simp only [h1, if_false]
    split
    · rename_i h2
      rw [upd_ne _ _ (by rintro rfl; omega)]
    · rfl
theorem rl_both (f : Nat → Int) (x : Lb) (hl : 0 ≤ x.l) (hne : x.p ≠ x.q) (h : 0 ≤ f x.p ∨ 0 ≤ f x.q) : 0 ≤ rl f x x.p ∧ 0 ≤ rl f x x.q := by
  rcases rl_cases f x hne with ⟨h1, h2, e⟩ | ⟨h1, h2, e⟩ | ⟨h1, h2, e⟩ <;> rw [e]
  · rw [upd_same, upd_ne _ _ hne]; omega
  · rw [upd_same, upd_ne _ _ hne.symm]; omega
  · omega
theorem fold_keep (ms : List Lb) (hl : ∀ x ∈ ms, 0 ≤ x.l) : ∀ (f : Nat → Int) (v : Nat), 0 ≤ f v → ms.foldl rl f v = f v := by
  induction ms with
  | nil => intro f v _; rfl
  | cons x xs ih =>
    intro f v hv
    have e := rl_keep f x (hl x (by simp)) v hv
    simp only [List.foldl_cons]
    rw [ih (fun y hy => hl y (by simp [hy])) _ v (by rw [e]; exact hv), e]
theorem fold_both (ms : List Lb) (hl : ∀ x ∈ ms, 0 ≤ x.l ∧ x.p ≠ x.q) : ∀ (f : Nat → Int) (x : Lb), x ∈ ms → (0 ≤ f x.p ∨ 0 ≤ f x.q) → 0 ≤ ms.foldl rl f x.p ∧ 0 ≤ ms.foldl rl f x.q := by
  induction ms with
  | nil => intro f x hx; simp at hx
  | cons y ys ih =>
    intro f x hx h
    have hk : ∀ z ∈ ys, 0 ≤ z.l := fun z hz => (hl z (by simp [hz])).1
    simp only [List.foldl_cons]
    rcases List.mem_cons.1 hx with e | e
    · subst e
      have hb := rl_both f x (hl x (by simp)).1 (hl x (by simp)).2 h
      rw [fold_keep ys hk _ _ hb.1, fold_keep ys hk _ _ hb.2]
      exact hb
    · refine ih (fun z hz => hl z (by simp [hz])) _ x e ?_
      rcases h with h | h
      · left; rw [rl_keep _ _ (hl y (by simp)).1 _ h]; exact h
      · right; rw [rl_keep _ _ (hl y (by simp)).1 _ h]; exact h
def Full (ls : List Lb) (f : Nat → Int) : Prop := ∀ x ∈ ls, (0 ≤ f x.p ↔ 0 ≤ f x.q)
theorem fold_full (ms : List Lb) (hne : ∀ x ∈ ms, x.p ≠ x.q) : ∀ (f : Nat → Int), Full ms f → ms.foldl rl f = f := by
  induction ms with
  | nil => intro f _; rfl
  | cons x xs ih =>
    intro f h
    have hx := h x (by simp)
    simp only [List.foldl_cons]
    rcases rl_cases f x (hne x (by simp)) with ⟨h1, h2, _⟩ | ⟨h1, h2, _⟩ | ⟨_, _, e⟩
    · have := hx.1 h1; omega
    · have := hx.2 h1; omega
    · rw [e]; exact ih (fun y hy => hne y (by simp [hy])) f fun y hy => h y (by simp [hy])
theorem iter_full {N : Nat} {ls : List Lb} {s : Nat} (hs : s < N) (ok : ∀ x ∈ ls, okLb N x) (k : Nat) : Full ls (iter (pass ls) k (start s)) ∨ k + 1 ≤ cnt (reach (iter (pass ls) k (start s))) N := by
  have hl : ∀ x ∈ ls, 0 ≤ x.l ∧ x.p ≠ x.q := fun x hx => ⟨by have := (ok x hx).l1; omega, (ok x hx).ne⟩
  induction k with
  | zero =>
    right
    exact cnt_ge_one hs (by simp [reach, iter, start])
  | succ k ih =>
    by_cases hf : Full ls (iter (pass ls) k (start s))
    · left
      show Full ls (pass ls _)
      rw [show pass ls (iter (pass ls) k (start s)) = iter (pass ls) k (start s) from fold_full ls (fun x hx => (hl x hx).2) _ hf]
      exact hf
    · right
      have h1 := ih.resolve_left hf
      have : ∃ x ∈ ls, ¬(0 ≤ iter (pass ls) k (start s) x.p ↔ 0 ≤ iter (pass ls) k (start s) x.q) := by
        unfold Full at hf
        simpa using hf
      obtain ⟨x, hx, hxn⟩ := this
      generalize hg : iter (pass ls) k (start s) = g at *
      show k + 1 + 1 ≤ cnt (reach (pass ls (iter (pass ls) k (start s)))) N
      rw [hg]
      have hb := fold_both ls hl g x hx (by omega)
      have hk : ∀ v, 0 ≤ g v → pass ls g v = g v := fold_keep ls (fun y hy => (hl y hy).1) g
      obtain ⟨v, hvN, hv1, hv2⟩ : ∃ v, v < N ∧ g v < 0 ∧ 0 ≤ pass ls g v := by
        by_cases h0 : 0 ≤ g x.p
        · exact ⟨x.q, (ok x hx).q_lt, by omega, hb.2⟩
        · exact ⟨x.p, (ok x hx).p_lt, by omega, hb.1⟩
      have e : cnt (fun y => reach g y || decide (y = v)) N = cnt (reach g) N + 1 :=
        cnt_add hvN (by simp [reach]; omega) (by simp) (fun y hy => by simp [hy])
      have m : cnt (fun y => reach g y || decide (y = v)) N ≤ cnt (reach (pass ls g)) N := cnt_mono fun y _ hy => by
        simp only [reach, Bool.or_eq_true, decide_eq_true_eq] at hy ⊢
        rcases hy with hy | hy
        · rw [hk y hy]; exact hy
        · rw [hy]; exact hv2
      omega
theorem dist_full {N : Nat} {ls : List Lb} {s : Nat} (hs : s < N) (ok : ∀ x ∈ ls, okLb N x) : Full ls (dist N ls s) := by
  rcases iter_full hs ok N with h | h
  · exact h
  · have := cnt_le (reach (iter (pass ls) N (start s))) N; omega
end Go.Proofs.Ytnghfocboodkhaa
