/- Plain mathematics of smoothed gestures: each step comes nearer by the greatest step allowed; no program in sight. -/
import Derived.Test.YtcdachkaalkjlaaBoth
import Derived.Test.YtcdachkaalkjlaaPose
namespace Go.Proofs.Ytcdachkaalkjlaa
open Go.ChangeShapes Go.WideShapes Go.ChangeAt Go.RowKit Go.Deep Go.Joins
set_option maxRecDepth 100000

theorem bothTo_len {g : Int → Int → Int} {p q : List Int} (h : p.length = q.length) : ∀ k, k ≤ p.length → (bothTo g p q k).length = k := by
  intro k
  induction k with
  | zero => intro _; rfl
  | succ k ih =>
    intro hk
    have ha : p[k]? = some (p[k]'(by omega)) := List.getElem?_eq_getElem (by omega)
    have hb : q[k]? = some (q[k]'(by omega)) := List.getElem?_eq_getElem (by omega)
    rw [bothTo_step ha hb, List.length_append, ih (by omega)]
    rfl
theorem bothTo_get {g : Int → Int → Int} {p q : List Int} (h : p.length = q.length) {j : Nat} {a b : Int} (ha : p[j]? = some a) (hb : q[j]? = some b) : ∀ k, j < k → k ≤ p.length → (bothTo g p q k)[j]? = some (g a b) := by
  intro k
  induction k with
  | zero => intro hj; omega
  | succ k ih =>
    intro hj hk
    have ha' : p[k]? = some (p[k]'(by omega)) := List.getElem?_eq_getElem (by omega)
    have hb' : q[k]? = some (q[k]'(by omega)) := List.getElem?_eq_getElem (by omega)
    rw [bothTo_step ha' hb']
    have hl := bothTo_len (g := g) h k (by omega)
    rcases Nat.lt_or_ge j k with h1 | h1
    · rw [List.getElem?_append_left (by omega)]; exact ih h1 (by omega)
    · obtain rfl : j = k := by omega
      rw [ha] at ha'
      rw [hb] at hb'
      rw [List.getElem?_append_right (by omega), hl, Nat.sub_self, List.getElem?_cons_zero, ← Option.some.inj ha', ← Option.some.inj hb']
/-- What stands at a place of a list made of two others. -/
theorem both_at {g : Int → Int → Int} {p q : List Int} (h : p.length = q.length) {j : Nat} {c : Int} (hc : (bothTo g p q p.length)[j]? = some c) : ∃ a b, p[j]? = some a ∧ q[j]? = some b ∧ c = g a b := by
  have hl := bothTo_len (g := g) h p.length (Nat.le_refl _)
  have hj : j < p.length := by have := (List.getElem?_eq_some_iff.1 hc).1; omega
  have ha : p[j]? = some (p[j]'hj) := List.getElem?_eq_getElem hj
  have hb : q[j]? = some (q[j]'(by omega)) := List.getElem?_eq_getElem (by omega)
  rw [bothTo_get h ha hb _ hj (Nat.le_refl _)] at hc
  exact ⟨_, _, ha, hb, (Option.some.inj hc).symm⟩
theorem both_in {g : Int → Int → Int} {p q : List Int} {lo hi : Int} (h : p.length = q.length) (hp : inAll p lo hi = true) (hq : inAll q lo hi = true) (hg : ∀ a b, lo ≤ a → a ≤ hi → lo ≤ b → b ≤ hi → lo ≤ g a b ∧ g a b ≤ hi) : inAll (bothTo g p q p.length) lo hi = true := by
  refine decide_eq_true fun c hc => ?_
  obtain ⟨j, hj⟩ := List.getElem?_of_mem hc
  obtain ⟨a, b, ha, hb, rfl⟩ := both_at h hj
  have h1 := inAll_at hp ha
  have h2 := inAll_at hq hb
  exact hg a b h1.1 h1.2 h2.1 h2.2
theorem both_pose {g : Int → Int → Int} {n : Int} {ls : List Lb} {p q : List Int} (hp : poseOk n ls p = true) (hq : poseOk n ls q = true) (hg : ∀ a b, -2000 ≤ a → a ≤ 2000 → -2000 ≤ b → b ≤ 2000 → -2000 ≤ g a b ∧ g a b ≤ 2000)
    (hs : ∀ a b a' b' l, -l ≤ a - a' → a - a' ≤ l → -l ≤ b - b' → b - b' ≤ l → -l ≤ g a b - g a' b' ∧ g a b - g a' b' ≤ l) : poseOk n ls (bothTo g p q p.length) = true := by
  have fp := poseFacts hp
  have fq := poseFacts hq
  have h : p.length = q.length := by have := fp.len; have := fq.len; omega
  have hl := bothTo_len (g := g) h p.length (Nat.le_refl _)
  refine poseOk_yes fp.body (by rw [hl]; exact fp.len) (both_in h fp.rng fq.rng hg) fun x hx => ?_
  have sp := fp.all x hx
  have sq := fq.all x hx
  unfold stepLb at sp sq
  split at sp
  · rename_i u v hu hv
    split at sq
    · rename_i u' v' hu' hv'
      have sp := of_decide_eq_true sp
      have sq := of_decide_eq_true sq
      have i1 := (List.getElem?_eq_some_iff.1 hu).1
      have i2 := (List.getElem?_eq_some_iff.1 hv).1
      rw [stepLb_at (bothTo_get h hu hu' _ i1 (Nat.le_refl _)) (bothTo_get h hv hv' _ i2 (Nat.le_refl _))]
      exact decide_eq_true (hs u u' v v' x.l sp.1 sp.2 sq.1 sq.2)
    · cases sq
  · cases sp
theorem pose_step {n : Int} {ls : List Lb} {p q : List Int} (hp : poseOk n ls p = true) (hq : poseOk n ls q = true) : stepOk p q = true := by
  have fp := poseFacts hp
  have fq := poseFacts hq
  obtain ⟨_, h12, _, _⟩ := tree_of fp.body
  rw [stepOk_in (by have := fp.len; have := fq.len; omega) (by have := fp.len; omega), fp.rng, fq.rng]
  rfl

/-! ### The greatest difference -/
theorem stepTo_le {p q : List Int} {x : Int} : ∀ k, stepTo p q k ≤ x ↔ 0 ≤ x ∧ ∀ (j : Nat) (a b : Int), j < k → p[j]? = some a → q[j]? = some b → a - b ≤ x ∧ b - a ≤ x := by
  intro k
  induction k with
  | zero => exact ⟨fun h => ⟨h, fun j a b hj => absurd hj (by omega)⟩, fun h => h.1⟩
  | succ k ih =>
    rw [stepTo]
    constructor
    · intro h
      obtain ⟨h0, h1⟩ := ih.1 (by omega)
      refine ⟨h0, fun j a b hj ha hb => ?_⟩
      rcases Nat.lt_or_ge j k with h2 | h2
      · exact h1 j a b h2 ha hb
      · obtain rfl : j = k := by omega
        rw [ha, hb] at h
        simp only at h
        omega
    · rintro ⟨h0, h1⟩
      have h2 := ih.2 ⟨h0, fun j a b hj ha hb => h1 j a b (by omega) ha hb⟩
      split
      · rename_i a b ha hb
        have := h1 k a b (by omega) ha hb
        omega
      · omega
theorem stepTo_nn (p q : List Int) (k : Nat) : 0 ≤ stepTo p q k := ((stepTo_le (p := p) (q := q) k).1 (Int.le_refl _)).1
theorem stepTo_at {p q : List Int} {k j : Nat} {a b : Int} (hj : j < k) (ha : p[j]? = some a) (hb : q[j]? = some b) : a - b ≤ stepTo p q k ∧ b - a ≤ stepTo p q k := ((stepTo_le (p := p) (q := q) k).1 (Int.le_refl _)).2 j a b hj ha hb
theorem stepTo_symm (p q : List Int) (k : Nat) : stepTo p q k = stepTo q p k := by
  apply Int.le_antisymm
  · exact (stepTo_le k).2 ⟨stepTo_nn _ _ _, fun j a b hj ha hb => (stepTo_at hj hb ha).symm⟩
  · exact (stepTo_le k).2 ⟨stepTo_nn _ _ _, fun j a b hj ha hb => (stepTo_at hj hb ha).symm⟩
theorem stepTo_zero {p q : List Int} (h : p.length = q.length) (h0 : stepTo p q p.length = 0) : p = q := by
  apply List.ext_getElem? 
  intro j
  by_cases hj : j < p.length
  · have ha : p[j]? = some (p[j]'hj) := List.getElem?_eq_getElem hj
    have hb : q[j]? = some (q[j]'(by omega)) := List.getElem?_eq_getElem (by omega)
    have := stepTo_at hj ha hb
    rw [ha, hb]
    congr 1
    omega
  · rw [List.getElem?_eq_none (by omega), List.getElem?_eq_none (by omega)]
theorem stepTo_self (p : List Int) (k : Nat) : stepTo p p k = 0 := by
  apply Int.le_antisymm _ (stepTo_nn _ _ _)
  refine (stepTo_le k).2 ⟨Int.le_refl _, fun j a b _ ha hb => ?_⟩
  rw [ha] at hb
  have := Option.some.inj hb
  omega

/-! ### One step of smoothing -/
def clF (m a b : Int) : Int := max (a - m) (min b (a + m))
def nx (m : Int) (p q : List Int) : List Int := bothTo (clF m) p q p.length
theorem nx_len {m : Int} {p q : List Int} (h : p.length = q.length) : (nx m p q).length = p.length := bothTo_len h _ (Nat.le_refl _)
theorem nx_pose {n m : Int} {ls : List Lb} {p q : List Int} (hm : 0 ≤ m) (hp : poseOk n ls p = true) (hq : poseOk n ls q = true) : poseOk n ls (nx m p q) = true :=
  both_pose hp hq (fun a b h1 h2 h3 h4 => by unfold clF; omega) (fun a b a' b' l h1 h2 h3 h4 => by unfold clF; omega)
theorem nx_near {m : Int} {p q : List Int} (hm : 0 ≤ m) (h : p.length = q.length) : stepTo (nx m p q) q p.length = max 0 (stepTo p q p.length - m) := by
  apply Int.le_antisymm
  · refine (stepTo_le _).2 ⟨by omega, fun j c b' hj hc hb' => ?_⟩
    obtain ⟨a, b, ha, hb, rfl⟩ := both_at h hc
    rw [hb] at hb'
    have e := Option.some.inj hb'
    subst e
    have := stepTo_at hj ha hb
    unfold clF
    omega
  · have h0 := stepTo_nn (nx m p q) q p.length
    have h1 : stepTo p q p.length ≤ m + stepTo (nx m p q) q p.length := by
      refine (stepTo_le _).2 ⟨by omega, fun j a b hj ha hb => ?_⟩
      have hc : (nx m p q)[j]? = some (clF m a b) := bothTo_get h ha hb _ hj (Nat.le_refl _)
      have := stepTo_at hj hc hb
      unfold clF at this
      omega
    omega
theorem nx_small {m : Int} {p q : List Int} (hm : 0 ≤ m) (h : p.length = q.length) : stepTo p (nx m p q) p.length ≤ m := by
  refine (stepTo_le _).2 ⟨hm, fun j a c hj ha hc => ?_⟩
  obtain ⟨a', b, ha', hb, rfl⟩ := both_at h hc
  rw [ha] at ha'
  have e := Option.some.inj ha'
  subst e
  unfold clF
  omega

/-! ### All steps -/
def smL (m : Int) (q : List Int) : Nat → List Int → List (List Int)
  | 0, _ => []
  | f + 1, p => if p = q then [] else nx m p q :: smL m q f (nx m p q)
theorem smL_step {m : Int} {q p : List Int} {f : Nat} (h : p ≠ q) : smL m q (f + 1) p = nx m p q :: smL m q f (nx m p q) := by simp [smL, h]
theorem smL_stop {m : Int} {q : List Int} (f : Nat) : smL m q f q = [] := by cases f <;> simp [smL]
def smoothOk (n : Int) (ls : List Lb) (p q : List Int) (m : Int) : Bool := (poseOk n ls p && poseOk n ls q) && decide (10 ≤ m ∧ m ≤ 4000)
def smoothed (n : Int) (ls : List Lb) (p q : List Int) (m : Int) : List (List Int) := if smoothOk n ls p q m then p :: smL m q 401 p else []
theorem smoothed_yes {n m : Int} {ls : List Lb} {p q : List Int} (h : smoothOk n ls p q m = true) : smoothed n ls p q m = p :: smL m q 401 p := by simp [smoothed, h]
theorem smoothed_no {n m : Int} {ls : List Lb} {p q : List Int} (h : smoothOk n ls p q m = false) : smoothed n ls p q m = [] := by simp [smoothed, h]
/-- The state behind some steps: what is laid, the pose that stands, the steps that may come. -/
structure SmSt (n : Int) (ls : List Lb) (p q : List Int) (m : Int) (out : List (List Int)) (now : List Int) (f : Nat) : Prop where
  all : smoothed n ls p q m = out ++ smL m q f now
  cnt : out.length + f = 402
  ok : poseOk n ls now = true
  okq : poseOk n ls q = true
  near : stepTo now q now.length ≤ m * f
  len : now.length = q.length
theorem SmSt.start {n m : Int} {ls : List Lb} {p q : List Int} (h : smoothOk n ls p q m = true) : SmSt n ls p q m [p] p 401 := by
  simp only [smoothOk, Bool.and_eq_true, decide_eq_true_eq] at h
  obtain ⟨⟨hp, hq⟩, h1, h2⟩ := h
  have fp := poseFacts hp
  have fq := poseFacts hq
  have := (stepTo_bd fp.rng fq.rng p.length).2
  refine ⟨smoothed_yes (by simp [smoothOk, hp, hq, h1, h2]), rfl, hp, hq, ?_, by have := fp.len; have := fq.len; omega⟩
  omega
theorem SmSt.pos {n m : Int} {ls : List Lb} {p q now : List Int} {out : List (List Int)} {f : Nat} (s : SmSt n ls p q m out now f) (hne : now ≠ q) : ∃ f', f = f' + 1 := by
  cases f with
  | succ f => exact ⟨f, rfl⟩
  | zero =>
    have h1 := s.near
    have h2 := stepTo_nn now q now.length
    exact absurd (stepTo_zero s.len (by simp at h1; omega)) hne
theorem SmSt.next {n m : Int} {ls : List Lb} {p q now : List Int} {out : List (List Int)} {f : Nat} (s : SmSt n ls p q m out now (f + 1)) (hm : 0 ≤ m) (hne : now ≠ q) : SmSt n ls p q m (out ++ [nx m now q]) (nx m now q) f := by
  refine ⟨by rw [s.all, smL_step hne]; simp, by have := s.cnt; simp; omega, nx_pose hm s.ok s.okq, s.okq, ?_, by rw [nx_len s.len]; exact s.len⟩
  rw [nx_len s.len, nx_near hm s.len]
  have h1 := s.near
  have e : m * ((f + 1 : Nat) : Int) = m * (f : Int) + m := by rw [Int.natCast_add, Int.mul_add]; simp
  have h2 : 0 ≤ m * (f : Int) := Int.mul_nonneg hm (by omega)
  omega
theorem SmSt.done {n m : Int} {ls : List Lb} {p q : List Int} {out : List (List Int)} {f : Nat} (s : SmSt n ls p q m out q f) : smoothed n ls p q m = out := by rw [s.all, smL_stop]; simp
end Go.Proofs.Ytcdachkaalkjlaa
