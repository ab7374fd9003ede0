/- Plain mathematics of ways in a tree: the chain from a joint to the root; no program in sight. -/
import Derived.Test.YtnghfocboodkhaaBd2
namespace Go.Proofs.Ytnghfocboodkhaa

theorem par_q {d : Nat → Int} {x : Lb} (h : 0 ≤ d x.p) (e : d x.q = d x.p + x.l) : par d x.q x = true := decide_eq_true (.inl ⟨rfl, h, e⟩)
theorem par_p {d : Nat → Int} {x : Lb} (h : 0 ≤ d x.q) (e : d x.p = d x.q + x.l) : par d x.p x = true := decide_eq_true (.inr ⟨rfl, h, e⟩)
def other (x : Lb) (v : Nat) : Nat := if x.p = v then x.q else x.p
/-- What is known of the distances from a root. -/
structure TD (N : Nat) (ls : List Lb) (s : Nat) (d : Nat → Int) : Prop where
  hs : s < N
  ok : ∀ x ∈ ls, okLb N x
  nn : ∀ v, v < N → 0 ≤ d v ∧ d v ≤ 1100
  root : d s = 0
  tight : ∀ x ∈ ls, d x.q = d x.p + x.l ∨ d x.p = d x.q + x.l
  up : ∀ v, v < N → v ≠ s → ∃ (i : Nat) (x : Lb), ls[i]? = some x ∧ par d v x = true
  uniq : ∀ (v : Nat), v < N → v ≠ s → ∀ (i j : Nat) (x y : Lb), ls[i]? = some x → ls[j]? = some y → par d v x = true → par d v y = true → i = j

theorem Tree.td {N : Nat} {ls : List Lb} (t : Tree N ls) {s : Nat} (hs : s < N) : TD N ls s (dist N ls s) :=
  ⟨hs, t.ok, fun v hv => ⟨t.all hs v hv, t.bound hs v⟩, t.self hs, t.tight hs, fun v hv hne => by
    obtain ⟨x, hx, hp⟩ := (inv_dist hs t.ok).up v (t.all hs v hv) hne
    obtain ⟨i, hi⟩ := List.getElem?_of_mem hx
    exact ⟨i, x, hi, hp⟩, fun v hv hne i j x y hx hy px py => t.par_uniq hs hv hne hx hy px py⟩

section
variable {N : Nat} {ls : List Lb} {s : Nat} {d : Nat → Int}
/-- A limb at a joint leads to the parent or to a child. -/
theorem TD.side (t : TD N ls s d) {x : Lb} (hx : x ∈ ls) {v : Nat} (hv : x.p = v ∨ x.q = v) :
    other x v < N ∧ other x v ≠ v ∧ ((par d v x = true ∧ d v = d (other x v) + x.l) ∨ (par d v x = false ∧ par d (other x v) x = true ∧ d (other x v) = d v + x.l)) := by
  have ok := t.ok x hx
  have hp := ok.p_lt
  have hq := ok.q_lt
  have hne := ok.ne
  have hl := ok.l1
  have np := t.nn _ hp
  have nq := t.nn _ hq
  have ht := t.tight x hx
  unfold other
  rcases hv with e | e
  · subst e
    simp only [if_true]
    refine ⟨hq, hne.symm, ?_⟩
    rcases ht with ht | ht
    · right
      refine ⟨?_, ?_, by omega⟩
      · simp only [par, decide_eq_false_iff_not]; omega
      · exact par_q np.1 ht
    · left
      exact ⟨par_p nq.1 ht, by omega⟩
  · subst e
    rw [if_neg hne]
    refine ⟨hp, hne, ?_⟩
    rcases ht with ht | ht
    · left
      exact ⟨par_q np.1 ht, by omega⟩
    · right
      refine ⟨?_, ?_, by omega⟩
      · simp only [par, decide_eq_false_iff_not]; omega
      · exact par_p nq.1 ht
theorem par_at {v : Nat} {x : Lb} (h : par d v x = true) : x.p = v ∨ x.q = v := by
  simp only [par, decide_eq_true_eq] at h
  omega
theorem other_other {x : Lb} {v : Nat} (hv : x.p = v ∨ x.q = v) (hne : x.p ≠ x.q) : other x (other x v) = v := by
  unfold other
  rcases hv with e | e
  · subst e; simp [hne]
  · subst e; simp [hne]

def chainF (ls : List Lb) (d : Nat → Int) (s : Nat) : Nat → Nat → List Nat
  | 0, v => [v]
  | k + 1, v => if v = s then [v] else match ls.find? (par d v) with
    | some x => v :: chainF ls d s k (other x v)
    | none => [v]
def chain (ls : List Lb) (d : Nat → Int) (s : Nat) (v : Nat) : List Nat := chainF ls d s (d v).toNat v
theorem TD.find (t : TD N ls s d) {v : Nat} (hv : v < N) (hne : v ≠ s) {i : Nat} {x : Lb} (hx : ls[i]? = some x) (hp : par d v x = true) : ls.find? (par d v) = some x := by
  cases hf : ls.find? (par d v) with
  | none =>
    have := List.find?_eq_none.1 hf x (List.mem_of_getElem? hx)
    exact absurd hp this
  | some y =>
    have hy := List.mem_of_find?_eq_some hf
    have hpy := List.find?_some hf
    obtain ⟨j, hj⟩ := List.getElem?_of_mem hy
    have := t.uniq v hv hne i j x y hx hj hp hpy
    subst this
    rw [hx] at hj
    exact hj.symm
theorem TD.fuel (t : TD N ls s d) : ∀ (k v : Nat), v < N → (d v).toNat ≤ k → chainF ls d s k v = chain ls d s v := by
  intro k
  induction k with
  | zero =>
    intro v hv h
    have : (d v).toNat = 0 := by omega
    simp [chain, this]
  | succ k ih =>
    intro v hv h
    by_cases e : v = s
    · subst e
      simp only [chain, t.root, chainF, if_true]
      rfl
    · obtain ⟨i, x, hx, hp⟩ := t.up v hv e
      have hs := t.side (List.mem_of_getElem? hx) (par_at hp)
      rcases hs with ⟨ho, _, ⟨_, hd⟩ | ⟨hf, _⟩⟩
      · have hl := (t.ok x (List.mem_of_getElem? hx)).l1
        have hn := t.nn _ ho
        have hf := t.find hv e hx hp
        have e1 : chainF ls d s (k + 1) v = v :: chainF ls d s k (other x v) := by simp [chainF, e, hf]
        obtain ⟨q, hq⟩ : ∃ q, (d v).toNat = q + 1 := ⟨(d v).toNat - 1, by omega⟩
        have e2 : chain ls d s v = v :: chainF ls d s q (other x v) := by simp [chain, hq, chainF, e, hf]
        rw [e1, e2, ih _ ho (by omega)]
        congr 1
        by_cases hqk : q ≤ k
        · have : ∀ q, (d (other x v)).toNat ≤ q → q ≤ k → chainF ls d s q (other x v) = chain ls d s (other x v) := by
            intro q h1 h2
            clear ih
            revert h1
            generalize other x v = u at *
            intro h1
            have key : ∀ (q u : Nat), u < N → (d u).toNat ≤ q → chainF ls d s (q + 1) u = chainF ls d s q u := by
              intro q
              induction q with
              | zero =>
                intro u hu h
                have hz : d u = 0 := by have := t.nn u hu; omega
                by_cases eu : u = s
                · simp [chainF, eu]
                · obtain ⟨i, y, hy, hpy⟩ := t.up u hu eu
                  rcases t.side (List.mem_of_getElem? hy) (par_at hpy) with ⟨ho', _, ⟨_, hd'⟩ | ⟨hf', _⟩⟩
                  · have := t.nn _ ho'
                    have := (t.ok y (List.mem_of_getElem? hy)).l1
                    omega
                  · rw [hpy] at hf'; cases hf'
              | succ q ih =>
                intro u hu h
                by_cases eu : u = s
                · simp [chainF, eu]
                · obtain ⟨i, y, hy, hpy⟩ := t.up u hu eu
                  have hfy := t.find hu eu hy hpy
                  rcases t.side (List.mem_of_getElem? hy) (par_at hpy) with ⟨ho', _, ⟨_, hd'⟩ | ⟨hf', _⟩⟩
                  · have := (t.ok y (List.mem_of_getElem? hy)).l1
                    have := t.nn _ ho'
                    have h3 := ih (other y u) ho' (by omega)
                    have e3 : ∀ k, chainF ls d s (k + 1) u = u :: chainF ls d s k (other y u) := fun k => by simp [chainF, eu, hfy]
                    rw [e3 (q + 1), e3 q, h3]
                  · rw [hpy] at hf'; cases hf'
            obtain ⟨r, hr⟩ : ∃ r, q = (d u).toNat + r := ⟨q - (d u).toNat, by omega⟩
            subst hr
            clear h2 h1
            induction r with
            | zero => rfl
            | succ r ih => rw [← Nat.add_assoc, key _ _ ho (by omega)]; exact ih
          exact (this q (by omega) hqk).symm
        · omega
      · rw [hp] at hf; cases hf
theorem TD.chain_root (t : TD N ls s d) : chain ls d s s = [s] := by simp [chain, t.root, chainF]
theorem TD.chain_step (t : TD N ls s d) {v : Nat} (hv : v < N) (hne : v ≠ s) {i : Nat} {x : Lb} (hx : ls[i]? = some x) (hp : par d v x = true) : chain ls d s v = v :: chain ls d s (other x v) := by
  rcases t.side (List.mem_of_getElem? hx) (par_at hp) with ⟨ho, _, ⟨_, hd⟩ | ⟨hf, _⟩⟩
  · have hl := (t.ok x (List.mem_of_getElem? hx)).l1
    have hn := t.nn _ ho
    obtain ⟨q, hq⟩ : ∃ q, (d v).toNat = q + 1 := ⟨(d v).toNat - 1, by omega⟩
    have e2 : chain ls d s v = v :: chainF ls d s q (other x v) := by simp [chain, hq, chainF, hne, t.find hv hne hx hp]
    rw [e2, t.fuel q _ ho (by omega)]
  · rw [hp] at hf; cases hf
theorem chainF_cons (k v : Nat) : ∃ r, chainF ls d s k v = v :: r := by
  cases k with
  | zero => exact ⟨[], rfl⟩
  | succ k =>
    unfold chainF
    split
    · exact ⟨[], rfl⟩
    · split
      · exact ⟨_, rfl⟩
      · exact ⟨[], rfl⟩
theorem chain_cons (v : Nat) : ∃ r, chain ls d s v = v :: r := chainF_cons _ _
theorem TD.chain_len (t : TD N ls s d) : ∀ (k v : Nat), v < N → (d v).toNat ≤ k → (chain ls d s v).length ≤ k + 1 := by
  intro k
  induction k with
  | zero =>
    intro v hv h
    have : (d v).toNat = 0 := by omega
    simp [chain, this, chainF]
  | succ k ih =>
    intro v hv h
    by_cases e : v = s
    · subst e; rw [t.chain_root]; simp
    · obtain ⟨i, x, hx, hp⟩ := t.up v hv e
      rw [t.chain_step hv e hx hp]
      rcases t.side (List.mem_of_getElem? hx) (par_at hp) with ⟨ho, _, ⟨_, hd⟩ | ⟨hf, _⟩⟩
      · have hl := (t.ok x (List.mem_of_getElem? hx)).l1
        have hn := t.nn _ ho
        have := ih _ ho (by omega)
        simp; omega
      · rw [hp] at hf; cases hf
end
end Go.Proofs.Ytnghfocboodkhaa
