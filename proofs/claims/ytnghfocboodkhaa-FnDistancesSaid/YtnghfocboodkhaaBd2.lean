/- Plain mathematics of bodies, continued: joining parts tells the same as reaching all joints; in a tree each joint has one limb toward the root, distances are symmetric; no program in sight. -/
import Derived.Test.YtnghfocboodkhaaBd
namespace Go.Proofs.Ytnghfocboodkhaa

/-! ### The joining of parts -/
def mrg (f : Nat → Nat) (x : Lb) : Nat → Nat := fun i => if f i = f x.q then f x.p else f i
def joins : (Nat → Nat) → List Lb → Bool
  | _, [] => true
  | f, x :: xs => decide (f x.p ≠ f x.q) && joins (mrg f x) xs
def roots (f : Nat → Nat) (N : Nat) : Nat := cnt (fun k => decide (f k = k)) N

structure UInv (N : Nat) (ms : List Lb) (f : Nat → Nat) : Prop where
  lt : ∀ i, i < N → f i < N
  idem : ∀ i, f (f i) = f i
  edge : ∀ x ∈ ms, f x.p = f x.q
  same : ∀ S : Nat → Prop, Closed ms S → ∀ i j, f i = f j → (S i ↔ S j)

theorem uinv_id (N : Nat) : UInv N [] (fun i => i) := ⟨fun _ h => h, fun _ => rfl, fun _ h => by simp at h, fun _ _ i j h => by rw [show i = j from h]⟩
theorem mrg_same {f : Nat → Nat} {x : Lb} (h : f x.p = f x.q) : mrg f x = f := by
  funext i
  unfold mrg
  split
  · omega
  · rfl
theorem uinv_mrg {N : Nat} {ms : List Lb} {f : Nat → Nat} (h : UInv N ms f) {x : Lb} (ok : okLb N x) : UInv N (ms ++ [x]) (mrg f x) := by
  refine ⟨fun i hi => ?_, fun i => ?_, fun y hy => ?_, fun S hS i j hij => ?_⟩
  · unfold mrg; split
    · exact h.lt _ ok.p_lt
    · exact h.lt i hi
  · unfold mrg
    by_cases e : f i = f x.q
    · simp only [e, if_true, h.idem]
      split <;> rfl
    · simp only [e, if_false, h.idem]
  · rcases List.mem_append.1 hy with hy | hy
    · unfold mrg; rw [h.edge y hy]
    · simp at hy
      subst hy
      unfold mrg
      simp only [if_true]
      split <;> rfl
  · have hc : Closed ms S := fun y hy => hS y (by simp [hy])
    have hx : S x.p ↔ S x.q := hS x (by simp)
    have hh := h.same S hc
    unfold mrg at hij
    by_cases e1 : f i = f x.q
    · by_cases e2 : f j = f x.q
      · exact (hh i x.q e1).trans (hh j x.q e2).symm
      · simp only [e1, e2, if_true, if_false] at hij
        exact (hh i x.q e1).trans (hx.symm.trans (hh x.p j hij))
    · by_cases e2 : f j = f x.q
      · simp only [e1, e2, if_true, if_false] at hij
        exact (hh i x.p hij).trans (hx.trans (hh j x.q e2).symm)
      · simp only [e1, e2, if_false] at hij
        exact hh i j hij
theorem roots_mrg {N : Nat} {ms : List Lb} {f : Nat → Nat} (h : UInv N ms f) {x : Lb} (ok : okLb N x) (hne : f x.p ≠ f x.q) : roots f N = roots (mrg f x) N + 1 := by
  refine cnt_add (v := f x.q) (h.lt _ ok.q_lt) ?_ ?_ fun y hy => ?_
  · simp only [mrg, h.idem, if_true, decide_eq_false_iff_not]
    exact hne
  · simp only [h.idem, decide_true]
  · unfold mrg
    by_cases e : f y = f x.q
    · simp only [e, if_true]
      have h1 : ¬f x.p = y := by
        rintro rfl
        rw [h.idem] at e
        exact hne e
      rw [decide_eq_false h1, decide_eq_false (fun e' => hy e'.symm)]
    · simp only [e, if_false]
theorem joins_count {N : Nat} : ∀ (xs ms : List Lb) (f : Nat → Nat), UInv N ms f → (∀ x ∈ xs, okLb N x) →
    UInv N (ms ++ xs) (xs.foldl mrg f) ∧ (joins f xs = true → roots (xs.foldl mrg f) N + xs.length = roots f N) ∧ (joins f xs = false → roots f N < roots (xs.foldl mrg f) N + xs.length) ∧ roots f N ≤ roots (xs.foldl mrg f) N + xs.length := by
  intro xs
  induction xs with
  | nil => intro ms f h _; exact ⟨by simpa using h, fun _ => by simp, fun h => by simp [joins] at h, by simp⟩
  | cons x xs ih =>
    intro ms f h ok
    have okx := ok x (by simp)
    obtain ⟨h1, h2, h3, h4⟩ := ih (ms ++ [x]) (mrg f x) (uinv_mrg h okx) fun y hy => ok y (by simp [hy])
    simp only [List.foldl_cons, List.length_cons, joins]
    refine ⟨by simpa using h1, ?_, ?_, ?_⟩
    · intro hj
      simp only [Bool.and_eq_true, decide_eq_true_eq] at hj
      have := h2 hj.2
      have := roots_mrg h okx hj.1
      omega
    · intro hj
      by_cases e : f x.p = f x.q
      · rw [mrg_same e] at h4 ⊢
        omega
      · have hr := roots_mrg h okx e
        have := h3 (by simpa [e] using hj)
        omega
    · by_cases e : f x.p = f x.q
      · rw [mrg_same e] at h4 ⊢
        omega
      · have hr := roots_mrg h okx e
        omega
theorem roots_id (N : Nat) : roots (fun i => i) N = N := cnt_full fun v _ => by simp

theorem joins_iff {N : Nat} {ls : List Lb} (hN : 0 < N) (ok : ∀ x ∈ ls, okLb N x) (hl : ls.length + 1 = N) : joins (fun i => i) ls = true ↔ ∀ v, v < N → 0 ≤ dist N ls 0 v := by
  obtain ⟨h1, h2, h3, _⟩ := joins_count ls [] (fun i => i) (uinv_id N) ok
  rw [roots_id] at h2 h3
  rw [List.nil_append] at h1
  generalize hf : ls.foldl mrg (fun i => i) = f at *
  have hinv := inv_dist hN ok
  constructor
  · intro hj v hv
    have hr : roots f N = 1 := by have := h2 hj; omega
    have hlab : f v = f 0 := cnt_one hr (h1.lt v hv) (h1.lt 0 hN) (by simp [h1.idem]) (by simp [h1.idem])
    have hcl : Closed ls (fun u => 0 ≤ dist N ls 0 u) := dist_full hN ok
    exact ((h1.same _ hcl v 0 hlab).2 (by rw [hinv.root]; exact Int.le_refl 0))
  · intro hall
    cases hj : joins (fun i => i) ls with
    | true => rfl
    | false =>
      exfalso
      have h4 := h3 hj
      have hcl : Closed ls (fun u => f u = f 0) := fun x hx => by show f x.p = f 0 ↔ f x.q = f 0; rw [h1.edge x hx]
      have hlab : ∀ v, v < N → f v = f 0 := fun v hv => hinv.inside (fun u => f u = f 0) hcl rfl v (hall v hv)
      have hr : roots f N ≤ 1 := by
        have e : roots f N ≤ cnt (fun k => decide (k = f 0)) N := cnt_mono fun v hv hp => by
          simp only [decide_eq_true_eq] at hp ⊢
          have := hlab v hv
          omega
        have e2 : cnt (fun k => decide (k = f 0)) N = 1 := by
          have h := cnt_add (P := fun _ => false) (Q := fun k => decide (k = f 0)) (h1.lt 0 hN) rfl (by simp) (fun y hy => by simp [hy])
          have h0 : cnt (fun _ => false) N = 0 := by
            generalize N = M
            induction M with
            | zero => rfl
            | succ n ih => simp [cnt, ih]
          omega
        omega
      omega

/-! ### The body -/
def validLb (n : Int) (x : Lb) : Bool := decide (0 ≤ x.a ∧ x.a ≤ n - 1 ∧ 0 ≤ x.b ∧ x.b ≤ n - 1 ∧ x.a ≠ x.b ∧ 1 ≤ x.l ∧ x.l ≤ 100)
def validS (n : Int) (x : Lb) : Bool := decide (0 ≤ x.a ∧ x.a ≤ n - 1 ∧ 0 ≤ x.b ∧ x.b ≤ n - 1 ∧ 1 ≤ x.l ∧ x.l ≤ 100)
def known (N : Nat) (ls : List Lb) : Bool := (List.range N).all fun v => decide (0 ≤ dist N ls 0 v)
def bodyOk (n : Int) (ls : List Lb) : Bool := decide (1 ≤ n ∧ n ≤ 12 ∧ (ls.length : Int) = n - 1) && ls.all (validLb n) && known n.toNat ls
def joinsS (n : Int) : (Nat → Nat) → List Lb → Bool
  | _, [] => true
  | f, x :: xs => validS n x && decide (f x.p ≠ f x.q) && joinsS n (mrg f x) xs
def bodyOkS (n : Int) (ls : List Lb) : Bool := decide (1 ≤ n ∧ n ≤ 12 ∧ (ls.length : Int) = n - 1) && joinsS n (fun i => i) ls

theorem valid_ok {n : Int} {x : Lb} (hn : 1 ≤ n) (h : validLb n x = true) : okLb n.toNat x := by
  simp only [validLb, decide_eq_true_eq] at h
  unfold okLb
  omega
theorem known_iff (N : Nat) (ls : List Lb) : known N ls = true ↔ ∀ v, v < N → 0 ≤ dist N ls 0 v := by simp [known]
theorem joinsS_eq (n : Int) : ∀ (xs : List Lb) (f : Nat → Nat), joinsS n f xs = (xs.all (validLb n) && joins f xs) := by
  intro xs
  induction xs with
  | nil => intro f; rfl
  | cons x xs ih =>
    intro f
    simp only [joinsS, joins, List.all_cons, ih]
    by_cases e : x.a = x.b
    · have e1 : f x.p = f x.q := by unfold Lb.p Lb.q; rw [e]
      simp [validLb, e, e1]
    · have e1 : validLb n x = validS n x := by simp [validLb, validS, e]
      rw [e1]
      cases validS n x <;> cases decide (f x.p ≠ f x.q) <;> simp
theorem bodyOkS_eq (n : Int) (ls : List Lb) : bodyOkS n ls = bodyOk n ls := by
  unfold bodyOkS bodyOk
  rw [joinsS_eq]
  by_cases h : 1 ≤ n ∧ n ≤ 12 ∧ (ls.length : Int) = n - 1
  · cases hv : ls.all (validLb n) with
    | false => simp
    | true =>
      have ok : ∀ x ∈ ls, okLb n.toNat x := fun x hx => valid_ok h.1 (List.all_eq_true.1 hv x hx)
      have := joins_iff (N := n.toNat) (by omega) ok (by omega)
      have e : joins (fun i => i) ls = known n.toNat ls := by rw [Bool.eq_iff_iff, this, known_iff]
      rw [e]
      cases known n.toNat ls <;> simp
  · simp [h]

structure Tree (N : Nat) (ls : List Lb) : Prop where
  pos : 0 < N
  small : N ≤ 12
  ok : ∀ x ∈ ls, okLb N x
  len : ls.length + 1 = N
  conn : ∀ v, v < N → 0 ≤ dist N ls 0 v
theorem tree_of {n : Int} {ls : List Lb} (h : bodyOk n ls = true) : 1 ≤ n ∧ n ≤ 12 ∧ (ls.length : Int) = n - 1 ∧ Tree n.toNat ls := by
  unfold bodyOk at h
  simp only [Bool.and_eq_true, decide_eq_true_eq, known_iff] at h
  obtain ⟨⟨⟨h1, h2, h3⟩, h4⟩, h5⟩ := h
  exact ⟨h1, h2, h3, by omega, by omega, fun x hx => valid_ok h1 (List.all_eq_true.1 h4 x hx), by omega, h5⟩

section
variable {N : Nat} {ls : List Lb}
theorem Tree.all (t : Tree N ls) {s : Nat} (hs : s < N) : ∀ v, v < N → 0 ≤ dist N ls s v := by
  intro v hv
  have hf := dist_full hs t.ok
  have hi := inv_dist hs t.ok
  have h0 := inv_dist t.pos t.ok
  have c0 : 0 ≤ dist N ls s 0 := by
    apply Classical.byContradiction
    intro hc
    have hcl : Closed ls (fun u => ¬0 ≤ dist N ls s u) := fun x hx => not_congr (hf x hx)
    have := h0.inside (fun u => ¬0 ≤ dist N ls s u) hcl hc s (t.conn s hs)
    rw [hi.root] at this
    omega
  exact h0.inside (fun u => 0 ≤ dist N ls s u) hf c0 v (t.conn v hv)
theorem Tree.tight (t : Tree N ls) {s : Nat} (hs : s < N) : ∀ x ∈ ls, dist N ls s x.q = dist N ls s x.p + x.l ∨ dist N ls s x.p = dist N ls s x.q + x.l := by
  intro x hx
  have hi := inv_dist hs t.ok
  have hc : cnt (reach (dist N ls s)) N = N := cnt_full fun v hv => by simp [reach, t.all hs v hv]
  have := cntL_all (P := Go.Proofs.Ytnghfocboodkhaa.tight (dist N ls s)) (l := ls) (by have := hi.many; have := t.len; omega) x hx
  simp only [Go.Proofs.Ytnghfocboodkhaa.tight, decide_eq_true_eq] at this
  exact this.2.2
theorem Tree.bound (t : Tree N ls) {s : Nat} (hs : s < N) (v : Nat) : dist N ls s v ≤ 1100 := by
  have h := (inv_dist hs t.ok).small v
  have := cnt_le (reach (dist N ls s)) N
  have := t.small
  omega
/-- One limb toward the root. -/
def sumN (f : Nat → Nat) : Nat → Nat
  | 0 => 0
  | n + 1 => sumN f n + f n
theorem sumN_add (f g : Nat → Nat) (n : Nat) : sumN (fun v => f v + g v) n = sumN f n + sumN g n := by
  induction n with
  | zero => rfl
  | succ n ih => simp only [sumN, ih]; omega
theorem sumN_cnt (P : Nat → Bool) (n : Nat) : sumN (fun v => if P v then 1 else 0) n = cnt P n := by
  induction n with
  | zero => rfl
  | succ n ih => simp only [sumN, cnt, ih]
theorem sumN_le {f g : Nat → Nat} {n : Nat} (h : ∀ v, v < n → g v ≤ f v) : sumN g n ≤ sumN f n := by
  induction n with
  | zero => simp [sumN]
  | succ n ih => simp only [sumN]; have := ih fun v hv => h v (by omega); have := h n (by omega); omega
theorem sumN_eq {f g : Nat → Nat} {n : Nat} (h : ∀ v, v < n → g v ≤ f v) (e : sumN f n = sumN g n) : ∀ v, v < n → f v = g v := by
  induction n with
  | zero => intro v hv; omega
  | succ n ih =>
    simp only [sumN] at e
    have h1 := sumN_le (n := n) fun v hv => h v (Nat.lt_succ_of_lt hv)
    have h2 := h n (by omega)
    intro v hv
    by_cases ev : v = n
    · subst ev; omega
    · exact ih (fun v hv => h v (by omega)) (by omega) v (by omega)
theorem cnt_single {v n : Nat} {P : Nat → Bool} (hv : v < n) (hp : ∀ y, P y = decide (y = v)) : cnt P n = 1 := by
  have h := cnt_add (P := fun _ => false) (Q := P) hv rfl (by simp [hp]) (fun y hy => by simp [hp, hy])
  have h0 : ∀ m, cnt (fun _ => false) m = 0 := by
    intro m
    induction m with
    | zero => rfl
    | succ n ih => simp [cnt, ih]
  rw [h, h0]
theorem sum_par {d : Nat → Int} (hd : ∀ v, v < N → 0 ≤ d v) : ∀ (xs : List Lb), (∀ x ∈ xs, okLb N x ∧ (d x.q = d x.p + x.l ∨ d x.p = d x.q + x.l)) → sumN (fun v => cntL (par d v) xs) N = xs.length := by
  intro xs
  induction xs with
  | nil =>
    intro _
    have : ∀ m, sumN (fun _ => 0) m = 0 := by
      intro m
      induction m with
      | zero => rfl
      | succ n ih => simp [sumN, ih]
    simpa [cntL] using this N
  | cons x xs ih =>
    intro h
    obtain ⟨ok, ht⟩ := h x (by simp)
    have hp := hd _ ok.p_lt
    have hq := hd _ ok.q_lt
    have hl := ok.l1
    simp only [cntL, List.length_cons]
    rw [sumN_add, ih fun y hy => h y (by simp [hy]), sumN_cnt]
    have : cnt (fun v => par d v x) N = 1 := by
      rcases ht with ht | ht
      · refine cnt_single ok.q_lt fun y => ?_
        simp only [par]
        rw [Bool.eq_iff_iff]
        simp only [decide_eq_true_eq]
        constructor
        · rintro (⟨e, _⟩ | ⟨e, _, e2⟩)
          · exact e.symm
          · subst e; omega
        · rintro rfl
          exact .inl ⟨rfl, hp, ht⟩
      · refine cnt_single ok.p_lt fun y => ?_
        simp only [par]
        rw [Bool.eq_iff_iff]
        simp only [decide_eq_true_eq]
        constructor
        · rintro (⟨e, _, e2⟩ | ⟨e, _⟩)
          · subst e; omega
          · exact e.symm
        · rintro rfl
          exact .inr ⟨rfl, hq, ht⟩
    omega
theorem cntL_pos {α : Type} {P : α → Bool} {l : List α} {x : α} (hx : x ∈ l) (hp : P x = true) : 1 ≤ cntL P l := by
  induction l with
  | nil => simp at hx
  | cons y ys ih =>
    simp only [cntL]
    rcases List.mem_cons.1 hx with e | e
    · subst e; rw [hp]; simp
    · have := ih e; omega
theorem cntL_uniq {α : Type} {P : α → Bool} : ∀ {l : List α}, cntL P l ≤ 1 → ∀ {i j : Nat} {x y : α}, l[i]? = some x → l[j]? = some y → P x = true → P y = true → i = j := by
  intro l
  induction l with
  | nil => intro _ i j x y hx; simp at hx
  | cons z zs ih =>
    intro h i j x y hx hy px py
    simp only [cntL] at h
    cases i with
    | zero =>
      cases j with
      | zero => rfl
      | succ j =>
        simp at hx hy
        subst hx
        have := cntL_pos (P := P) (List.mem_of_getElem? hy) py
        rw [px] at h; simp at h; omega
    | succ i =>
      cases j with
      | zero =>
        simp at hx hy
        subst hy
        have := cntL_pos (P := P) (List.mem_of_getElem? hx) px
        rw [py] at h; simp at h; omega
      | succ j =>
        simp at hx hy
        have := ih (by split at h <;> omega) hx hy px py
        omega
theorem Tree.par_one (t : Tree N ls) {s : Nat} (hs : s < N) {v : Nat} (hv : v < N) (hvs : v ≠ s) : cntL (par (dist N ls s) v) ls = 1 := by
  have hi := inv_dist hs t.ok
  have hsum := sum_par (N := N) (d := dist N ls s) (t.all hs) ls fun x hx => ⟨t.ok x hx, t.tight hs x hx⟩
  have hg : sumN (fun v => if decide (v ≠ s) then 1 else 0) N + 1 = N := by
    rw [sumN_cnt]
    have := cnt_add (P := fun v => decide (v ≠ s)) (Q := fun _ => true) hs (by simp) rfl (fun y hy => by simp [hy])
    rw [cnt_full (P := fun _ => true) (n := N) (fun _ _ => rfl)] at this
    omega
  have h := sumN_eq (f := fun v => cntL (par (dist N ls s) v) ls) (g := fun v => if decide (v ≠ s) then 1 else 0) (n := N) (fun u hu => by
    by_cases e : u = s
    · simp [e]
    · obtain ⟨x, hx, hp⟩ := hi.up u (t.all hs u hu) e
      have := cntL_pos hx hp
      simpa [e] using this) (by have := t.len; omega) v hv
  simpa [hvs] using h
theorem Tree.par_uniq (t : Tree N ls) {s : Nat} (hs : s < N) {v : Nat} (hv : v < N) (hvs : v ≠ s) {i j : Nat} {x y : Lb} (hx : ls[i]? = some x) (hy : ls[j]? = some y)
    (px : par (dist N ls s) v x = true) (py : par (dist N ls s) v y = true) : i = j :=
  cntL_uniq (by rw [t.par_one hs hv hvs]; exact Nat.le_refl 1) hx hy px py

/-- A number that turns by at most a limb's length over each limb turns by at most the distance. -/
theorem Tree.lip (t : Tree N ls) {s : Nat} (hs : s < N) {F : Nat → Int} (hF : ∀ x ∈ ls, F x.p ≤ F x.q + x.l ∧ F x.q ≤ F x.p + x.l) : ∀ v, v < N → F v ≤ F s + dist N ls s v ∧ F s ≤ F v + dist N ls s v := by
  have hi := inv_dist hs t.ok
  have key : ∀ (m : Nat) (v : Nat), v < N → (dist N ls s v).toNat ≤ m → F v ≤ F s + dist N ls s v ∧ F s ≤ F v + dist N ls s v := by
    intro m
    induction m with
    | zero =>
      intro v hv hm
      by_cases e : v = s
      · subst e; rw [hi.root]; omega
      · obtain ⟨x, hx, hp⟩ := hi.up v (t.all hs v hv) e
        have hl := (t.ok x hx).l1
        simp only [par, decide_eq_true_eq] at hp
        omega
    | succ m ih =>
      intro v hv hm
      by_cases e : v = s
      · subst e; rw [hi.root]; omega
      · obtain ⟨x, hx, hp⟩ := hi.up v (t.all hs v hv) e
        have hl := (t.ok x hx).l1
        have hf := hF x hx
        simp only [par, decide_eq_true_eq] at hp
        rcases hp with ⟨e1, h1, h2⟩ | ⟨e1, h1, h2⟩
        · have := ih x.p (t.ok x hx).p_lt (by omega)
          subst e1
          omega
        · have := ih x.q (t.ok x hx).q_lt (by omega)
          subst e1
          omega
  exact fun v hv => key _ v hv (Nat.le_refl _)
theorem Tree.lipd (t : Tree N ls) {s : Nat} (hs : s < N) : ∀ x ∈ ls, dist N ls s x.p ≤ dist N ls s x.q + x.l ∧ dist N ls s x.q ≤ dist N ls s x.p + x.l := fun x hx => by
  have := t.tight hs x hx
  have := (t.ok x hx).l1
  omega
theorem Tree.self (t : Tree N ls) {s : Nat} (hs : s < N) : dist N ls s s = 0 := (inv_dist hs t.ok).root
theorem Tree.symm (t : Tree N ls) {u v : Nat} (hu : u < N) (hv : v < N) : dist N ls u v = dist N ls v u := by
  have h1 := t.lip hu (t.lipd hv) v hv
  have h2 := t.lip hv (t.lipd hu) u hu
  rw [t.self hv] at h1
  rw [t.self hu] at h2
  omega
theorem Tree.tri (t : Tree N ls) {u v k : Nat} (hu : u < N) (hv : v < N) (hk : k < N) : dist N ls u v ≤ dist N ls u k + dist N ls k v := by
  have := t.lip hk (t.lipd hu) v hv
  omega
theorem Tree.zero (t : Tree N ls) {u v : Nat} (hu : u < N) (hv : v < N) : dist N ls u v = 0 ↔ u = v := by
  constructor
  · intro h
    apply Classical.byContradiction
    intro e
    obtain ⟨x, hx, hp⟩ := (inv_dist hu t.ok).up v (t.all hu v hv) (fun e' => e e'.symm)
    have hl := (t.ok x hx).l1
    simp only [par, decide_eq_true_eq] at hp
    omega
  · rintro rfl; exact t.self hu
end
end Go.Proofs.Ytnghfocboodkhaa
