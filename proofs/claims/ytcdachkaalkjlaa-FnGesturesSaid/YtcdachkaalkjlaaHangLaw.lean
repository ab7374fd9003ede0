/- Plain law of hanging: the hanging pose is a pose, is held, no joint can be lowered, and it can be lifted as a whole; no program in sight. -/
import Derived.Test.YtcdachkaalkjlaaSlackS
import Derived.Test.YtcdachkaalkjlaaHeld
namespace Go.Proofs.Ytcdachkaalkjlaa
open Go.ChangeShapes Go.WideShapes Go.ChangeAt Go.RowKit Go.Deep Go.Joins
set_option maxRecDepth 100000

theorem hang_ge {N : Nat} {ls : List Lb} {ps : List Int} {j i : Nat} {p : Int} (hp : ps[i]? = some p) (h0 : 0 ≤ p) : ∀ k, i < k → p - dist N ls i j ≤ hangTo N ls ps j k := by
  intro k
  induction k with
  | zero => intro h; omega
  | succ k ih =>
    intro h
    rcases Nat.lt_or_ge i k with hlt | hge
    · have := ih hlt
      cases hk : ps[k]? with
      | none => simpa [hangTo, hk] using this
      | some q =>
        by_cases hq : 0 ≤ q
        · rw [hangTo_yes hk hq]; omega
        · rw [hangTo_no hk (by omega)]; exact this
    · obtain rfl : i = k := by omega
      rw [hangTo_yes hp h0]
      omega
theorem hang_att {N : Nat} {ls : List Lb} {ps : List Int} {j : Nat} (t : Tree N ls) (hj : j < N) : ∀ k, k ≤ N → someS (ps.take k) = true → ∃ i p, i < k ∧ ps[i]? = some p ∧ 0 ≤ p ∧ hangTo N ls ps j k = p - dist N ls i j := by
  intro k
  induction k with
  | zero => intro _ h; simp [someS] at h
  | succ k ih =>
    intro hk h
    have hb := t.bound (s := k) (by omega) j
    cases hp : ps[k]? with
    | none =>
      have e : ps.take (k + 1) = ps.take k := by
        have := List.getElem?_eq_none_iff.1 hp
        rw [List.take_of_length_le (by omega), List.take_of_length_le (by omega)]
      rw [e] at h
      obtain ⟨i, p, h1, h2, h3, h4⟩ := ih (by omega) h
      exact ⟨i, p, by omega, h2, h3, by simpa [hangTo, hp] using h4⟩
    | some q =>
      by_cases hq : 0 ≤ q
      · rw [hangTo_yes hp hq]
        cases hs : someS (ps.take k) with
        | true =>
          obtain ⟨i, p, h1, h2, h3, h4⟩ := ih (by omega) hs
          by_cases hle : hangTo N ls ps j k ≤ q - dist N ls k j
          · exact ⟨k, q, by omega, hp, hq, by omega⟩
          · exact ⟨i, p, by omega, h2, h3, by omega⟩
        | false =>
          rw [hangTo_first k hs]
          exact ⟨k, q, by omega, hp, hq, by omega⟩
      · rw [hangTo_no hp (by omega)]
        rw [take_snoc hp, someS_snoc, show decide (0 ≤ q) = false from decide_eq_false hq, Bool.or_false] at h
        obtain ⟨i, p, h1, h2, h3, h4⟩ := ih (by omega) h
        exact ⟨i, p, by omega, h2, h3, h4⟩
theorem hang_some {N : Nat} {ls : List Lb} {ps : List Int} (h : pullsOk (N : Int) ls ps = true) : someS (ps.take N) = true := by
  have hf := pullsFacts h
  have := hf.len
  rw [List.take_of_length_le (by omega)]
  exact hf.some_
theorem hangF_att {N : Nat} {ls : List Lb} {ps : List Int} {j : Nat} (t : Tree N ls) (h : pullsOk (N : Int) ls ps = true) (hj : j < N) : ∃ i p, i < N ∧ ps[i]? = some p ∧ 0 ≤ p ∧ hangF N ls ps j = p - dist N ls i j := hang_att t hj N (Nat.le_refl _) (hang_some h)
theorem hangF_bd {N : Nat} {ls : List Lb} {ps : List Int} {j : Nat} (t : Tree N ls) (h : pullsOk (N : Int) ls ps = true) (hj : j < N) : -2000 ≤ hangF N ls ps j ∧ hangF N ls ps j ≤ 500 := hangTo_bd t hj (pullsFacts h).rng N (Nat.le_refl _)
theorem hangF_lip {N : Nat} {ls : List Lb} {ps : List Int} (t : Tree N ls) (h : pullsOk (N : Int) ls ps = true) {x : Lb} (hx : x ∈ ls) : hangF N ls ps x.p ≤ hangF N ls ps x.q + x.l ∧ hangF N ls ps x.q ≤ hangF N ls ps x.p + x.l := by
  have ok := t.ok x hx
  constructor
  · obtain ⟨i, p, hi, hp, h0, e⟩ := hangF_att t h ok.p_lt
    have hg := hang_ge (N := N) (ls := ls) (j := x.q) hp h0 N hi
    have := t.lipd hi x hx
    unfold hangF at *
    omega
  · obtain ⟨i, p, hi, hp, h0, e⟩ := hangF_att t h ok.q_lt
    have hg := hang_ge (N := N) (ls := ls) (j := x.p) hp h0 N hi
    have := t.lipd hi x hx
    unfold hangF at *
    omega
/-- The hanging pose, lifted by c. -/
theorem lift_pose {N : Nat} {ls : List Lb} {ps : List Int} (h : pullsOk (N : Int) ls ps = true) {c : Int} (h0 : 0 ≤ c) (h1 : c ≤ 3) : poseOk N ls (tab (fun j => hangF N ls ps j + c) N) = true := by
  have hb := (pullsFacts h).body
  obtain ⟨_, _, _, t⟩ := tree_of hb
  rw [Int.toNat_natCast] at t
  refine poseOk_yes hb (by rw [tab_length]) (decide_eq_true fun x hx => ?_) fun x hx => ?_
  · obtain ⟨j, hj, rfl⟩ := List.mem_map.1 hx
    have := hangF_bd t h (List.mem_range.1 hj)
    omega
  · have ok := t.ok x hx
    rw [stepLb_at (tab_get _ N x.p ok.p_lt) (tab_get _ N x.q ok.q_lt)]
    have := hangF_lip t h hx
    exact decide_eq_true (by omega)
theorem lift_held {N : Nat} {ls : List Lb} {ps : List Int} (h : pullsOk (N : Int) ls ps = true) {c : Int} (h0 : 0 ≤ c) (h1 : c ≤ 3) : isHeld N ls ps (tab (fun j => hangF N ls ps j + c) N) = true := by
  have hf := pullsFacts h
  obtain ⟨_, _, _, t⟩ := tree_of hf.body
  rw [Int.toNat_natCast] at t
  refine isHeld_yes h (lift_pose h h0 h1) fun i p q hi hp hq hp0 => ?_
  have hiN : i < N := by have := hf.len; omega
  rw [tab_get _ N i hiN] at hq
  obtain rfl := Option.some.inj hq
  have := hang_ge (N := N) (ls := ls) (j := i) hp hp0 N hiN
  rw [t.self hiN] at this
  unfold hangF
  omega
theorem tab_zero {N : Nat} {f : Nat → Int} : tab f N = tab (fun j => f j + 0) N := tab_congr fun j _ => by omega
theorem hang_pose {N : Nat} {ls : List Lb} {ps : List Int} (h : pullsOk (N : Int) ls ps = true) : poseOk N ls (hangPose N ls ps) = true := by
  rw [hangPose_yes h, tab_zero]; exact lift_pose h (by omega) (by omega)
theorem hang_held {N : Nat} {ls : List Lb} {ps : List Int} (h : pullsOk (N : Int) ls ps = true) : isHeld N ls ps (hangPose N ls ps) = true := by
  rw [hangPose_yes h, tab_zero]; exact lift_held h (by omega) (by omega)
theorem lower_not {N : Nat} {ls : List Lb} {ps : List Int} (h : pullsOk (N : Int) ls ps = true) {j : Nat} (hj : j < N) : isHeld N ls ps ((hangPose N ls ps).set j (hangF N ls ps j - 1)) = false := by
  rw [Bool.eq_false_iff]
  intro hh
  obtain ⟨_, h2, h3⟩ := isHeld_facts hh
  have hf := pullsFacts h
  obtain ⟨_, _, _, t⟩ := tree_of hf.body
  rw [Int.toNat_natCast] at t
  have hpf := poseFacts h2
  rw [hangPose_yes h, tab_set] at hpf h3
  obtain ⟨i, p, hi, hp, h0, e⟩ := hangF_att t h hj
  have hl := t.lip hi (F := upd (hangF N ls ps) j (hangF N ls ps j - 1)) (fun x hx => by
    have ok := t.ok x hx
    have := hpf.all x hx
    rw [stepLb_at (tab_get _ N x.p ok.p_lt) (tab_get _ N x.q ok.q_lt)] at this
    have := of_decide_eq_true this
    omega) j hj
  have hh1 := h3 i p _ (by have := hf.len; omega) hp (tab_get _ N i hi) h0
  rw [upd_same] at hl
  omega
theorem slack_mem {ps hs : List Int} {N j : Nat} (hj : j < N) : (j : Int) ∈ slackTo ps hs N ↔ slackB ps hs j = true := by
  unfold slackTo
  constructor
  · intro h
    obtain ⟨i, hi, e⟩ := List.mem_map.1 h
    obtain ⟨_, hb⟩ := List.mem_filter.1 hi
    obtain rfl : i = j := by omega
    exact hb
  · intro h
    exact List.mem_map.2 ⟨j, List.mem_filter.2 ⟨List.mem_range.2 hj, h⟩, rfl⟩
theorem low_le {N : Nat} {ls : List Lb} {ps : List Int} (h : pullsOk (N : Int) ls ps = true) {j : Nat} (hj : j < N) : lowS N ls ps ≤ hangF N ls ps j := by
  rw [lowS_yes h]
  unfold lowTo
  rw [List.take_length]
  refine (fold_min _ _).2.1 _ ?_
  rw [hangPose_yes h]
  exact List.mem_of_getElem? (tab_get _ N j hj)
theorem low_ge {N : Nat} {ls : List Lb} {ps : List Int} (h : pullsOk (N : Int) ls ps = true) : -2000 ≤ lowS N ls ps ∧ lowS N ls ps ≤ 500 := by
  have hf := pullsFacts h
  obtain ⟨n1, n2, _, t⟩ := tree_of hf.body
  rw [Int.toNat_natCast] at t
  rw [lowS_yes h]
  unfold lowTo
  rw [List.take_length]
  have hmem : ∀ x ∈ hangPose N ls ps, -2000 ≤ x ∧ x ≤ 500 := by
    rw [hangPose_yes h]
    intro x hx
    obtain ⟨j, hj, rfl⟩ := List.mem_map.1 hx
    exact hangF_bd t h (List.mem_range.1 hj)
  have hh : (hangPose N ls ps).headD 0 ∈ hangPose N ls ps := by
    have hl := hang_yes_len h
    cases hc : hangPose N ls ps with
    | nil => rw [hc] at hl; simp at hl
    | cons y ys => simp
  rcases (fold_min (hangPose N ls ps) ((hangPose N ls ps).headD 0)).2.2 with e | e
  · rw [e]; exact hmem _ hh
  · exact hmem _ e
end Go.Proofs.Ytcdachkaalkjlaa
