/- Slices of slices of integers: what they read as, rows that are the call's own, and the contracts of the helpers that copy, compare, mark and hold them; lengths at most 2^20. -/
import Derived.Test.YtcdachkaalkjlaaInts
namespace Go.Proofs.Ytcdachkaalkjlaa
open Go.ChangeShapes Go.WideShapes Go.ChangeAt Go.RowKit Go.Deep Go.Joins
set_option maxRecDepth 100000

structure Sl where
  A : Option Addr
  n : Nat
  c : Nat
def Sl.v (s : Sl) : Value := .slice s.A s.n s.c
def totSS : List (List Int) → Nat
  | [] => 0
  | xs :: r => xs.length + totSS r
theorem totSS_app (a b : List (List Int)) : totSS (a ++ b) = totSS a + totSS b := by
  induction a with
  | nil => simp [totSS]
  | cons x a ih => simp only [List.cons_append, totSS, ih]; omega
theorem totSS_take {l : List (List Int)} {k : Nat} {xs : List Int} (h : l[k]? = some xs) : totSS (l.take (k + 1)) = totSS (l.take k) + xs.length := by
  rw [take_snoc h, totSS_app]; simp [totSS]
theorem totSS_le (l : List (List Int)) (k : Nat) : totSS (l.take k) ≤ totSS l := by
  have := totSS_app (l.take k) (l.drop k)
  rw [List.take_append_drop] at this
  omega
theorem totSS_row {l : List (List Int)} {k : Nat} {xs : List Int} (h : l[k]? = some xs) : totSS (l.take k) + xs.length ≤ totSS l := by
  have := totSS_le l (k + 1)
  rw [totSS_take h] at this
  omega
def markSS (k : Int) : List (List Int) → List (List Int)
  | [] => []
  | xs :: r => upFrom k xs.length :: markSS (k + (xs.length : Int)) r
theorem markSS_app (k : Int) (a b : List (List Int)) : markSS k (a ++ b) = markSS k a ++ markSS (k + (totSS a : Int)) b := by
  induction a generalizing k with
  | nil => simp [markSS, totSS]
  | cons x a ih =>
    simp only [List.cons_append, markSS, ih, totSS]
    rw [show k + (x.length : Int) + (totSS a : Int) = k + ((x.length + totSS a : Nat) : Int) by omega]
theorem markSS_len (k : Int) (a : List (List Int)) : (markSS k a).length = a.length := by
  induction a generalizing k with
  | nil => rfl
  | cons x a ih => simp [markSS, ih]
theorem markSS_snoc (k : Int) {l : List (List Int)} {j : Nat} {xs : List Int} (h : l[j]? = some xs) : markSS k (l.take (j + 1)) = markSS k (l.take j) ++ [upFrom (k + (totSS (l.take j) : Int)) xs.length] := by
  rw [take_snoc h, markSS_app]; rfl
theorem markSS_get (k : Int) {l : List (List Int)} {j : Nat} {xs : List Int} (h : l[j]? = some xs) : (markSS k l)[j]? = some (upFrom (k + (totSS (l.take j) : Int)) xs.length) := by
  have e : l = l.take j ++ xs :: l.drop (j + 1) := by rw [← drop_cons h, List.take_append_drop]
  have hj : (l.take j).length = j := take_len h
  conv => lhs; rw [e, markSS_app]
  rw [List.getElem?_append_right (by rw [markSS_len, hj]; exact Nat.le_refl _), markSS_len, hj]
  simp [markSS]
theorem totSS_mark (k : Int) (a : List (List Int)) : totSS (markSS k a) = totSS a := by
  induction a generalizing k with
  | nil => rfl
  | cons x a ih => simp [markSS, totSS, ih, upFrom_length]

/-! ### Reading -/
def ReadsSS (w : World) (A : Option Addr) (n : Nat) (xss : List (List Int)) : Prop :=
  ∃ rs : List Sl, Reads w 1 A n (rs.map Sl.v) ∧ rs.length = xss.length ∧ ∀ (i : Nat) (r : Sl) (xs : List Int), rs[i]? = some r → xss[i]? = some xs → Reads w 1 r.A r.n (ints xs)
section
variable {w w' : World} {A : Option Addr} {n : Nat} {xss : List (List Int)}
theorem ReadsSS.len (h : ReadsSS w A n xss) : xss.length = n := by
  obtain ⟨rs, h1, h2, _⟩ := h
  have := h1.1
  simp at this
  omega
theorem ReadsSS.keep (h : ReadsSS w A n xss) (hz : w.heap.size ≤ w'.heap.size) (hk : ∀ p : Addr, p.block < w.heap.size → w'.cell? p = w.cell? p) : ReadsSS w' A n xss := by
  obtain ⟨rs, h1, h2, h3⟩ := h
  exact ⟨rs, h1.keep hz hk, h2, fun i r xs hr hx => (h3 i r xs hr hx).keep hz hk⟩
theorem ReadsSS.below (h : ReadsSS w A n xss) (hb : Below w.heap.size w w') : ReadsSS w' A n xss := h.keep hb.size fun _ hp => hb.cell hp
theorem ReadsSS.drewN (h : ReadsSS w A n xss) (q : Nat) : ReadsSS (w.drewN q) A n xss := h.below (below_drewN (Below.refl _ _) q)
theorem ReadsSS.row (h : ReadsSS w A n xss) {k : Nat} (hk : k < n) :
    ∃ (b o : Nat) (r : Sl) (xs : List Int), A = some ⟨b, o, none⟩ ∧ b < w.heap.size ∧ xss[k]? = some xs ∧ w.cell? ⟨b, o + k, none⟩ = some (.slice r.A r.n r.c) ∧ Reads w 1 r.A r.n (ints xs) ∧ r.n = xs.length := by
  have hl := h.len
  obtain ⟨rs, h1, h2, h3⟩ := h
  obtain ⟨b, o, e, hb, hc⟩ := h1.2 (by omega)
  have hr : rs[k]? = some (rs[k]'(by omega)) := List.getElem?_eq_getElem (by omega)
  have hx : xss[k]? = some (xss[k]'(by omega)) := List.getElem?_eq_getElem (by omega)
  have hrow := h3 k _ _ hr hx
  exact ⟨b, o, _, _, e, hb, hx, hc k _ (by rw [List.getElem?_map, hr]; rfl), hrow, hrow.len.symm⟩
end

/-! ### Rows that are the call's own -/
def Apart (rs : List Sl) : Prop := ∀ (i j : Nat) (r s : Sl), i < j → rs[i]? = some r → rs[j]? = some s → ∀ (a b : Addr), r.A = some a → s.A = some b → a.block ≠ b.block
def OwnsSS (w : World) (base top : Nat) (A : Option Addr) (n c : Nat) (xss : List (List Int)) : Prop :=
  ∃ rs : List Sl, w.ownsRow base 22 1 (.slice A n c) n (rs.map Sl.v) ∧ Blk A base top ∧ rs.length = xss.length ∧
    (∀ (i : Nat) (r : Sl) (xs : List Int), rs[i]? = some r → xss[i]? = some xs → w.ownsRow base 3 1 (.slice r.A r.n r.c) r.n (ints xs) ∧ Blk r.A base top) ∧ Apart rs ∧ top ≤ w.heap.size
theorem own_ne {w : World} {b1 b2 s1 s2 n1 n2 c1 c2 : Nat} {e1 e2 : TypeId} {A B : Option Addr} {xs ys : List Value} (h : w.ownsRow b1 e1 s1 (.slice A n1 c1) n1 xs) (h' : w.ownsRow b2 e2 s2 (.slice B n2 c2) n2 ys) (hne : e1 ≠ e2)
    {g : Nat} (hA : A = some ⟨g, 0, none⟩) : (Value.slice B n2 c2).ownBlock ≠ some g := by
  intro hg
  rcases h.2 with ⟨hv, _⟩ | ⟨g1, _, cur1, hv1, _, hh1, _⟩
  · injection hv with hv; rw [hA] at hv; cases hv
  · rcases h'.2 with ⟨hv, _⟩ | ⟨g2, _, cur2, hv2, _, hh2, _⟩
    · injection hv with hv; rw [hv] at hg; cases hg
    · injection hv1 with hv1; injection hv2 with hv2
      rw [hv2] at hg
      rw [hA] at hv1
      have e3 : g2 = g := by injection hg
      have e4 : g = g1 := by injection hv1 with hv1; injection hv1
      rw [e3] at hh2
      rw [← e4] at hh1
      rw [hh1] at hh2
      injection hh2 with hh2
      injection hh2 with _ ht
      exact hne ht
section
variable {w w' : World} {base top n c : Nat} {A : Option Addr} {xss : List (List Int)}
theorem OwnsSS.reads (h : OwnsSS w base top A n c xss) : ReadsSS w A n xss := by
  obtain ⟨rs, h1, _, h2, h3, _, _⟩ := h
  exact ⟨rs, Reads.of_own h1, h2, fun i r xs hr hx => Reads.of_own (h3 i r xs hr hx).1⟩
theorem OwnsSS.len (h : OwnsSS w base top A n c xss) : xss.length = n := h.reads.len
theorem own_grown_lo {base size n c lo hi : Nat} {e : TypeId} {A : Option Addr} {xs : List Value} {row : Option Nat} (h : w.ownsRow base e size (.slice A n c) n xs) (hA : Blk A lo hi) (hg : w.grownBy w' row) (hr : ∀ b, row = some b → b < lo ∨ hi ≤ b) : w'.ownsRow base e size (.slice A n c) n xs :=
  own_grown h hg fun g e hc => by
    have b1 := hA _ e
    have b2 := hr g hc
    simp only at b1
    omega
theorem OwnsSS.grown {row : Option Nat} (h : OwnsSS w base top A n c xss) (hg : w.grownBy w' row) (hr : ∀ b, row = some b → b < base ∨ top ≤ b) : OwnsSS w' base top A n c xss := by
  obtain ⟨rs, h1, hb, h2, h3, h4, h5⟩ := h
  exact ⟨rs, own_grown_lo h1 hb hg hr, hb, h2, fun i r xs hr' hx => ⟨own_grown_lo (h3 i r xs hr' hx).1 (h3 i r xs hr' hx).2 hg hr, (h3 i r xs hr' hx).2⟩, h4, Nat.le_trans h5 hg.size⟩
theorem OwnsSS.below (h : OwnsSS w base top A n c xss) (hb : Below w.heap.size w w') : OwnsSS w' base top A n c xss := h.grown (grown_of_below hb none) nofun
theorem OwnsSS.belowB {B : Nat} (h : OwnsSS w base top A n c xss) (hb : Below B w w') (ht : top ≤ B) : OwnsSS w' base top A n c xss := by
  obtain ⟨rs, h1, hbk, h2, h3, h4, h5⟩ := h
  exact ⟨rs, own_belowB h1 hb (fun g e => Nat.lt_of_lt_of_le (hbk _ e).2 ht), hbk, h2, fun i r xs hr hx => ⟨own_belowB (h3 i r xs hr hx).1 hb (fun g e => Nat.lt_of_lt_of_le ((h3 i r xs hr hx).2 _ e).2 ht), (h3 i r xs hr hx).2⟩, h4, Nat.le_trans h5 hb.size⟩
theorem OwnsSS.lower {base' : Nat} (h : OwnsSS w base top A n c xss) (hb : base' ≤ base) : OwnsSS w base' top A n c xss := by
  obtain ⟨rs, h1, hbk, h2, h3, h4, h5⟩ := h
  have lo : ∀ {B : Option Addr}, Blk B base top → Blk B base' top := fun h a e => ⟨Nat.le_trans hb (h a e).1, (h a e).2⟩
  exact ⟨rs, ownsRow_le h1 hb, lo hbk, h2, fun i r xs hr hx => ⟨ownsRow_le (h3 i r xs hr hx).1 hb, lo (h3 i r xs hr hx).2⟩, h4, h5⟩
theorem OwnsSS.drewN (h : OwnsSS w base top A n c xss) (q : Nat) : OwnsSS (w.drewN q) base top A n c xss := h.below (below_drewN (Below.refl _ _) q)
theorem OwnsSS.none_ (w : World) (base : Nat) (hb : base ≤ w.heap.size) : OwnsSS w base base none 0 0 [] :=
  ⟨[], World.ownsRow_nil _ _ _ _, nofun, rfl, fun i r xs h => by simp at h, fun i j r s _ h => by simp at h, hb⟩
/-- A row is turned, all else stays. -/
theorem OwnsSS.turn (h : OwnsSS w base top A n c xss) {j : Nat} (hj : j < n) :
    ∃ (b : Nat) (r : Sl) (xs : List Int), A = some ⟨b, 0, none⟩ ∧ xss[j]? = some xs ∧ w.cell? ⟨b, j, none⟩ = some (.slice r.A r.n r.c) ∧ w.ownsRow base 3 1 (.slice r.A r.n r.c) r.n (ints xs) ∧ Blk r.A base top ∧
      ∀ w' ys, w.grownBy w' (Value.slice r.A r.n r.c).ownBlock → w'.ownsRow base 3 1 (.slice r.A r.n r.c) r.n (ints ys) → OwnsSS w' base top A n c (xss.set j ys) := by
  have hl := h.len
  obtain ⟨rs, h1, hb, h2, h3, h4, h5⟩ := h
  have hr : rs[j]? = some (rs[j]'(by omega)) := List.getElem?_eq_getElem (by omega)
  have hx : xss[j]? = some (xss[j]'(by omega)) := List.getElem?_eq_getElem (by omega)
  obtain ⟨o1, k1⟩ := h3 j _ _ hr hx
  obtain ⟨g, rest, hA, _, _, _, _, hrow⟩ := row_of_own h1 (by omega)
  refine ⟨g, _, _, hA, hx, hrow.cell_ ?_, o1, k1, ?_⟩
  · rw [List.getElem?_append_left (by simp; omega), List.getElem?_map, hr]; rfl
  · intro w' ys hg ho
    refine ⟨rs, own_grown h1 hg (fun g' e => own_ne h1 o1 (by decide) e), hb, by simp [h2], fun i r xs hri hxi => ?_, h4, Nat.le_trans h5 hg.size⟩
    by_cases hij : i = j
    · subst hij
      rw [hr] at hri
      rw [List.getElem?_set_self (by omega)] at hxi
      obtain rfl := Option.some.inj hri
      obtain rfl := Option.some.inj hxi
      exact ⟨ho, k1⟩
    · rw [List.getElem?_set_ne (by omega)] at hxi
      obtain ⟨o2, k2⟩ := h3 i r xs hri hxi
      refine ⟨own_grown o2 hg fun g' e hc => ?_, k2⟩
      have hbk : ∃ a, (rs[j]'(by omega)).A = some a ∧ a.block = g' := by
        cases hA' : (rs[j]'(by omega)).A with
        | none => rw [hA'] at hc; cases hc
        | some a => rw [hA'] at hc; exact ⟨a, rfl, by injection hc⟩
      obtain ⟨a, ha, hag⟩ := hbk
      rcases Nat.lt_or_gt_of_ne hij with hlt | hlt
      · exact h4 i j _ _ hlt hri hr _ _ e ha hag.symm
      · exact h4 j i _ _ hlt hr hri _ _ ha e hag
/-- A new row behind the others, and the outer slice that has grown. -/
theorem OwnsSS.snoc {A' : Option Addr} {c' lo : Nat} {r : Sl} {ys : List Int} (h : OwnsSS w base top A n c xss) (hw : w.grownBy w' (Value.slice A n c).ownBlock) (hr : w'.ownsRow base 3 1 (.slice r.A r.n r.c) r.n (ints ys)) (hrb : Blk r.A lo w'.heap.size) (hlo : top ≤ lo) (hbl : base ≤ lo)
    (ho : ∀ rs : List Sl, w.ownsRow base 22 1 (.slice A n c) n (rs.map Sl.v) → w'.ownsRow base 22 1 (.slice A' (n + 1) c') (n + 1) ((rs ++ [r]).map Sl.v)) (hb : Blk A' base w'.heap.size) :
    OwnsSS w' base w'.heap.size A' (n + 1) c' (xss ++ [ys]) := by
  have hl := h.len
  obtain ⟨rs, h1, hbk, h2, h3, h4, h5⟩ := h
  have up : ∀ {B : Option Addr}, Blk B base top → Blk B base w'.heap.size := fun h a e => ⟨(h a e).1, Nat.lt_of_lt_of_le (h a e).2 (Nat.le_trans h5 hw.size)⟩
  refine ⟨rs ++ [r], ho rs h1, hb, by simp [h2], fun i s xs hs hx => ?_, fun i j s t hij hs ht a b ha hb' => ?_, Nat.le_refl _⟩
  · rcases Nat.lt_or_ge i rs.length with hi | hi
    · rw [List.getElem?_append_left hi] at hs
      rw [List.getElem?_append_left (by omega)] at hx
      obtain ⟨o2, k2⟩ := h3 i s xs hs hx
      refine ⟨own_grown o2 hw fun g e hc => ?_, up k2⟩
      cases A with
      | none => cases hc
      | some a =>
        have e1 : a.block = g := by injection hc
        exact own_ne o2 h1 (by decide) e (by rw [← e1]; rfl)
    · rw [List.getElem?_append_right hi] at hs
      rw [List.getElem?_append_right (by omega)] at hx
      have hi0 : i - rs.length = 0 := by have := (List.getElem?_eq_some_iff.1 hs).1; simp at this; omega
      rw [hi0] at hs
      rw [← h2, hi0] at hx
      simp at hs hx
      subst hs hx
      exact ⟨hr, fun a e => ⟨Nat.le_trans hbl (hrb a e).1, (hrb a e).2⟩⟩
  · have hi : i < rs.length := by have := (List.getElem?_eq_some_iff.1 ht).1; simp at this; omega
    rw [List.getElem?_append_left hi] at hs
    rcases Nat.lt_or_ge j rs.length with hj | hj
    · rw [List.getElem?_append_left hj] at ht
      exact h4 i j s t hij hs ht a b ha hb'
    · rw [List.getElem?_append_right hj] at ht
      have hj0 : j - rs.length = 0 := by have := (List.getElem?_eq_some_iff.1 ht).1; simp at this; omega
      rw [hj0] at ht
      simp at ht
      subst ht
      have hx : xss[i]? = some (xss[i]'(by omega)) := List.getElem?_eq_getElem (by omega)
      have := ((h3 i s _ hs hx).2 a ha).2
      have := (hrb b hb').1
      omega
end
theorem own_emptySS (w : World) : OwnsSS (w.alloc (.cells #[] 22)) w.heap.size (w.heap.size + 1) (some ⟨w.heap.size, 0, none⟩) 0 0 [] :=
  ⟨[], own_empty w 22 1, fun a e => by cases e; simp, rfl, fun i r xs h => by simp at h, fun i j r s _ h => by simp at h, by simp⟩

/-! ### The helpers -/
set_option maxHeartbeats 1000000 in
theorem eqIntSS_b {A B : Option Addr} {n m c d : Nat} {xss : List (List Int)} {w : World} (ha : ReadsSS w A n xss) (hb : ReadsSS w B m xss) (ht : totSS xss ≤ 1048576) (hn : n ≤ 1048576) :
    Calls Try.prog 29 #[.slice A n c, .slice B m d] w fun e w' => e = .returned (.bool true) ∧ Below w.heap.size w w' := by
  have e1 := ha.len
  have e2 := hb.len
  obtain rfl : n = m := by omega
  clear e1 e2
  go_enter Try.func29, Try.ntmps29
  go_wp2
  go_loopw [5] (fun i wr => ∃ k : Nat, k ≤ n ∧ i = .int .i64 k ∧ Below w.heap.size w wr) (fun i _ => n - (intOf i).toNat)
  case atStart => exact ⟨0, Nat.zero_le _, rfl, Below.refl _ _⟩
  case round =>
    obtain ⟨k, hk, rfl, hbel⟩ := hrel
    by_cases hlt : k < n
    · obtain ⟨b, o, r, xs, rfl, hbB, hx, c0, hr0, hr1⟩ := (ha.below hbel).row hlt
      obtain ⟨b', o', s, ys, rfl, hbB', hy, d0, hs0, hs1⟩ := (hb.below hbel).row hlt
      obtain rfl : xs = ys := by rw [hx] at hy; exact Option.some.inj hy
      have hle := totSS_row hx
      have hr2 : r.n ≤ 1048576 := by omega
      have l1 : (k : Int) < (n : Int) := by omega
      clear hx hy hr1 hs1 hle
      go_wp2
      go_still_tail 8, (by kernel_rfl)
      go_wp2_with (go_at_call 13; refine (eqIntS_b (hr0.drewN _) (hs0.drewN _) hr2).mono ?_; rintro e w' ⟨rfl, hb1⟩)
      go_roundw
      case rel => exact ⟨k + 1, by omega, by go_num, (below_drewN hbel _).trans (hb1.mono hbel.size)⟩
      case measure => simp [intOf]; omega
    · go_wp2
      go_ret
      exact ⟨rfl, hbel⟩

theorem below_trans_grown {a w w' : World} {B lo hi n c : Nat} {A : Option Addr} (h : Below B a w) (hg : w.grownBy w' (Value.slice A n c).ownBlock) (hA : Blk A B hi) (hB : lo ≤ a.heap.size) (hl : B = lo) : Below B a w' := by
  refine h.grown hg (by have := h.size; omega) ?_
  intro k hk
  cases A with
  | none => cases hk
  | some a' =>
    have a1 := hA a' rfl
    have e : a'.block = k := by injection hk
    omega
theorem set_mid {α : Type} (a : List α) (x y : α) (b : List α) {m : Nat} (hm : a.length = m) : (a ++ x :: b).set m y = a ++ [y] ++ b := by
  rw [set_append_cons _ _ _ _ hm.symm]; simp

set_option maxHeartbeats 1000000 in
theorem markIntSS_any {base top : Nat} {A : Option Addr} {n c : Nat} {xss : List (List Int)} {k : Int} {w : World} (ho : OwnsSS w base top A n c xss) (ht : totSS xss ≤ 1048576) (hn : n ≤ 1048576) (hk0 : 0 ≤ k) (hk : k ≤ 1048576) (hbw : base ≤ w.heap.size) :
    Calls Try.prog 33 #[.slice A n c, .int .i64 k] w fun e w' => e = .returned (.int .i64 (k + (totSS xss : Int))) ∧ OwnsSS w' base top A n c (markSS k xss) ∧ Below base w w' := by
  have hlen := ho.len
  go_enter Try.func33, Try.ntmps33
  go_wp2
  go_loopw [1, 5] (fun q i wr => ∃ j : Nat, j ≤ n ∧ i = .int .i64 j ∧ q = .int .i64 (k + (totSS (xss.take j) : Int)) ∧ OwnsSS wr base top A n c (markSS k (xss.take j) ++ xss.drop j) ∧ Below base w wr) (fun _ i _ => n - (intOf i).toNat)
  case atStart => exact ⟨0, Nat.zero_le _, rfl, by simp [totSS], by simpa [markSS] using ho, Below.refl _ _⟩
  case round =>
    obtain ⟨j, hj, rfl, rfl, hown, hbel⟩ := hrel
    by_cases hlt : j < n
    · have hx : xss[j]? = some (xss[j]'(by omega)) := List.getElem?_eq_getElem (by omega)
      generalize xss[j]'(by omega) = xs at hx
      have hml : (markSS k (xss.take j)).length = j := by rw [markSS_len, take_len hx]
      obtain ⟨b, r, ys, rfl, hy, c0, orow, brow, htu⟩ := hown.turn hlt
      obtain rfl : ys = xs := by
        rw [List.getElem?_append_right (by omega), hml, Nat.sub_self, drop_cons hx] at hy
        simpa using hy.symm
      have hle := totSS_row hx
      have hrn := own_len orow
      have hr2 : r.n ≤ 1048576 := by omega
      have HS := Lib.hid (totSS_take hx)
      have HM := Lib.hid (markSS_snoc k hx)
      have HD := Lib.hid (drop_cons hx)
      have HT := Lib.hid htu
      have HL := Lib.hid hml
      have HN := Lib.hid hrn
      have hkk : k + (totSS (xss.take j) : Int) ≤ 1099511627776 := by omega
      clear hx hy htu hml hrn hown
      generalize hT : totSS (xss.take j) = T at *
      have HTT := Lib.hid hT
      clear hT
      go_wp2_with (go_at_call 16; refine (markIntS_any base _ _ _ _ _ _ orow hr2 (by omega) hkk).mono ?_; rintro e w' ⟨rfl, ho2, hg2⟩)
      go_roundw
      case rel => exact ⟨j + 1, by omega, by go_num, by rw [HS.out, ← HN.out]; exact congrArg (Value.int .i64) (by omega), by
        have := HT.out _ _ hg2 ho2
        rw [HD.out, set_mid _ _ _ _ HL.out] at this
        rw [HM.out, ← HN.out]
        exact this, below_trans_grown hbel hg2 brow hbw rfl⟩
      case measure => simp [intOf]; omega
    · obtain rfl : j = n := by omega
      have HD := Lib.hid (show xss.take j = xss by rw [List.take_of_length_le (by omega)])
      have HE := Lib.hid (show xss.drop j = [] by rw [List.drop_eq_nil_of_le (by omega)])
      rw [HD.out, HE.out, List.append_nil] at hown
      rw [HD.out]
      go_wp2
      go_ret
      exact ⟨rfl, hown, hbel⟩

set_option maxHeartbeats 1000000 in
theorem heldIntSS_any {A : Option Addr} {n c : Nat} {xss : List (List Int)} {k : Int} {w : World} (hr : ReadsSS w A n (markSS k xss)) (ht : totSS xss ≤ 1048576) (hn : n ≤ 1048576) (hk0 : 0 ≤ k) (hk : k ≤ 1048576) :
    Calls Try.prog 34 #[.slice A n c, .int .i64 k] w fun e w' => e = .returned (.int .i64 (k + (totSS xss : Int))) ∧ w = w' := by
  have hlen := hr.len
  rw [markSS_len] at hlen
  go_enter Try.func34, Try.ntmps34
  go_wp2
  go_loop [1, 5] (fun q i => ∃ j : Nat, j ≤ n ∧ i = .int .i64 j ∧ q = .int .i64 (k + (totSS (xss.take j) : Int))) (fun _ i => n - (intOf i).toNat)
  case atStart => exact ⟨0, Nat.zero_le _, rfl, by simp [totSS]⟩
  case round =>
    obtain ⟨j, hj, rfl, rfl⟩ := hrel
    by_cases hlt : j < n
    · have hx : xss[j]? = some (xss[j]'(by omega)) := List.getElem?_eq_getElem (by omega)
      generalize xss[j]'(by omega) = xs at hx
      obtain ⟨b, o, r, ys, rfl, hbB, hy, c0, hr0, hr1⟩ := hr.row hlt
      rw [markSS_get k hx] at hy
      obtain rfl := Option.some.inj hy
      rw [upFrom_length] at hr1
      have hle := totSS_row hx
      have hr2 : r.n ≤ 1048576 := by omega
      have hkk : k + (totSS (xss.take j) : Int) ≤ 1099511627776 := by omega
      have HS := Lib.hid (totSS_take hx)
      rw [← hr1] at hr0 HS hle
      clear hx hy hr1
      generalize totSS (xss.take j) = T at *
      go_wp2_with (go_at_call 17; refine (heldIntS_any _ _ _ _ _ hr0 hr2 (by omega) hkk).mono ?_; rintro e w' ⟨rfl, rfl⟩)
      go_round
      case rel => exact ⟨j + 1, by omega, by go_num, by rw [HS.out]; exact congrArg (Value.int .i64) (by omega)⟩
      case measure => simp [intOf]; omega
    · obtain rfl : j = n := by omega
      rw [show xss.take j = xss by rw [List.take_of_length_le (by omega)]]
      go_wp2
      go_ret
      exact ⟨rfl, rfl⟩
end Go.Proofs.Ytcdachkaalkjlaa
