/- Contracts of HangPose of both sides; no condition beyond the slices' lengths. -/
import Derived.Test.YtcdachkaalkjlaaPulls
import Derived.Test.YtcdachkaalkjlaaDistOf
namespace Go.Proofs.Ytcdachkaalkjlaa
open Go.ChangeShapes Go.WideShapes Go.ChangeAt Go.RowKit Go.Deep Go.Joins
set_option maxRecDepth 100000

theorem own_far {w : World} {base n c g o : Nat} {e : TypeId} {size : Nat} {A : Option Addr} {xs : List Value} {lo hi : Nat} (h : w.ownsRow base e size (.slice A n c) n xs) (hA : Blk A lo hi) (hg : g < lo) (u : Value) :
    (w.setCell ⟨g, o, none⟩ u).ownsRow base e size (.slice A n c) n xs :=
  own_grown h (grown_setCell (World.grownBy.refl w (some g)) (.inl rfl) u) (fun g' hA' hc => by
    subst hA'
    have := (hA _ rfl).1
    have e : g = g' := by injection hc
    simp only at this
    omega)
def hangTo (N : Nat) (ls : List Lb) (ps : List Int) (j : Nat) : Nat → Int
  | 0 => -2000
  | i + 1 => match ps[i]? with
    | some p => if 0 ≤ p then max (hangTo N ls ps j i) (p - dist N ls i j) else hangTo N ls ps j i
    | none => hangTo N ls ps j i
theorem hangTo_yes {N : Nat} {ls : List Lb} {ps : List Int} {j i : Nat} {p : Int} (hp : ps[i]? = some p) (h0 : 0 ≤ p) : hangTo N ls ps j (i + 1) = max (hangTo N ls ps j i) (p - dist N ls i j) := by simp [hangTo, hp, h0]
theorem hangTo_no {N : Nat} {ls : List Lb} {ps : List Int} {j i : Nat} {p : Int} (hp : ps[i]? = some p) (h0 : p < 0) : hangTo N ls ps j (i + 1) = hangTo N ls ps j i := by
  have : ¬ 0 ≤ p := by omega
  simp [hangTo, hp, this]
theorem hangTo_bd {N : Nat} {ls : List Lb} {ps : List Int} {j : Nat} (t : Tree N ls) (hj : j < N) (hin : inAll ps (-1) 500 = true) : ∀ i, i ≤ N → -2000 ≤ hangTo N ls ps j i ∧ hangTo N ls ps j i ≤ 500 := by
  intro i
  induction i with
  | zero => intro _; simp [hangTo]
  | succ i ih =>
    intro hi
    have h1 := ih (by omega)
    cases hp : ps[i]? with
    | none => simpa [hangTo, hp] using h1
    | some p =>
      have h2 := inAll_at hin hp
      have h3 := t.all (s := i) (by omega) j hj
      by_cases h0 : 0 ≤ p
      · rw [hangTo_yes hp h0]; omega
      · rw [hangTo_no hp (by omega)]; exact h1
theorem hangTo_first {N : Nat} {ls : List Lb} {ps : List Int} {j : Nat} : ∀ i, someS (ps.take i) = false → hangTo N ls ps j i = -2000 := by
  intro i
  induction i with
  | zero => intro _; rfl
  | succ i ih =>
    intro h
    cases hp : ps[i]? with
    | none =>
      have e : ps.take (i + 1) = ps.take i := by
        have := List.getElem?_eq_none_iff.1 hp
        rw [List.take_of_length_le (by omega), List.take_of_length_le (by omega)]
      rw [e] at h
      simpa [hangTo, hp] using ih h
    | some p =>
      rw [take_snoc hp, someS_snoc, Bool.or_eq_false_iff] at h
      have h0 : p < 0 := by have := of_decide_eq_false h.2; omega
      rw [hangTo_no hp h0]
      exact ih h.1
def hangF (N : Nat) (ls : List Lb) (ps : List Int) (j : Nat) : Int := hangTo N ls ps j N
def hangPose (n : Int) (ls : List Lb) (ps : List Int) : List Int := if pullsOk n ls ps then tab (hangF n.toNat ls ps) n.toNat else []
theorem hangPose_yes {N : Nat} {ls : List Lb} {ps : List Int} (h : pullsOk (N : Int) ls ps = true) : hangPose N ls ps = tab (hangF N ls ps) N := by simp [hangPose, h]
theorem hangPose_no {n : Int} {ls : List Lb} {ps : List Int} (h : pullsOk n ls ps = false) : hangPose n ls ps = [] := by simp [hangPose, h]
/-- Where the search for the best stands. -/
structure HangSt (N : Nat) (ls : List Lb) (ps : List Int) (j i : Nat) (has : Bool) (best : Int) : Prop where
  has_ : has = someS (ps.take i)
  val : has = true → best = hangTo N ls ps j i
  lo : -1100 ≤ best
  hi : best ≤ 500
theorem HangSt.start (N : Nat) (ls : List Lb) (ps : List Int) (j : Nat) : HangSt N ls ps j 0 false 0 := ⟨rfl, nofun, by omega, by omega⟩
theorem HangSt.skip {N : Nat} {ls : List Lb} {ps : List Int} {j i : Nat} {has : Bool} {best p : Int} (s : HangSt N ls ps j i has best) (hp : ps[i]? = some p) (h0 : p < 0) : HangSt N ls ps j (i + 1) has best := by
  have : decide (0 ≤ p) = false := decide_eq_false (by omega)
  exact ⟨by rw [take_snoc hp, someS_snoc, this, Bool.or_false]; exact s.has_, fun h => by rw [hangTo_no hp h0]; exact s.val h, s.lo, s.hi⟩
theorem HangSt.first {N : Nat} {ls : List Lb} {ps : List Int} {j i : Nat} {best p d : Int} (s : HangSt N ls ps j i false best) (hp : ps[i]? = some p) (h0 : 0 ≤ p) (h5 : p ≤ 500) (hd : d = dist N ls i j) (d0 : 0 ≤ d) (d1 : d ≤ 1100) : HangSt N ls ps j (i + 1) true (p - d) := by
  have : decide (0 ≤ p) = true := decide_eq_true h0
  have hf := hangTo_first (N := N) (ls := ls) (j := j) i s.has_.symm
  exact ⟨by rw [take_snoc hp, someS_snoc, this, Bool.or_true], fun _ => by rw [hangTo_yes hp h0, hf, ← hd]; omega, by omega, by omega⟩
theorem HangSt.next {N : Nat} {ls : List Lb} {ps : List Int} {j i : Nat} {best p d : Int} (s : HangSt N ls ps j i true best) (hp : ps[i]? = some p) (h0 : 0 ≤ p) (h5 : p ≤ 500) (hd : d = dist N ls i j) (d0 : 0 ≤ d) (d1 : d ≤ 1100) : HangSt N ls ps j (i + 1) true (max best (p - d)) := by
  have hd0 : decide (0 ≤ p) = true := decide_eq_true h0
  have hv := s.val rfl
  have s1 := s.hi
  have s2 := s.lo
  exact ⟨by rw [take_snoc hp, someS_snoc, hd0, Bool.or_true], fun _ => by rw [hangTo_yes hp h0, ← hv, ← hd], by omega, by omega⟩
theorem own_put {w : World} {base n c g j : Nat} {e : TypeId} {f : Nat → Int} (h : w.ownsRow base e 1 (.slice (some ⟨g, 0, none⟩) n c) n (ints (tab f n))) (hj : j < n) (v : Int) {f' : Nat → Int} (hf : ∀ i, i < n → f' i = upd f j v i) :
    (w.setCell ⟨g, j, none⟩ (.int .i64 v)).ownsRow base e 1 (.slice (some ⟨g, 0, none⟩) n c) n (ints (tab f' n)) := by
  have hx : (tab f n)[j]? = some (f j) := tab_get f n j hj
  have s1 : tab f n = (tab f n).take j ++ f j :: (tab f n).drop (j + 1) := by rw [← drop_cons hx, List.take_append_drop]
  have t1 : ((tab f n).take j).length = j := take_len hx
  have e2 : tab f' n = (tab f n).take j ++ v :: (tab f n).drop (j + 1) := by
    rw [tab_congr hf, ← tab_set]
    conv => lhs; rw [s1]
    rw [set_append_cons _ _ _ _ t1.symm]
  rw [e2]
  rw [s1] at h
  have i1 : ∀ y : Int, ints ((tab f n).take j ++ y :: (tab f n).drop (j + 1)) = ints ((tab f n).take j) ++ .int .i64 y :: ints ((tab f n).drop (j + 1)) := by intro y; simp [ints]
  rw [i1] at h ⊢
  exact own_set h (by rw [ints_length, t1]) _
end Go.Proofs.Ytcdachkaalkjlaa
