/- Contracts of copyOf and of SwapAt of both sides; no condition beyond the slice's length. -/
import Derived.Test.YtcdachkaalkjlaaOrdS
namespace Go.Proofs.Ytcdachkaalkjlaa
open Go.ChangeShapes Go.WideShapes Go.ChangeAt Go.RowKit Go.Deep Go.Joins
set_option maxRecDepth 100000

def swapN (xs : List Int) (j : Nat) : List Int :=
  match xs[j]?, xs[j + 1]? with
  | some a, some b => (xs.set j b).set (j + 1) a
  | _, _ => xs
theorem swapN_at {xs : List Int} {j : Nat} {a b : Int} (ha : xs[j]? = some a) (hb : xs[j + 1]? = some b) : swapN xs j = (xs.set j b).set (j + 1) a := by simp [swapN, ha, hb]
theorem swapN_len (xs : List Int) (j : Nat) : (swapN xs j).length = xs.length := by unfold swapN; split <;> simp
def swapOk (xs : List Int) (k : Int) : Bool := orderOk xs && decide (0 ≤ k ∧ k ≤ (xs.length : Int) - 2)
def swapAt (xs : List Int) (k : Int) : List Int := if swapOk xs k then swapN xs k.toNat else xs
theorem swapOk_no {xs : List Int} {k : Int} (h : orderOk xs = false) : swapOk xs k = false := by simp [swapOk, h]
theorem swapOk_out {xs : List Int} {k : Int} (h : k < 0 ∨ (xs.length : Int) - 2 < k) : swapOk xs k = false := by
  have : decide (0 ≤ k ∧ k ≤ (xs.length : Int) - 2) = false := decide_eq_false (by omega)
  simp [swapOk, this]
theorem swapOk_yes {xs : List Int} {k : Int} (h : orderOk xs = true) (h1 : 0 ≤ k) (h2 : k ≤ (xs.length : Int) - 2) : swapOk xs k = true := by
  have : decide (0 ≤ k ∧ k ≤ (xs.length : Int) - 2) = true := decide_eq_true ⟨h1, h2⟩
  simp [swapOk, h, this]
theorem swapAt_no {xs : List Int} {k : Int} (h : swapOk xs k = false) : swapAt xs k = xs := by simp [swapAt, h]
theorem swapAt_yes {xs : List Int} {k : Int} (h : swapOk xs k = true) : swapAt xs k = swapN xs k.toNat := by simp [swapAt, h]

theorem info_ii : (Try.prog.info? 3).map (fun i => (i.zero, i.size, i.bytes)) = some (some (.int .i64 0), 1, 8) := by kernel_rfl

theorem impl_copyOf {A : Option Addr} {m c : Nat} {xs : List Int} {w : World} (hr : Reads w 1 A m (ints xs)) (hm : m ≤ 1048576) :
    Calls Try.prog 54 #[.slice A m c] w fun e w' => ∃ A' n' c', e = .returned (.slice A' n' c') ∧ w'.ownsRow w.heap.size 3 1 (.slice A' n' c') n' (ints xs) ∧ n' ≤ 1048576 ∧ Below w.heap.size w w' := by
  have ho := own_empty w 3 1
  have hr0 := (hr.below (by go_grown : Below w.heap.size w (w.alloc (.cells #[] 3))))
  obtain ⟨i0, hi, hz0, hz1, hz2⟩ := info_parts info_ii
  go_enter Try.func54, Try.ntmps54
  go_wp2_with (at_builtin; refine wp_appn rfl _ _ 22 rfl w.heap.size 3 i0 (.int .i64 0) 1 8 Try.underlying22 hi hz0 hz1 hz2 rfl (by decide) rfl ho rfl hr0 (ints_one xs) (by unfold maxLen; omega) (by omega) (by simp) ?_; intro A2 c2 w2 hown2 hg2)
  go_ret
  exact ⟨A2, _, c2, rfl, by simpa using hown2, by omega, bel_apart (by go_grown : Below w.heap.size w (w.alloc (.cells #[] 3))) hg2 (own_blk ho) (by simp)⟩

theorem own_swap {w : World} {base n c g j : Nat} {e : TypeId} {xs : List Int} {a b : Int} (h : w.ownsRow base e 1 (.slice (some ⟨g, 0, none⟩) n c) n (ints xs)) (ha : xs[j]? = some a) (hb : xs[j + 1]? = some b) :
    ((w.setCell ⟨g, j, none⟩ (.int .i64 b)).setCell ⟨g, j + 1, none⟩ (.int .i64 a)).ownsRow base e 1 (.slice (some ⟨g, 0, none⟩) n c) n (ints (swapN xs j)) := by
  rw [swapN_at ha hb]
  have hl1 := (List.getElem?_eq_some_iff.1 ha).1
  have hl2 := (List.getElem?_eq_some_iff.1 hb).1
  have s1 : xs = xs.take j ++ a :: b :: xs.drop (j + 2) := by
    rw [← drop_cons hb, ← drop_cons ha, List.take_append_drop]
  have t1 : (xs.take j).length = j := by simp; omega
  have e2 : (xs.set j b).set (j + 1) a = xs.take j ++ b :: a :: xs.drop (j + 2) := by
    conv => lhs; rw [s1]
    rw [set_append_cons _ _ _ _ t1.symm, List.append_cons, set_append_cons _ _ _ _ (by simp [t1]), ← List.append_cons]
  rw [e2]
  rw [s1] at h
  have i1 : ints (xs.take j ++ a :: b :: xs.drop (j + 2)) = ints (xs.take j) ++ .int .i64 a :: (.int .i64 b :: ints (xs.drop (j + 2))) := by simp [ints]
  have i2 : ints (xs.take j ++ b :: a :: xs.drop (j + 2)) = (ints (xs.take j) ++ [.int .i64 b]) ++ .int .i64 a :: ints (xs.drop (j + 2)) := by simp [ints]
  rw [i1] at h
  have h1 := own_set h (m := j) (by rw [ints_length, t1]) (.int .i64 b)
  rw [List.append_cons] at h1
  have h2 := own_set h1 (m := j + 1) (by simp [ints_length, t1]) (.int .i64 a)
  rw [i2]
  exact h2
end Go.Proofs.Ytcdachkaalkjlaa
