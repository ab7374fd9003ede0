/- Contracts of copyOf and of SwapAt of both sides; no condition beyond the slice's length. -/
import Derived.Test.YtbdiknfgfnibnaaOrdS
namespace Go.Proofs.Ytbdiknfgfnibnaa
open Go.ChangeShapes Go.WideShapes Go.ChangeAt Go.RowKit Go.Deep Go.Joins
set_option maxRecDepth 100000

def swapN (xs : List Int) (j : Nat) : List Int :=
  match xs[j]?, xs[j + 1]? with
  | some a, some b => (xs.set j b).set (j + 1) a
  | _, _ => xs
theorem swapN_at {xs : List Int} {j : Nat} {a b : Int} (ha : xs[j]? = some a) (hb : xs[j + 1]? = some b) : swapN xs j = (xs.set j b).set (j + 1) a := by simp [swapN, ha, hb]
theorem swapN_len (xs : List Int) (j : Nat) : (swapN xs j).length = xs.length := by unfold swapN; split <;> simp
def swapOk (xs : List Int) (k : Int) : Bool := orderOk xs && decide (0 ≤ k ∧ k ≤ (xs.length : Int) - 2)
def swapAt (xs : List Int) (k : Int) : List Int := if swapOk xs k then swapN xs k.toNat else xs
theorem swapOk_no {xs : List Int} {k : Int} (h : orderOk xs = false) : swapOk xs k = false := by simp [swapOk, h]
theorem swapOk_out {xs : List Int} {k : Int} (h : k < 0 ∨ (xs.length : Int) - 2 < k) : swapOk xs k = false := by
  have : decide (0 ≤ k ∧ k ≤ (xs.length : Int) - 2) = false := decide_eq_false (by omega)
  simp [swapOk, this]
theorem swapOk_yes {xs : List Int} {k : Int} (h : orderOk xs = true) (h1 : 0 ≤ k) (h2 : k ≤ (xs.length : Int) - 2) : swapOk xs k = true := by
  have : decide (0 ≤ k ∧ k ≤ (xs.length : Int) - 2) = true := decide_eq_true ⟨h1, h2⟩
  simp [swapOk, h, this]
theorem swapAt_no {xs : List Int} {k : Int} (h : swapOk xs k = false) : swapAt xs k = xs := by simp [swapAt, h]
theorem swapAt_yes {xs : List Int} {k : Int} (h : swapOk xs k = true) : swapAt xs k = swapN xs k.toNat := by simp [swapAt, h]

theorem info_ii : (Try.prog.info? 3).map (fun i => (i.zero, i.size, i.bytes)) = some (some (.int .i64 0), 1, 8) := by kernel_rfl

theorem impl_copyOf {A : Option Addr} {m c : Nat} {xs : List Int} {w : World} (hr : Reads w 1 A m (ints xs)) (hm : m ≤ 1048576) :
    Calls Try.prog 35 #[.slice A m c] w fun e w' => ∃ A' n' c', e = .returned (.slice A' n' c') ∧ w'.ownsRow w.heap.size 3 1 (.slice A' n' c') n' (ints xs) ∧ n' ≤ 1048576 ∧ Below w.heap.size w w' := by
  have ho := own_empty w 3 1
  have hr0 := (hr.below (by go_grown : Below w.heap.size w (w.alloc (.cells #[] 3))))
  obtain ⟨i0, hi, hz0, hz1, hz2⟩ := info_parts info_ii
  go_enter Try.func35, Try.ntmps35
  go_wp2_with (at_builtin; refine wp_appn rfl _ _ 22 rfl w.heap.size 3 i0 (.int .i64 0) 1 8 Try.underlying22 hi hz0 hz1 hz2 rfl (by decide) rfl ho rfl hr0 (ints_one xs) (by unfold maxLen; omega) (by omega) (by simp) ?_; intro A2 c2 w2 hown2 hg2)
  go_ret
  exact ⟨A2, _, c2, rfl, by simpa using hown2, by omega, bel_apart (by go_grown : Below w.heap.size w (w.alloc (.cells #[] 3))) hg2 (own_blk ho) (by simp)⟩

theorem own_swap {w : World} {base n c g j : Nat} {e : TypeId} {xs : List Int} {a b : Int} (h : w.ownsRow base e 1 (.slice (some ⟨g, 0, none⟩) n c) n (ints xs)) (ha : xs[j]? = some a) (hb : xs[j + 1]? = some b) :
    ((w.setCell ⟨g, j, none⟩ (.int .i64 b)).setCell ⟨g, j + 1, none⟩ (.int .i64 a)).ownsRow base e 1 (.slice (some ⟨g, 0, none⟩) n c) n (ints (swapN xs j)) := by
  rw [swapN_at ha hb]
  have hl1 := (List.getElem?_eq_some_iff.1 ha).1
  have hl2 := (List.getElem?_eq_some_iff.1 hb).1
  have s1 : xs = xs.take j ++ a :: b :: xs.drop (j + 2) := by
    rw [← drop_cons hb, ← drop_cons ha, List.take_append_drop]
  have t1 : (xs.take j).length = j := by simp; omega
  have e2 : (xs.set j b).set (j + 1) a = xs.take j ++ b :: a :: xs.drop (j + 2) := by
    conv => lhs; rw [s1]
    rw [set_append_cons _ _ _ _ t1.symm, List.append_cons, set_append_cons _ _ _ _ (by simp [t1]), ← List.append_cons]
  rw [e2]
  rw [s1] at h
  have i1 : ints (xs.take j ++ a :: b :: xs.drop (j + 2)) = ints (xs.take j) ++ .int .i64 a :: (.int .i64 b :: ints (xs.drop (j + 2))) := by simp [ints]
  have i2 : ints (xs.take j ++ b :: a :: xs.drop (j + 2)) = (ints (xs.take j) ++ [.int .i64 b]) ++ .int .i64 a :: ints (xs.drop (j + 2)) := by simp [ints]
  rw [i1] at h
  have h1 := own_set h (m := j) (by rw [ints_length, t1]) (.int .i64 b)
  rw [List.append_cons] at h1
  have h2 := own_set h1 (m := j + 1) (by simp [ints_length, t1]) (.int .i64 a)
  rw [i2]
  exact h2

set_option maxHeartbeats 4000000 in
theorem impl_SwapAt {A : Option Addr} {m c : Nat} {xs : List Int} {k : Int} {w : World} (hr : Reads w 1 A m (ints xs)) (hm : m ≤ 1048576) :
    Calls Try.prog 19 #[.slice A m c, .int .i64 k] w fun e w' => ∃ A' n' c', e = .returned (.tuple #[.slice A' n' c', .bool (swapOk xs k)]) ∧ w'.ownsRow w.heap.size 3 1 (.slice A' n' c') n' (ints (swapAt xs k)) ∧ n' ≤ 1048576 ∧ Below w.heap.size w w' := by
  have hl := hr.len
  generalize hok : orderOk xs = ok
  have E := Lib.hid hok
  clear hok
  go_enter Try.func19, Try.ntmps19
  go_wp2_with fail
  refine (impl_copyOf hr hm).mono ?_
  rintro e w1 ⟨A1, n1, c1, rfl, hown1, hn1, hb1⟩
  have hl1 : m = n1 := by have := own_len hown1; omega
  subst hl1
  go_wp2_with fail
  refine (impl_OrderOk (hr.below hb1) hm).mono ?_
  rintro e w2 ⟨rfl, hb2⟩
  rw [E.out]
  have hown2 := own_below hown1 hb2
  have hbel := hb1.trans (hb2.mono hb1.size)
  clear hb1 hb2 hown1
  cases ok with
  | false =>
    have S := Lib.hid (swapOk_no (k := k) E.out)
    go_wp2
    go_returns
    exact ⟨A1, m, c1, by rw [S.out]; first | rfl | simp, by rw [swapAt_no S.out]; exact hown2, hn1, hbel⟩
  | true =>
    by_cases hin : 0 ≤ k ∧ k ≤ (m : Int) - 2
    · obtain ⟨i1, i2⟩ := hin
      have S := Lib.hid (swapOk_yes E.out i1 (by omega))
      obtain ⟨j, rfl⟩ := Int.eq_ofNat_of_zero_le i1
      have hj2 : j + 1 < xs.length := by omega
      have ha : xs[j]? = some (xs[j]'(by omega)) := List.getElem?_eq_getElem (by omega)
      have hb : xs[j + 1]? = some (xs[j + 1]'hj2) := List.getElem?_eq_getElem hj2
      generalize xs[j]'(by omega) = a at ha
      generalize xs[j + 1]'hj2 = b at hb
      obtain ⟨g, rfl, hbg, hgl⟩ := own_form hown2 (by omega)
      have hjn : j + 1 < m := by omega
      have c0 := own_int hown2 ha
      have c1' := own_int hown2 hb
      have f0 := own_frozen hown2 (show j < xs.length by omega)
      have f1 := own_frozen hown2 hj2
      have HS := Lib.hid (own_swap hown2 ha hb)
      have l1 : (j : Int) < (m : Int) := by omega
      have l2 : (j : Int) + 1 < (m : Int) := by omega
      clear ha hb hown2 i1
      go_wp2_with (go_at_call 31; refine (within_t _ _ _ _ (by omega) i2).mono ?_; rintro e w3 ⟨rfl, rfl⟩)
      go_region
      go_wp2
      go_returns
      exact ⟨some ⟨g, 0, none⟩, m, c1, by rw [S.out]; first | rfl | simp, by rw [swapAt_yes S.out]; exact own_drewN HS.out 1, hn1, below_drewN ((hbel.setCell (p := ⟨g, j, none⟩) hbg _).setCell (p := ⟨g, j + 1, none⟩) hbg _) 1⟩
    · have i1 : k < 0 ∨ (m : Int) - 2 < k := by omega
      have S := Lib.hid (swapOk_out (xs := xs) (k := k) (by omega))
      clear hin
      go_wp2_with (go_at_call 31; refine (within_f _ _ _ _ i1).mono ?_; rintro e w3 ⟨rfl, rfl⟩)
      go_returns
      exact ⟨A1, m, c1, by rw [S.out]; first | rfl | simp, by rw [swapAt_no S.out]; exact hown2, hn1, hbel⟩
end Go.Proofs.Ytbdiknfgfnibnaa
