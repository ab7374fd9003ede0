/- Contract of the reference's SwapAt; no condition beyond the slice's length. -/
import Derived.Test.YtkpgfmkmbgapmaaSwap
namespace Go.Proofs.Ytkpgfmkmbgapmaa
open Go.ChangeShapes Go.WideShapes Go.ChangeAt Go.RowKit Go.Deep Go.Joins
set_option maxRecDepth 100000

set_option maxHeartbeats 4000000 in
theorem spec_SwapAt {A : Option Addr} {m c : Nat} {xs : List Int} {k : Int} {w : World} (hr : Reads w 1 A m (ints xs)) (hm : m ≤ 1048576) :
    Calls Try.prog 44 #[.slice A m c, .int .i64 k] w fun e w' => ∃ A' n' c', e = .returned (.tuple #[.slice A' n' c', .bool (swapOk xs k)]) ∧ w'.ownsRow w.heap.size 3 1 (.slice A' n' c') n' (ints (swapAt xs k)) ∧ n' ≤ 1048576 ∧ Below w.heap.size w w' := by
  have hl := hr.len
  have ho := own_empty w 3 1
  have hr0 := (hr.below (by go_grown : Below w.heap.size w (w.alloc (.cells #[] 3))))
  obtain ⟨i0, hi, hz0, hz1, hz2⟩ := info_parts info_ii
  generalize hok : orderOk xs = ok
  have E := Lib.hid hok
  clear hok
  cases ok with
  | false =>
    have S := Lib.hid (swapOk_no (k := k) E.out)
    go_enter Try.func44, Try.ntmps44
    go_wp2_with (first | (go_at_call 50; refine (spec_OrderOk (hr.below hb1) hm).mono ?_; rintro e w2 ⟨rfl, hb2⟩; have hown2 := own_below hown1 hb2; have hbel := hb1.trans (hb2.mono hb1.size); rw [E.out]) | (at_builtin; refine wp_appn rfl _ _ 34 rfl w.heap.size 3 i0 (.int .i64 0) 1 8 Try.underlying34 hi hz0 hz1 hz2 rfl (by decide) rfl ho rfl hr0 (ints_one xs) (by unfold maxLen; omega) (by omega) (by simp) ?_; intro A1 c1 w1 hown1 hg1; have hb1 := bel_apart (by go_grown : Below w.heap.size w (w.alloc (.cells #[] 3))) hg1 (own_blk ho) (by simp); rw [Nat.zero_add, List.nil_append] at hown1))
    go_returns
    exact ⟨A1, m, c1, by rw [S.out]; first | rfl | simp, by rw [swapAt_no S.out]; exact hown2, hm, hbel⟩
  | true =>
    by_cases hin : 0 ≤ k ∧ k ≤ (m : Int) - 2
    · obtain ⟨i1, i2⟩ := hin
      have S := Lib.hid (swapOk_yes E.out i1 (by omega))
      obtain ⟨j, rfl⟩ := Int.eq_ofNat_of_zero_le i1
      obtain ⟨b, o, x, rfl, hbB, hx, c0⟩ := hr.int (show j < m by omega)
      obtain ⟨b', o', y, e', hbB', hy, c1'⟩ := hr.int (show j + 1 < m by omega)
      injection e' with e'
      injection e' with e1 e2
      subst e1 e2
      have HX := Lib.hid hx
      have HY := Lib.hid hy
      have l1 : (j : Int) < (m : Int) := by omega
      have l2 : (j : Int) + 1 < (m : Int) := by omega
      have jm : j + 1 < m := by omega
      clear hx hy i1
      go_enter Try.func44, Try.ntmps44
      go_wp2_with (first | (go_at_call 50; refine (spec_OrderOk (hr.below hb1) hm).mono ?_; rintro e w2 ⟨rfl, hb2⟩; have hown2 := own_below hown1 hb2; have hbel := hb1.trans (hb2.mono hb1.size); rw [E.out]; obtain ⟨g, rfl, hbg, hgl⟩ := own_form hown2 (by omega); have p0 := own_int hown2 HX.out; have p1 := own_int hown2 HY.out; have f0 := own_frozen hown2 (show j < xs.length by omega); have f1 := own_frozen hown2 (show j + 1 < xs.length by omega); have d0 := hbel.cell (p := ⟨b, o + j, none⟩) hbB; have d1 := hbel.cell (p := ⟨b, o + (j + 1), none⟩) hbB; rw [c0] at d0; rw [c1'] at d1; have HS := Lib.hid (own_swap hown2 HX.out HY.out)) | (at_builtin; refine wp_appn rfl _ _ 34 rfl w.heap.size 3 i0 (.int .i64 0) 1 8 Try.underlying34 hi hz0 hz1 hz2 rfl (by decide) rfl ho rfl hr0 (ints_one xs) (by unfold maxLen; omega) (by omega) (by simp) ?_; intro A1 c1 w1 hown1 hg1; have hb1 := bel_apart (by go_grown : Below w.heap.size w (w.alloc (.cells #[] 3))) hg1 (own_blk ho) (by simp); rw [Nat.zero_add, List.nil_append] at hown1) | (go_at_call 39; refine (l01In_t _ _ _ _ (by omega) i2).mono ?_; rintro e w3 ⟨rfl, rfl⟩))
      go_returns
      exact ⟨some ⟨g, 0, none⟩, m, _, by rw [S.out]; first | rfl | simp, by rw [swapAt_yes S.out]; exact HS.out, hm, (hbel.setCell (p := ⟨g, j, none⟩) hbg _).setCell (p := ⟨g, j + 1, none⟩) hbg _⟩
    · have i1 : k < 0 ∨ (m : Int) - 2 < k := by omega
      have S := Lib.hid (swapOk_out (xs := xs) (k := k) (by omega))
      clear hin
      go_enter Try.func44, Try.ntmps44
      go_wp2_with (first | (go_at_call 50; refine (spec_OrderOk (hr.below hb1) hm).mono ?_; rintro e w2 ⟨rfl, hb2⟩; have hown2 := own_below hown1 hb2; have hbel := hb1.trans (hb2.mono hb1.size); rw [E.out]) | (at_builtin; refine wp_appn rfl _ _ 34 rfl w.heap.size 3 i0 (.int .i64 0) 1 8 Try.underlying34 hi hz0 hz1 hz2 rfl (by decide) rfl ho rfl hr0 (ints_one xs) (by unfold maxLen; omega) (by omega) (by simp) ?_; intro A1 c1 w1 hown1 hg1; have hb1 := bel_apart (by go_grown : Below w.heap.size w (w.alloc (.cells #[] 3))) hg1 (own_blk ho) (by simp); rw [Nat.zero_add, List.nil_append] at hown1) | (go_at_call 39; refine (l01In_f _ _ _ _ i1).mono ?_; rintro e w3 ⟨rfl, rfl⟩))
      go_returns
      exact ⟨A1, m, c1, by rw [S.out]; first | rfl | simp, by rw [swapAt_no S.out]; exact hown2, hm, hbel⟩
end Go.Proofs.Ytkpgfmkmbgapmaa
