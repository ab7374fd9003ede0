/- Contracts of AfterSwaps of both sides; no condition beyond the slices' lengths. -/
import Derived.Test.YtbdiknfgfnibnaaSwapS
namespace Go.Proofs.Ytbdiknfgfnibnaa
open Go.ChangeShapes Go.WideShapes Go.ChangeAt Go.RowKit Go.Deep Go.Joins
set_option maxRecDepth 100000

def afterRun : List Int → List Int → Option (List Int)
  | xs, [] => some xs
  | xs, s :: r => if swapOk xs s then afterRun (swapAt xs s) r else none
theorem afterRun_cons (xs : List Int) (s : Int) (r : List Int) : afterRun xs (s :: r) = if swapOk xs s then afterRun (swapAt xs s) r else none := rfl
theorem afterRun_nil (xs : List Int) : afterRun xs [] = some xs := rfl
def afterOk (xs sw : List Int) : Bool := (orderOk xs && decide (sw.length ≤ 60)) && (afterRun xs sw).isSome
def afterL (xs sw : List Int) : List Int := if afterOk xs sw then (afterRun xs sw).getD xs else xs
theorem afterOk_no1 {xs sw : List Int} (h : orderOk xs = false) : afterOk xs sw = false := by simp [afterOk, h]
theorem afterOk_no2 {xs sw : List Int} (h : 60 < sw.length) : afterOk xs sw = false := by
  have : decide (sw.length ≤ 60) = false := decide_eq_false (by omega)
  simp [afterOk, this]
theorem afterOk_no3 {xs sw : List Int} (h : afterRun xs sw = none) : afterOk xs sw = false := by simp [afterOk, h]
theorem afterOk_yes {xs sw now : List Int} (h1 : orderOk xs = true) (h2 : sw.length ≤ 60) (h3 : afterRun xs sw = some now) : afterOk xs sw = true := by simp [afterOk, h1, h2, h3]
theorem afterL_no {xs sw : List Int} (h : afterOk xs sw = false) : afterL xs sw = xs := by simp [afterL, h]
theorem afterL_yes {xs sw now : List Int} (h : afterOk xs sw = true) (h3 : afterRun xs sw = some now) : afterL xs sw = now := by simp [afterL, h, h3]

set_option maxHeartbeats 4000000 in
theorem impl_AfterSwaps {A B : Option Addr} {m n c d : Nat} {xs sw : List Int} {w : World} (hr : Reads w 1 A m (ints xs)) (hm : m ≤ 1048576) (hs : Reads w 1 B n (ints sw)) (hn : n ≤ 1048576) :
    Calls Try.prog 23 #[.slice A m c, .slice B n d] w fun e w' => ∃ A' n' c', e = .returned (.tuple #[.slice A' n' c', .bool (afterOk xs sw)]) ∧ w'.ownsRow w.heap.size 3 1 (.slice A' n' c') n' (ints (afterL xs sw)) ∧ n' ≤ 1048576 ∧ Below w.heap.size w w' := by
  have hl := hr.len
  have hls := hs.len
  generalize hok : orderOk xs = ok
  have E := Lib.hid hok
  clear hok
  cases ok with
  | false =>
    have S := Lib.hid (afterOk_no1 (sw := sw) E.out)
    go_enter Try.func23, Try.ntmps23
    go_wp2_with fail
    refine (impl_OrderOk hr hm).mono ?_
    rintro e w1 ⟨rfl, hb1⟩
    rw [E.out]
    go_wp2_with fail
    refine (impl_copyOf (hr.below hb1) hm).mono ?_
    rintro e w2 ⟨A2, n2, c2, rfl, hown2, hn2, hb2⟩
    go_wp2
    go_returns
    exact ⟨A2, n2, c2, by rw [S.out]; first | rfl | simp, by rw [afterL_no S.out]; exact ownsRow_le hown2 hb1.size, hn2, hb1.trans (hb2.mono hb1.size)⟩
  | true =>
    by_cases h60 : 60 < n
    · have S := Lib.hid (afterOk_no2 (xs := xs) (sw := sw) (by omega))
      go_enter Try.func23, Try.ntmps23
      go_wp2_with fail
      refine (impl_OrderOk hr hm).mono ?_
      rintro e w1 ⟨rfl, hb1⟩
      rw [E.out]
      go_wp2_with fail
      refine (impl_copyOf (hr.below hb1) hm).mono ?_
      rintro e w2 ⟨A2, n2, c2, rfl, hown2, hn2, hb2⟩
      go_wp2
      go_returns
      exact ⟨A2, n2, c2, by rw [S.out]; first | rfl | simp, by rw [afterL_no S.out]; exact ownsRow_le hown2 hb1.size, hn2, hb1.trans (hb2.mono hb1.size)⟩
    · go_enter Try.func23, Try.ntmps23
      go_wp2_with fail
      refine (impl_OrderOk hr hm).mono ?_
      rintro e w1 ⟨rfl, hb1⟩
      rw [E.out]
      go_wp2_with fail
      refine (impl_copyOf (hr.below hb1) hm).mono ?_
      rintro e w2 ⟨A2, n2, c2, rfl, hown2, hn2, hb2⟩
      replace hown2 := ownsRow_le hown2 hb1.size
      have hB := hb1.trans (hb2.mono hb1.size)
      clear hb1 hb2
      go_wp2
      go_loopw [6, 25] (fun v i wr => ∃ (k : Nat) (A' : Option Addr) (n' c' : Nat) (now : List Int), k ≤ n ∧ i = .int .i64 k ∧ v = .slice A' n' c' ∧ n' ≤ 1048576 ∧ wr.ownsRow w.heap.size 3 1 (.slice A' n' c') n' (ints now) ∧ afterRun xs sw = afterRun now (sw.drop k) ∧ Below w.heap.size w wr) (fun _ i _ => n - (intOf i).toNat)
      case atStart => exact ⟨0, A2, n2, c2, xs, by omega, rfl, rfl, hn2, hown2, rfl, hB⟩
      case round =>
        clear hown2 hn2 hB
        obtain ⟨k, A', n', c', now, hk, rfl, rfl, hn', hown, hrun, hbel⟩ := hrel
        have HR := Lib.hid hrun
        clear hrun
        by_cases hlt : k < n
        · obtain ⟨b, o, s, rfl, hbB, hx, c0⟩ := (hs.below hbel).int hlt
          have HX := Lib.hid (drop_cons hx)
          clear hx
          have HC := Lib.hid (afterRun_cons now s (sw.drop (k + 1)))
          generalize hso : swapOk now s = so
          have SO := Lib.hid hso
          clear hso
          go_wp2_with fail
          refine (impl_SwapAt (Reads.of_own hown) hn').mono ?_
          rintro e w3 ⟨A3, n3, c3, rfl, hown3, hn3, hb3⟩
          rw [SO.out]
          replace hown3 := ownsRow_le hown3 hbel.size
          have hbel3 := hbel.trans (hb3.mono hbel.size)
          clear hb3 hown hbel c0
          cases so with
          | false =>
            have S := Lib.hid (afterOk_no3 (xs := xs) (sw := sw) (by rw [HR.out, HX.out, HC.out, SO.out]; rfl))
            go_wp2_with fail
            refine (impl_copyOf (hr.below hbel3) hm).mono ?_
            rintro e w4 ⟨A4, n4, c4, rfl, hown4, hn4, hb4⟩
            go_wp2
            go_returns
            exact ⟨A4, n4, c4, by rw [S.out]; first | rfl | simp, by rw [afterL_no S.out]; exact ownsRow_le hown4 hbel3.size, hn4, hbel3.trans (hb4.mono hbel3.size)⟩
          | true =>
            go_wp2
            go_roundw
            case rel => exact ⟨k + 1, A3, n3, c3, _, by omega, by go_num, rfl, hn3, hown3, by rw [HR.out, HX.out, HC.out, SO.out]; rfl, hbel3⟩
            case measure => simp [intOf]; omega
        · obtain rfl : k = n := by omega
          have HD : Hid (sw.drop k = []) := Lib.hid (List.drop_eq_nil_of_le (by omega))
          have HN : Hid (afterRun xs sw = some now) := Lib.hid (by rw [HR.out, HD.out, afterRun_nil])
          have S := Lib.hid (afterOk_yes E.out (show sw.length ≤ 60 by omega) HN.out)
          go_wp2
          go_returns
          exact ⟨A', n', c', by rw [S.out]; first | rfl | simp, by rw [afterL_yes S.out HN.out]; exact hown, hn', hbel⟩

set_option maxHeartbeats 4000000 in
theorem spec_AfterSwaps {A B : Option Addr} {m n c d : Nat} {xs sw : List Int} {w : World} (hr : Reads w 1 A m (ints xs)) (hm : m ≤ 1048576) (hs : Reads w 1 B n (ints sw)) (hn : n ≤ 1048576) :
    Calls Try.prog 22 #[.slice A m c, .slice B n d] w fun e w' => ∃ A' n' c', e = .returned (.tuple #[.slice A' n' c', .bool (afterOk xs sw)]) ∧ w'.ownsRow w.heap.size 3 1 (.slice A' n' c') n' (ints (afterL xs sw)) ∧ n' ≤ 1048576 ∧ Below w.heap.size w w' := by
  have hl := hr.len
  have hls := hs.len
  have ho := own_empty w 3 1
  have hr0 := (hr.below (by go_grown : Below w.heap.size w (w.alloc (.cells #[] 3))))
  obtain ⟨i0, hi, hz0, hz1, hz2⟩ := info_parts info_ii
  go_enter Try.func22, Try.ntmps22
  go_wp2_with (first | (have _t := hown1; clear _t; at_builtin; refine wp_appn rfl _ _ 22 rfl w1.heap.size 3 i0 (.int .i64 0) 1 8 Try.underlying22 hi hz0 hz1 hz2 rfl (by decide) rfl ho1 rfl hr1 (ints_one xs) (by unfold maxLen; omega) (by omega) (by simp) ?_; intro A2 c2 w2 hown2 hg2; have hb2 := bel_apart (by go_grown : Below w1.heap.size w1 (w1.alloc (.cells #[] 3))) hg2 (own_blk ho1) (by simp); rw [Nat.zero_add, List.nil_append] at hown2) | (at_builtin; refine wp_appn rfl _ _ 22 rfl w.heap.size 3 i0 (.int .i64 0) 1 8 Try.underlying22 hi hz0 hz1 hz2 rfl (by decide) rfl ho rfl hr0 (ints_one xs) (by unfold maxLen; omega) (by omega) (by simp) ?_; intro A1 c1 w1 hown1 hg1; have hb1 := bel_apart (by go_grown : Below w.heap.size w (w.alloc (.cells #[] 3))) hg1 (own_blk ho) (by simp); rw [Nat.zero_add, List.nil_append] at hown1; have ho1 := own_empty w1 3 1; have hr1 := ((hr.below hb1).below (by go_grown : Below w1.heap.size w1 (w1.alloc (.cells #[] 3))))))
  have hB := hb1.trans (hb2.mono hb1.size)
  have hsame := own_below hown1 hb2
  replace hown2 := ownsRow_le hown2 hb1.size
  have b1 := own_blk hown1
  clear ho hr0 ho1 hr1 hown1 hg1 hg2 hb1
  go_loopw [7, 8] (fun v i wr => ∃ (k : Nat) (A' : Option Addr) (n' c' : Nat) (now : List Int), k ≤ n ∧ i = .int .i64 k ∧ v = .slice A' n' c' ∧ n' ≤ 1048576 ∧ (0 < k → n ≤ 60 ∧ orderOk xs = true) ∧ (k = 0 → now = xs) ∧ wr.ownsRow w.heap.size 3 1 (.slice A' n' c') n' (ints now) ∧ afterRun xs sw = afterRun now (sw.drop k) ∧ wr.ownsRow w.heap.size 3 1 (.slice A1 m c1) m (ints xs) ∧ Below w.heap.size w wr) (fun _ i _ => n - (intOf i).toNat)
  case atStart => exact ⟨0, A2, m, c2, xs, by omega, rfl, rfl, hm, by omega, fun _ => rfl, hown2, rfl, hsame, hB⟩
  case round =>
    clear hown2 hB hsame hb2
    obtain ⟨k, A', n', c', now, hk, rfl, rfl, hn', h60, hz, hown, hrun, hsame, hbel⟩ := hrel
    have HR := Lib.hid hrun
    have H60 := Lib.hid h60
    have HZ := Lib.hid hz
    clear hrun h60 hz
    by_cases hlt : k < n
    · obtain ⟨b, o, s, rfl, hbB, hx, c0⟩ := (hs.below hbel).int hlt
      have HX := Lib.hid (drop_cons hx)
      clear hx
      have HC := Lib.hid (afterRun_cons now s (sw.drop (k + 1)))
      generalize hso : swapOk now s = so
      have SO := Lib.hid hso
      clear hso
      go_wp2_with fail
      refine (spec_SwapAt (Reads.of_own hown) hn').mono ?_
      rintro e w3 ⟨A3, n3, c3, rfl, hown3, hn3, hb3⟩
      rw [SO.out]
      replace hown3 := ownsRow_le hown3 hbel.size
      have hsame3 := own_below hsame hb3
      have hbel3 := hbel.trans (hb3.mono hbel.size)
      clear hb3 hown hbel c0 hsame
      cases so with
      | false =>
        have S := Lib.hid (afterOk_no3 (xs := xs) (sw := sw) (by rw [HR.out, HX.out, HC.out, SO.out]; rfl))
        go_wp2
        go_returns
        exact ⟨A1, m, c1, by rw [S.out]; first | rfl | simp, by rw [afterL_no S.out]; exact hsame3, hm, hbel3⟩
      | true =>
        by_cases h60 : 60 < n
        · have S := Lib.hid (afterOk_no2 (xs := xs) (sw := sw) (by omega))
          go_wp2
          go_returns
          exact ⟨A1, m, c1, by rw [S.out]; first | rfl | simp, by rw [afterL_no S.out]; exact hsame3, hm, hbel3⟩
        · have HO : Hid (orderOk xs = true) := Lib.hid (by
            rcases Nat.eq_zero_or_pos k with hk0 | hk0
            · have h1 := SO.out
              rw [HZ.out hk0] at h1
              by_cases hc : orderOk xs = true
              · exact hc
              · rw [swapOk_no (by simpa using hc)] at h1
                cases h1
            · exact (H60.out hk0).2)
          go_wp2
          go_roundw
          case rel => exact ⟨k + 1, A3, n3, c3, _, by omega, by go_num, rfl, hn3, fun _ => ⟨by omega, HO.out⟩, by omega, hown3, by rw [HR.out, HX.out, HC.out, SO.out]; rfl, hsame3, hbel3⟩
          case measure => simp [intOf]; omega
    · obtain rfl : k = n := by omega
      have HD : Hid (sw.drop k = []) := Lib.hid (List.drop_eq_nil_of_le (by omega))
      have HN : Hid (afterRun xs sw = some now) := Lib.hid (by rw [HR.out, HD.out, afterRun_nil])
      generalize hok : orderOk xs = ok
      have E := Lib.hid hok
      clear hok
      cases ok with
      | false =>
        have hk0 : Hid (k = 0) := Lib.hid (by
          rcases Nat.eq_zero_or_pos k with h0 | h0
          · exact h0
          · have := (H60.out h0).2
            rw [E.out] at this
            cases this)
        have S := Lib.hid (afterOk_no1 (sw := sw) E.out)
        have HX := Lib.hid (HZ.out hk0.out)
        go_wp2_with fail
        refine (spec_OrderOk (hr.below hbel) hm).mono ?_
        rintro e w4 ⟨rfl, hb4⟩
        rw [E.out]
        have hown4 := own_below hown hb4
        have hbel4 := hbel.trans (hb4.mono hbel.size)
        go_wp2
        go_returns
        exact ⟨A', n', c', by rw [S.out]; first | rfl | simp, by rw [afterL_no S.out, ← HX.out]; exact hown4, hn', hbel4⟩
      | true =>
        have S := Lib.hid (afterOk_yes E.out (show sw.length ≤ 60 by
          rcases Nat.eq_zero_or_pos k with h0 | h0
          · omega
          · have := (H60.out h0).1
            omega) HN.out)
        go_wp2_with fail
        refine (spec_OrderOk (hr.below hbel) hm).mono ?_
        rintro e w4 ⟨rfl, hb4⟩
        rw [E.out]
        have hown4 := own_below hown hb4
        have hbel4 := hbel.trans (hb4.mono hbel.size)
        go_wp2
        go_returns
        exact ⟨A', n', c', by rw [S.out]; first | rfl | simp, by rw [afterL_yes S.out HN.out]; exact hown4, hn', hbel4⟩
end Go.Proofs.Ytbdiknfgfnibnaa
