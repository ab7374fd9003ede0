/- Contracts of upTo, follow and OrderAfter of both sides; no condition beyond the slice's length. -/
import Derived.Test.YtkpgfmkmbgapmaaInvLaw
import Derived.Test.YtkpgfmkmbgapmaaSwapS
import Derived.Test.YtkpgfmkmbgapmaaCrossOk
namespace Go.Proofs.Ytkpgfmkmbgapmaa
open Go.ChangeShapes Go.WideShapes Go.ChangeAt Go.RowKit Go.Deep Go.Joins
set_option maxRecDepth 100000

def startL (N : Nat) : List Int := (List.range N).map fun i : Nat => (i : Int)
theorem startL_len (N : Nat) : (startL N).length = N := by simp [startL]
theorem startL_snoc (k : Nat) : startL (k + 1) = startL k ++ [(k : Int)] := by simp [startL, List.range_succ]
theorem startL_get {N i : Nat} (h : i < N) : (startL N)[i]? = some (i : Int) := by simp [startL, List.getElem?_map, List.getElem?_range h]
theorem startL_ok {N : Nat} (h1 : 1 ≤ N) (h7 : N ≤ 7) : orderOk (startL N) = true := by
  refine decide_eq_true ⟨by rw [startL_len]; exact h1, by rw [startL_len]; exact h7, fun x hx => ?_, ?_⟩
  · obtain ⟨i, hi, rfl⟩ := List.mem_map.1 hx
    rw [startL_len]
    have := List.mem_range.1 hi
    omega
  · refine (List.pairwise_map.2 (List.nodup_range.imp fun h e => h (by omega)))
def orderTo (N : Nat) (ls : List Cr) (k : Nat) : List Int := (ls.take k).foldl (fun now x => swapN now x.at_.toNat) (startL N)
theorem orderTo_step {N : Nat} {ls : List Cr} {k : Nat} {x : Cr} (hx : ls[k]? = some x) : orderTo N ls (k + 1) = swapN (orderTo N ls k) x.at_.toNat := by simp [orderTo, take_snoc hx]
theorem fold_perm (ms : List Cr) : ∀ now : List Int, (ms.foldl (fun now x => swapN now x.at_.toNat) now).Perm now := by
  induction ms with
  | nil => intro now; exact List.Perm.refl _
  | cons x ms ih => intro now; exact (ih _).trans (swapN_perm now _)
theorem orderTo_perm (N : Nat) (ls : List Cr) (k : Nat) : (orderTo N ls k).Perm (startL N) := fold_perm _ _
theorem orderTo_len (N : Nat) (ls : List Cr) (k : Nat) : (orderTo N ls k).length = N := (orderTo_perm N ls k).length_eq.trans (startL_len N)
theorem orderTo_ok {N : Nat} (h1 : 1 ≤ N) (h7 : N ≤ 7) (ls : List Cr) (k : Nat) : orderOk (orderTo N ls k) = true := (orderOk_perm (orderTo_perm N ls k)).trans (startL_ok h1 h7)
def orderAfter (n : Int) (ls : List Cr) : List Int := if crossesOk n ls then orderTo n.toNat ls ls.length else []
theorem orderAfter_yes {N : Nat} {ls : List Cr} (h : crossesOk (N : Int) ls = true) : orderAfter N ls = orderTo N ls ls.length := by simp [orderAfter, h]
theorem orderAfter_no {n : Int} {ls : List Cr} (h : crossesOk n ls = false) : orderAfter n ls = [] := by simp [orderAfter, h]
theorem swapAt_at {xs : List Int} {j : Nat} (ho : orderOk xs = true) (hj : j + 1 < xs.length) : swapAt xs (j : Int) = swapN xs j := by
  rw [swapAt_yes (swapOk_yes ho (by omega) (by omega)), Int.toNat_natCast]
theorem info_oi : (Try.prog.info? 3).map (fun i => (i.zero, i.size, i.bytes)) = some (some (.int .i64 0), 1, 8) := by kernel_rfl
theorem ints_snoc1 (xs : List Int) (x : Int) : ints (xs ++ [x]) = ints xs ++ [.int .i64 x] := by simp [ints]

set_option maxHeartbeats 4000000 in
theorem impl_upTo {N : Nat} {w : World} (hN : N ≤ 1048576) :
    Calls Try.prog 51 #[.int .i64 N] w fun e w' => ∃ A' c', e = .returned (.slice A' N c') ∧ w'.ownsRow w.heap.size 3 1 (.slice A' N c') N (ints (startL N)) ∧ Below w.heap.size w w' := by
  have ho := own_empty w 3 1
  obtain ⟨i0, hi, hz0, hz1, hz2⟩ := info_parts info_oi
  go_enter Try.func51, Try.ntmps51
  go_wp2
  go_loopw [3, 7] (fun v i wr => ∃ (k : Nat) (A' : Option Addr) (c' : Nat), k ≤ N ∧ i = .int .i64 k ∧ v = .slice A' k c' ∧ wr.ownsRow w.heap.size 3 1 (.slice A' k c') k (ints (startL k)) ∧ Below w.heap.size w wr) (fun _ i _ => N - (intOf i).toNat)
  case atStart => exact ⟨0, _, 0, by omega, rfl, rfl, ho, by go_grown⟩
  case round =>
    obtain ⟨k, A', c', hk, rfl, rfl, hown, hbel⟩ := hrel
    clear ho
    by_cases hlt : k < N
    · have bA := own_blk hown
      have zw := hbel.size
      go_wp2_with (at_builtin; refine wp_app rfl _ _ 34 rfl w.heap.size 3 i0 (.int .i64 0) 1 8 Try.underlying34 hi hz0 hz1 hz2 rfl (by decide) rfl hown [.int .i64 (k : Int)] rfl (by simp [Value.oneCell']) rfl (by simp) (by unfold maxLen; omega) (by omega) (by omega) ?_; intro A2 c2 w2 hown2 hg2)
      go_roundw
      case rel => exact ⟨k + 1, A2, c2, by omega, by go_num, rfl, by rw [startL_snoc, ints_snoc1]; exact hown2, bel_apart hbel hg2 bA (Nat.le_refl _)⟩
      case measure => simp [intOf]; omega
    · obtain rfl : k = N := by omega
      go_wp2
      go_ret
      exact ⟨A', c', rfl, hown, hbel⟩

set_option maxHeartbeats 4000000 in
theorem spec_l08Start {N : Nat} {w : World} (hN : N ≤ 1048576) :
    Calls Try.prog 43 #[.int .i64 N] w fun e w' => ∃ A' c', e = .returned (.slice A' N c') ∧ w'.ownsRow w.heap.size 3 1 (.slice A' N c') N (ints (startL N)) ∧ Below w.heap.size w w' := by
  have ho := own_empty w 3 1
  obtain ⟨i0, hi, hz0, hz1, hz2⟩ := info_parts info_oi
  go_enter Try.func43, Try.ntmps43
  go_wp2
  go_loopw [3, 4] (fun v i wr => ∃ (k : Nat) (A' : Option Addr) (c' : Nat), k ≤ N ∧ i = .int .i64 k ∧ v = .slice A' k c' ∧ wr.ownsRow w.heap.size 3 1 (.slice A' k c') k (ints (startL k)) ∧ Below w.heap.size w wr) (fun _ i _ => N - (intOf i).toNat)
  case atStart => exact ⟨0, _, 0, by omega, rfl, rfl, ho, by go_grown⟩
  case round =>
    obtain ⟨k, A', c', hk, rfl, rfl, hown, hbel⟩ := hrel
    clear ho
    by_cases hlt : k < N
    · have bA := own_blk hown
      have zw := hbel.size
      go_wp2_with (at_builtin; refine wp_app rfl _ _ 34 rfl w.heap.size 3 i0 (.int .i64 0) 1 8 Try.underlying34 hi hz0 hz1 hz2 rfl (by decide) rfl hown [.int .i64 (k : Int)] rfl (by simp [Value.oneCell']) rfl (by simp) (by unfold maxLen; omega) (by omega) (by omega) ?_; intro A2 c2 w2 hown2 hg2)
      go_roundw
      case rel => exact ⟨k + 1, A2, c2, by omega, by go_num, rfl, by rw [startL_snoc, ints_snoc1]; exact hown2, bel_apart hbel hg2 bA (Nat.le_refl _)⟩
      case measure => simp [intOf]; omega
    · obtain rfl : k = N := by omega
      go_wp2
      go_ret
      exact ⟨A', c', rfl, hown, hbel⟩

theorem impl_OrderAfter_1 {a l r : Int} {f : Bool} {w : World} :
    Calls Try.prog 46 #[.agg #[.int .i64 a, .bool f], .int .i64 l, .int .i64 r] w fun e w' => e = .returned (.tuple #[]) ∧ Below w.heap.size w w' := by
  go_enter Try.func46, Try.ntmps46
  go_wp2
  go_end0
  exact ⟨rfl, by go_grown⟩

set_option maxHeartbeats 4000000 in
theorem impl_follow_OrderAfter {N : Nat} {A : Option Addr} {m c : Nat} {ls : List Cr} {w : World} (hr : Reads w 2 A m (crs ls)) (hm : m ≤ 1048576) (hc : crossesOk (N : Int) ls = true) :
    Calls Try.prog 45 #[.int .i64 N, .slice A m c, .func (.func 46) #[] #[]] w fun e w' => ∃ A' c', e = .returned (.slice A' N c') ∧ w'.ownsRow w.heap.size 3 1 (.slice A' N c') N (ints (orderTo N ls m)) ∧ Below w.heap.size w w' := by
  have hf := crossFacts hc
  have h1 := hf.n1
  have h7 := hf.n7
  have AT := Lib.hid hf.at_
  clear hc hf
  go_enter Try.func45, Try.ntmps45
  go_wp2_with fail
  refine (impl_upTo (by omega)).mono ?_
  rintro e w1 ⟨A1, c1, rfl, hown1, hb1⟩
  obtain ⟨g, rfl, hbg, hgl⟩ := own_form hown1 (by omega)
  go_wp2
  go_loopw [14] (fun i wr => ∃ k : Nat, k ≤ m ∧ i = .int .i64 k ∧ wr.ownsRow w.heap.size 3 1 (.slice (some ⟨g, 0, none⟩) N c1) N (ints (orderTo N ls k)) ∧ Below w.heap.size w wr) (fun i _ => m - (intOf i).toNat)
  case atStart => exact ⟨0, by omega, rfl, hown1, hb1⟩
  case round =>
    obtain ⟨k, hk, rfl, hown, hbel⟩ := hrel
    clear hown1 hb1
    by_cases hlt : k < m
    · obtain ⟨b, o, x, rfl, hbB, hx, c0, c1'⟩ := (hr.below hbel).cr hlt
      obtain ⟨a0, a1⟩ := AT.out x (List.mem_of_getElem? hx)
      have HS := Lib.hid (orderTo_step (N := N) hx)
      have hlen := orderTo_len N ls k
      clear hx
      obtain ⟨xa, xf⟩ := x
      simp only at a0 a1 c0 c1' HS
      obtain ⟨j, rfl⟩ := Int.eq_ofNat_of_zero_le a0
      have hj1 : j + 1 < N := by omega
      have ha : (orderTo N ls k)[j]? = some ((orderTo N ls k)[j]'(by omega)) := List.getElem?_eq_getElem (by omega)
      have hb : (orderTo N ls k)[j + 1]? = some ((orderTo N ls k)[j + 1]'(by omega)) := List.getElem?_eq_getElem (by omega)
      generalize (orderTo N ls k)[j]'(by omega) = a at ha
      generalize (orderTo N ls k)[j + 1]'(by omega) = z at hb
      have fr0 : j < (orderTo N ls k).length := by omega
      have fr1 : j + 1 < (orderTo N ls k).length := by omega
      clear hlen
      have hbx := Row.new wr 49 [.int .i64 (j : Int), .bool xf]
      have hown2 := own_below hown (by go_grown : Below wr.heap.size wr (wr.alloc (.cells #[.int .i64 (j : Int), .bool xf] 49)))
      have p0 := own_int hown2 ha
      have p1 := own_int hown2 hb
      have l1 : (j : Int) < (N : Int) := by omega
      have l2 : (j : Int) + 1 < (N : Int) := by omega
      have hj0 : j < N := by omega
      have HO := Lib.hid hown2
      have HA := Lib.hid ha
      have HZ := Lib.hid hb
      have HX := Lib.hid hbx
      have q0 := hbx.cell_ (i := 0) rfl
      have q1 := hbx.cell_ (i := 1) rfl
      clear hown2 ha hb hbx
      have hAl : Below w.heap.size w (wr.alloc (.cells #[.int .i64 (j : Int), .bool xf] 49)) := hbel.alloc hbel.size _
      have zbx : wr.heap.size < (wr.alloc (.cells #[.int .i64 (j : Int), .bool xf] 49)).heap.size := by simp
      have hgw : g < wr.heap.size := (own_blk hown _ rfl).2
      have ne1 : g ≠ wr.heap.size := by omega
      have ne2 : wr.heap.size ≠ g := by omega
      clear hbel hown
      go_wp2
      generalize wr.alloc (.cells #[.int .i64 (j : Int), .bool xf] 49) = W0 at *
      have W1 : IntKind.i64.wrap ((j : Int) + 1) = (j : Int) + 1 := IntWalk.i64_in _ (by omega)
      have W2 : ((j : Int) + 1).toNat = j + 1 := by omega
      have W3 : 0 ≤ (j : Int) + 1 := by omega
      go_still_tail 13, (by kernel_rfl)
      clear p0 p1 q0 q1 W1 W2 W3
      go_wp2_with (go_at_call 46; refine (impl_OrderAfter_1).mono ?_; rintro e w3 ⟨rfl, hb3⟩)
      have hown3 := own_below (own_drewN HO.out _) hb3
      have hbx3 := (HX.out.drewN _).below hb3
      have hbel3 : Below w.heap.size w w3 := (below_drewN hAl _).trans (hb3.mono hAl.size)
      have p0 := own_int hown3 HA.out
      have p1 := own_int hown3 HZ.out
      have f0 := own_frozen hown3 fr0
      have f1 := own_frozen hown3 fr1
      have q0 := hbx3.cell_ (i := 0) rfl
      have HW := Lib.hid (own_swap hown3 HA.out HZ.out)
      clear hown3 hbx3 hb3 hAl
      go_region
      go_wp2
      go_roundw
      case rel => exact ⟨k + 1, by omega, by go_num, by rw [HS.out]; exact own_drewN HW.out 1, below_drewN ((hbel3.setCell (p := ⟨g, j, none⟩) hbg _).setCell (p := ⟨g, j + 1, none⟩) hbg _) 1⟩
      case measure => simp [intOf]; omega
    · obtain rfl : k = m := by omega
      go_wp2
      go_ret
      exact ⟨_, c1, rfl, hown, hbel⟩
set_option maxHeartbeats 4000000 in
theorem impl_OrderAfter {n : Int} {A : Option Addr} {m c : Nat} {ls : List Cr} {w : World} (hr : Reads w 2 A m (crs ls)) (hm : m ≤ 1048576) :
    Calls Try.prog 25 #[.int .i64 n, .slice A m c] w fun e w' => ∃ A' n' c', e = .returned (.slice A' n' c') ∧ w'.ownsRow w.heap.size 3 1 (.slice A' n' c') n' (ints (orderAfter n ls)) ∧ n' ≤ 1048576 ∧ Below w.heap.size w w' := by
  have hl := hr.crlen
  cases hb : crossesOk n ls with
  | false =>
    have E := Lib.hid hb
    have S := Lib.hid (orderAfter_no hb)
    clear hb
    go_enter Try.func25, Try.ntmps25
    go_wp2_with fail
    refine (impl_CrossesOk hr hm).mono ?_
    rintro e w1 ⟨rfl, hb1⟩
    rw [E.out]
    go_wp2
    go_ret
    exact ⟨none, 0, 0, rfl, by rw [S.out]; exact World.ownsRow_nil _ _ _ _, by omega, hb1⟩
  | true =>
    have hf := crossFacts hb
    have h1 := hf.n1
    have h7 := hf.n7
    obtain ⟨N, rfl⟩ := Int.eq_ofNat_of_zero_le (show 0 ≤ n by omega)
    have E := Lib.hid hb
    have S := Lib.hid (orderAfter_yes hb)
    clear hb hf
    go_enter Try.func25, Try.ntmps25
    go_wp2_with fail
    refine (impl_CrossesOk hr hm).mono ?_
    rintro e w1 ⟨rfl, hb1⟩
    rw [E.out]
    go_wp2_with fail
    refine (impl_follow_OrderAfter (hr.below hb1) hm E.out).mono ?_
    rintro e w2 ⟨A2, c2, rfl, hown2, hb2⟩
    go_wp2
    go_ret
    exact ⟨A2, N, c2, rfl, by rw [S.out, hl]; exact ownsRow_le hown2 hb1.size, by omega, hb1.trans (hb2.mono hb1.size)⟩

set_option maxHeartbeats 4000000 in
theorem spec_OrderAfter {n : Int} {A : Option Addr} {m c : Nat} {ls : List Cr} {w : World} (hr : Reads w 2 A m (crs ls)) (hm : m ≤ 1048576) :
    Calls Try.prog 24 #[.int .i64 n, .slice A m c] w fun e w' => ∃ A' n' c', e = .returned (.slice A' n' c') ∧ w'.ownsRow w.heap.size 3 1 (.slice A' n' c') n' (ints (orderAfter n ls)) ∧ n' ≤ 1048576 ∧ Below w.heap.size w w' := by
  have hl := hr.crlen
  cases hb : crossesOk n ls with
  | false =>
    have E := Lib.hid hb
    have S := Lib.hid (orderAfter_no hb)
    clear hb
    go_enter Try.func24, Try.ntmps24
    go_wp2_with fail
    refine (spec_CrossesOk hr hm).mono ?_
    rintro e w1 ⟨rfl, hb1⟩
    rw [E.out]
    go_wp2
    go_ret
    exact ⟨_, 0, 0, rfl, by rw [S.out]; exact ownsRow_le (own_empty w1 3 1) hb1.size, by omega, hb1.trans ((by go_grown : Below w1.heap.size w1 _).mono hb1.size)⟩
  | true =>
    have hf := crossFacts hb
    have h1 := hf.n1
    have h7 := hf.n7
    have AT := Lib.hid hf.at_
    obtain ⟨N, rfl⟩ := Int.eq_ofNat_of_zero_le (show 0 ≤ n by omega)
    have E := Lib.hid hb
    have S := Lib.hid (orderAfter_yes hb)
    clear hb hf
    go_enter Try.func24, Try.ntmps24
    go_wp2_with fail
    refine (spec_CrossesOk hr hm).mono ?_
    rintro e w1 ⟨rfl, hb1⟩
    rw [E.out]
    go_wp2_with fail
    refine (spec_l08Start (by omega)).mono ?_
    rintro e w2 ⟨A2, c2, rfl, hown2, hb2⟩
    have hB := hb1.trans (hb2.mono hb1.size)
    replace hown2 := ownsRow_le hown2 hb1.size
    clear hb1 hb2
    go_wp2
    go_loopw [5, 6] (fun v i wr => ∃ (k : Nat) (A' : Option Addr) (c' : Nat), k ≤ m ∧ i = .int .i64 k ∧ v = .slice A' N c' ∧ wr.ownsRow w.heap.size 3 1 (.slice A' N c') N (ints (orderTo N ls k)) ∧ Below w.heap.size w wr) (fun _ i _ => m - (intOf i).toNat)
    case atStart => exact ⟨0, A2, c2, by omega, rfl, rfl, hown2, hB⟩
    case round =>
      clear hown2 hB
      obtain ⟨k, A', c', hk, rfl, rfl, hown, hbel⟩ := hrel
      by_cases hlt : k < m
      · obtain ⟨b, o, x, rfl, hbB, hx, c0, c1'⟩ := (hr.below hbel).cr hlt
        obtain ⟨a0, a1⟩ := AT.out x (List.mem_of_getElem? hx)
        have HS := Lib.hid (orderTo_step (N := N) hx)
        have hlen := orderTo_len N ls k
        clear hx
        obtain ⟨xa, xf⟩ := x
        simp only at a0 a1 c0 c1' HS
        obtain ⟨j, rfl⟩ := Int.eq_ofNat_of_zero_le a0
        have HW := Lib.hid (swapAt_at (j := j) (orderTo_ok (N := N) (by omega) (by omega) ls k) (by omega))
        have HN := Lib.hid (swapN_len (orderTo N ls k) j)
        have HL := Lib.hid hlen
        have hN : N ≤ 1048576 := by omega
        clear hlen
        go_wp2_with fail
        refine (spec_SwapAt (k := (j : Int)) (Reads.of_own hown) hN).mono ?_
        rintro e w3 ⟨A3, n3, c3, rfl, hown3, hn3, hb3⟩
        rw [HW.out] at hown3
        obtain rfl : N = n3 := by have := own_len hown3; rw [HN.out, HL.out] at this; omega
        replace hown3 := ownsRow_le hown3 hbel.size
        have hbel3 := hbel.trans (hb3.mono hbel.size)
        clear hb3 hown hbel
        go_wp2
        go_roundw
        case rel => exact ⟨k + 1, A3, c3, by omega, by go_num, rfl, by rw [HS.out]; simpa using hown3, hbel3⟩
        case measure => simp [intOf]; omega
      · obtain rfl : k = m := by omega
        go_wp2
        go_ret
        exact ⟨A', N, c', rfl, by rw [S.out, hl]; exact hown, by omega, hbel⟩
end Go.Proofs.Ytkpgfmkmbgapmaa
