/- Contracts of LengthOf of both sides; no condition beyond the slice's length. -/
import Derived.Test.YtnghfocboodkhaaBodyS
namespace Go.Proofs.Ytnghfocboodkhaa
open Go.ChangeShapes Go.WideShapes Go.ChangeAt Go.RowKit Go.Deep Go.Joins
set_option maxRecDepth 100000

def sumL (ls : List Lb) : Int := (ls.map Lb.l).sum
def lengthOf (n : Int) (ls : List Lb) : Int := if bodyOk n ls then sumL ls else -1
theorem sumL_snoc (xs : List Lb) (x : Lb) : sumL (xs ++ [x]) = sumL xs + x.l := by simp [sumL, List.sum_append]
theorem sumL_bd {N : Nat} : ∀ (xs : List Lb), (∀ x ∈ xs, okLb N x) → 0 ≤ sumL xs ∧ sumL xs ≤ 100 * xs.length := by
  intro xs
  induction xs with
  | nil => intro _; simp [sumL]
  | cons x xs ih =>
    intro h
    have h1 := ih fun y hy => h y (by simp [hy])
    have h2 := (h x (by simp)).l1
    simp only [sumL, List.map_cons, List.sum_cons, List.length_cons] at h1 ⊢
    omega

set_option maxHeartbeats 4000000 in
theorem impl_LengthOf {n : Int} {A : Option Addr} {m c : Nat} {ls : List Lb} {w : World} (hr : Reads w 3 A m (lbs ls)) (hm : m ≤ 1048576) :
    Calls Try.prog 25 #[.agg #[.int .i64 n, .slice A m c]] w fun e w' => e = .returned (.int .i64 (lengthOf n ls)) ∧ Below w.heap.size w w' := by
  have hlen : ls.length = m := by have := hr.1; rw [lbs_length] at this; omega
  have hx := Row.new w 24 [.int .i64 n, .slice A m c]
  cases hb : bodyOk n ls with
  | false =>
    have E := Lib.hid hb; clear hb
    go_enter Try.func25, Try.ntmps25
    go_wp2_with fail
    refine (impl_BodyOk (hr.below (by go_grown)) hm).mono ?_
    rintro e w1 ⟨rfl, hb1⟩
    rw [E.out]
    go_wp2
    go_ret
    exact ⟨ret_int (by simp [lengthOf, E.out]), (by go_grown : Below w.heap.size w _).trans (hb1.mono (by simp))⟩
  | true =>
    obtain ⟨h1, h2, h3, t⟩ := tree_of hb
    have OK := Lib.hid t.ok
    have E := Lib.hid hb; clear hb t
    go_enter Try.func25, Try.ntmps25
    go_wp2_with fail
    refine (impl_BodyOk (hr.below (by go_grown)) hm).mono ?_
    rintro e w1 ⟨rfl, hb1⟩
    rw [E.out]
    have hx1 := hx.below hb1
    have q1 := hx1.cell_ (i := 1) rfl
    have hB : Below w.heap.size w w1 := (by go_grown : Below w.heap.size w _).trans (hb1.mono (by simp))
    clear hb1 hx hx1
    go_wp2
    clear q1
    go_loopw [3, 12] (fun v i wr => ∃ k : Nat, k ≤ m ∧ i = .int .i64 k ∧ v = .int .i64 (sumL (ls.take k)) ∧ Below w.heap.size w wr) (fun _ i _ => m - (intOf i).toNat)
    case atStart => exact ⟨0, by omega, rfl, rfl, hB⟩
    case round =>
      obtain ⟨k, hk, rfl, rfl, hbel⟩ := hrel
      by_cases hlt : k < m
      · obtain ⟨b, o, x, rfl, hbB, hxk, c0, c1, c2⟩ := (hr.below hbel).lb hlt
        have HX := Lib.hid (take_snoc hxk)
        have hbd := sumL_bd (ls.take k) (fun y hy => OK.out y (List.mem_of_mem_take hy))
        have hlk : ((ls.take k).length : Int) ≤ 12 := by simp; omega
        have hl := (OK.out x (List.mem_of_getElem? hxk)).l1
        clear hxk
        generalize hS : sumL (ls.take k) = S at *
        have HS := Lib.hid hS
        clear hS
        go_wp2
        go_roundw
        case rel => exact ⟨k + 1, by omega, by go_num, by rw [HX.out, sumL_snoc, HS.out], hbel.alloc hbel.size _⟩
        case measure => simp [intOf]; omega
      · obtain rfl : k = m := by omega
        go_wp2
        go_ret
        exact ⟨ret_int (by rw [List.take_of_length_le (by omega)]; simp [lengthOf, E.out]), hbel⟩

set_option maxHeartbeats 4000000 in
theorem spec_LengthOf {n : Int} {A : Option Addr} {m c : Nat} {ls : List Lb} {w : World} (hr : Reads w 3 A m (lbs ls)) (hm : m ≤ 1048576) :
    Calls Try.prog 24 #[.agg #[.int .i64 n, .slice A m c]] w fun e w' => e = .returned (.int .i64 (lengthOf n ls)) ∧ Below w.heap.size w w' := by
  have hlen : ls.length = m := by have := hr.1; rw [lbs_length] at this; omega
  have hx := Row.new w 24 [.int .i64 n, .slice A m c]
  cases hb : bodyOk n ls with
  | false =>
    have E := Lib.hid hb; clear hb
    go_enter Try.func24, Try.ntmps24
    go_wp2_with fail
    refine (spec_BodyOk (hr.below (by go_grown)) hm).mono ?_
    rintro e w1 ⟨rfl, hb1⟩
    rw [E.out]
    go_wp2
    go_ret
    exact ⟨ret_int (by simp [lengthOf, E.out]), (by go_grown : Below w.heap.size w _).trans (hb1.mono (by simp))⟩
  | true =>
    obtain ⟨h1, h2, h3, t⟩ := tree_of hb
    have OK := Lib.hid t.ok
    have E := Lib.hid hb; clear hb t
    go_enter Try.func24, Try.ntmps24
    go_wp2_with fail
    refine (spec_BodyOk (hr.below (by go_grown)) hm).mono ?_
    rintro e w1 ⟨rfl, hb1⟩
    rw [E.out]
    have hx1 := hx.below hb1
    have q1 := hx1.cell_ (i := 1) rfl
    have hB : Below w.heap.size w w1 := (by go_grown : Below w.heap.size w _).trans (hb1.mono (by simp))
    clear hb1 hx hx1
    go_wp2
    go_loop [3, 4] (fun v i => ∃ k : Nat, k ≤ m ∧ i = .int .i64 k ∧ v = .int .i64 (sumL (ls.take k))) (fun _ i => m - (intOf i).toNat)
    case atStart => exact ⟨0, by omega, rfl, rfl⟩
    case round =>
      obtain ⟨k, hk, rfl, rfl⟩ := hrel
      by_cases hlt : k < m
      · obtain ⟨b, o, x, rfl, hbB, hxk, c0, c1, c2⟩ := (hr.below hB).lb hlt
        have HX := Lib.hid (take_snoc hxk)
        have hbd := sumL_bd (ls.take k) (fun y hy => OK.out y (List.mem_of_mem_take hy))
        have hlk : ((ls.take k).length : Int) ≤ 12 := by simp; omega
        have hl := (OK.out x (List.mem_of_getElem? hxk)).l1
        clear hxk
        generalize hS : sumL (ls.take k) = S at *
        have HS := Lib.hid hS
        clear hS
        go_wp2
        go_round
        case rel => exact ⟨k + 1, by omega, by go_num, by rw [HX.out, sumL_snoc, HS.out]⟩
        case measure => simp [intOf]; omega
      · obtain rfl : k = m := by omega
        go_wp2
        go_ret
        exact ⟨ret_int (by rw [List.take_of_length_le (by omega)]; simp [lengthOf, E.out]), hB⟩
end Go.Proofs.Ytnghfocboodkhaa
