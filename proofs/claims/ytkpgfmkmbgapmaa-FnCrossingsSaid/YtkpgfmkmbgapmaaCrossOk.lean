/- Contracts of CrossesOk and TotalTwist of both sides; no condition beyond the slice's length. -/
import Derived.Test.YtkpgfmkmbgapmaaCross
import Derived.Test.YtkpgfmkmbgapmaaIn
namespace Go.Proofs.Ytkpgfmkmbgapmaa
open Go.ChangeShapes Go.WideShapes Go.ChangeAt Go.RowKit Go.Deep Go.Joins
set_option maxRecDepth 100000

def crossesOk (n : Int) (ls : List Cr) : Bool := decide (1 ≤ n ∧ n ≤ 7 ∧ ls.length ≤ 40 ∧ ∀ x ∈ ls, 0 ≤ x.at_ ∧ x.at_ ≤ n - 2)
def CrossesUpTo (n : Int) (ls : List Cr) (k : Nat) : Prop := ∀ i x, i < k → ls[i]? = some x → 0 ≤ x.at_ ∧ x.at_ ≤ n - 2
theorem crossesOk_all {n : Int} {ls : List Cr} {k : Nat} (h1 : 1 ≤ n) (h2 : n ≤ 7) (hl : ls.length = k) (hk : k ≤ 40) (h : CrossesUpTo n ls k) : crossesOk n ls = true := by
  refine decide_eq_true ⟨h1, h2, by omega, fun x hx => ?_⟩
  obtain ⟨i, hi⟩ := List.getElem?_of_mem hx
  exact h i x (by have := (List.getElem?_eq_some_iff.1 hi).1; omega) hi
theorem crossesOk_out {n : Int} {ls : List Cr} (h : n < 1 ∨ 7 < n) : crossesOk n ls = false := decide_eq_false fun ⟨h1, h2, _⟩ => by omega
theorem crossesOk_long {n : Int} {ls : List Cr} (h : 40 < ls.length) : crossesOk n ls = false := decide_eq_false fun ⟨_, _, h1, _⟩ => by omega
theorem crossesOk_bad {n : Int} {ls : List Cr} {k : Nat} {x : Cr} (hx : ls[k]? = some x) (h : x.at_ < 0 ∨ n - 2 < x.at_) : crossesOk n ls = false :=
  decide_eq_false fun ⟨_, _, _, h1⟩ => by have := h1 x (List.mem_of_getElem? hx); omega
theorem CrossesUpTo.next {n : Int} {ls : List Cr} {k : Nat} {x : Cr} (h : CrossesUpTo n ls k) (hx : ls[k]? = some x) (h0 : 0 ≤ x.at_) (h1 : x.at_ ≤ n - 2) : CrossesUpTo n ls (k + 1) := by
  intro i y hi hy
  rcases Nat.lt_or_ge i k with hlt | hge
  · exact h i y hlt hy
  · obtain rfl : i = k := by omega
    rw [hx] at hy
    obtain rfl := Option.some.inj hy
    exact ⟨h0, h1⟩
structure CrossFacts (n : Int) (ls : List Cr) : Prop where
  n1 : 1 ≤ n
  n7 : n ≤ 7
  len : ls.length ≤ 40
  at_ : ∀ x ∈ ls, 0 ≤ x.at_ ∧ x.at_ ≤ n - 2
theorem crossFacts {n : Int} {ls : List Cr} (h : crossesOk n ls = true) : CrossFacts n ls := by
  obtain ⟨h1, h2, h3, h4⟩ := of_decide_eq_true h
  exact ⟨h1, h2, h3, h4⟩

theorem impl_CrossesOk {n : Int} {A : Option Addr} {m c : Nat} {ls : List Cr} {w : World} (hr : Reads w 2 A m (crs ls)) (hm : m ≤ 1048576) :
    Calls Try.prog 14 #[.int .i64 n, .slice A m c] w fun e w' => e = .returned (.bool (crossesOk n ls)) ∧ Below w.heap.size w w' := by
  have hl := hr.crlen
  by_cases hn : n < 1 ∨ 7 < n
  · go_enter Try.func14, Try.ntmps14
    go_wp2_with (go_at_call 41; refine (within_f _ _ _ _ hn).mono ?_; rintro e w1 ⟨rfl, rfl⟩)
    go_ret
    exact ⟨ret_bool (crossesOk_out hn).symm, by go_grown⟩
  have hn1 : 1 ≤ n := by omega
  have hn7 : n ≤ 7 := by omega
  clear hn
  by_cases h40 : 40 < m
  · go_enter Try.func14, Try.ntmps14
    go_wp2_with (go_at_call 41; refine (within_t _ _ _ _ hn1 hn7).mono ?_; rintro e w1 ⟨rfl, rfl⟩)
    go_ret
    exact ⟨ret_bool (crossesOk_long (by omega)).symm, by go_grown⟩
  go_enter Try.func14, Try.ntmps14
  go_wp2_with (go_at_call 41; refine (within_t _ _ _ _ hn1 hn7).mono ?_; rintro e w1 ⟨rfl, rfl⟩)
  go_loopw [17] (fun i wr => ∃ k : Nat, k ≤ m ∧ i = .int .i64 k ∧ CrossesUpTo n ls k ∧ Below w.heap.size w wr) (fun i _ => m - (intOf i).toNat)
  case atStart => exact ⟨0, by omega, rfl, fun i x hi => absurd hi (by omega), by go_grown⟩
  case round =>
    obtain ⟨k, hk, rfl, hu, hbel⟩ := hrel
    have HU := Lib.hid hu; clear hu
    by_cases hlt : k < m
    · obtain ⟨b, o, x, rfl, hbB, hx, c0, c1⟩ := (hr.below hbel).cr hlt
      have HX := Lib.hid hx; clear hx
      by_cases hin : 0 ≤ x.at_ ∧ x.at_ ≤ n - 2
      · obtain ⟨i1, i2⟩ := hin
        go_wp2_with (go_at_call 41; refine (within_t _ _ _ _ i1 i2).mono ?_; rintro e w1 ⟨rfl, rfl⟩)
        go_roundw
        case rel => exact ⟨k + 1, by omega, by go_num, HU.out.next HX.out i1 i2, hbel.trans ((by go_grown : Below wr.heap.size wr _).mono hbel.size)⟩
        case measure => simp [intOf]; omega
      · have i1 : x.at_ < 0 ∨ n - 2 < x.at_ := by omega
        clear hin
        go_wp2_with (go_at_call 41; refine (within_f _ _ _ _ i1).mono ?_; rintro e w1 ⟨rfl, rfl⟩)
        go_ret
        exact ⟨ret_bool (crossesOk_bad HX.out i1).symm, hbel.trans ((by go_grown : Below wr.heap.size wr _).mono hbel.size)⟩
    · obtain rfl : k = m := by omega
      go_wp2
      go_ret
      exact ⟨ret_bool (crossesOk_all hn1 hn7 hl (by omega) HU.out).symm, hbel⟩

theorem spec_CrossesOk {n : Int} {A : Option Addr} {m c : Nat} {ls : List Cr} {w : World} (hr : Reads w 2 A m (crs ls)) (hm : m ≤ 1048576) :
    Calls Try.prog 12 #[.int .i64 n, .slice A m c] w fun e w' => e = .returned (.bool (crossesOk n ls)) ∧ Below w.heap.size w w' := by
  have hl := hr.crlen
  by_cases hn : n < 1 ∨ 7 < n
  · go_enter Try.func12, Try.ntmps12
    go_wp2_with (go_at_call 39; refine (l01In_f _ _ _ _ hn).mono ?_; rintro e w1 ⟨rfl, rfl⟩)
    go_ret
    exact ⟨ret_bool (crossesOk_out hn).symm, by go_grown⟩
  have hn1 : 1 ≤ n := by omega
  have hn7 : n ≤ 7 := by omega
  clear hn
  by_cases h40 : 40 < m
  · go_enter Try.func12, Try.ntmps12
    go_wp2_with (go_at_call 39; refine (l01In_t _ _ _ _ hn1 hn7).mono ?_; rintro e w1 ⟨rfl, rfl⟩)
    go_ret
    exact ⟨ret_bool (crossesOk_long (by omega)).symm, by go_grown⟩
  go_enter Try.func12, Try.ntmps12
  go_wp2_with (go_at_call 39; refine (l01In_t _ _ _ _ hn1 hn7).mono ?_; rintro e w1 ⟨rfl, rfl⟩)
  go_loopw [5] (fun i wr => ∃ k : Nat, k ≤ m ∧ i = .int .i64 k ∧ CrossesUpTo n ls k ∧ Below w.heap.size w wr) (fun i _ => m - (intOf i).toNat)
  case atStart => exact ⟨0, by omega, rfl, fun i x hi => absurd hi (by omega), by go_grown⟩
  case round =>
    obtain ⟨k, hk, rfl, hu, hbel⟩ := hrel
    have HU := Lib.hid hu; clear hu
    by_cases hlt : k < m
    · obtain ⟨b, o, x, rfl, hbB, hx, c0, c1⟩ := (hr.below hbel).cr hlt
      have HX := Lib.hid hx; clear hx
      by_cases hin : 0 ≤ x.at_ ∧ x.at_ ≤ n - 2
      · obtain ⟨i1, i2⟩ := hin
        go_wp2_with (go_at_call 39; refine (l01In_t _ _ _ _ i1 i2).mono ?_; rintro e w1 ⟨rfl, rfl⟩)
        go_roundw
        case rel => exact ⟨k + 1, by omega, by go_num, HU.out.next HX.out i1 i2, hbel.trans ((by go_grown : Below wr.heap.size wr _).mono hbel.size)⟩
        case measure => simp [intOf]; omega
      · have i1 : x.at_ < 0 ∨ n - 2 < x.at_ := by omega
        clear hin
        go_wp2_with (go_at_call 39; refine (l01In_f _ _ _ _ i1).mono ?_; rintro e w1 ⟨rfl, rfl⟩)
        go_ret
        exact ⟨ret_bool (crossesOk_bad HX.out i1).symm, hbel.trans ((by go_grown : Below wr.heap.size wr _).mono hbel.size)⟩
    · obtain rfl : k = m := by omega
      go_wp2
      go_ret
      exact ⟨ret_bool (crossesOk_all hn1 hn7 hl (by omega) HU.out).symm, hbel⟩
end Go.Proofs.Ytkpgfmkmbgapmaa
