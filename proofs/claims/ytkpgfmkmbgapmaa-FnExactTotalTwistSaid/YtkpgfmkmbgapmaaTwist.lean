/- Contracts of TotalTwist of both sides; no condition beyond the slice's length. -/
import Derived.Test.YtkpgfmkmbgapmaaCrossOk
namespace Go.Proofs.Ytkpgfmkmbgapmaa
open Go.ChangeShapes Go.WideShapes Go.ChangeAt Go.RowKit Go.Deep Go.Joins
set_option maxRecDepth 100000

def twistTo (ls : List Cr) : Nat → Int
  | 0 => 0
  | k + 1 => twistTo ls k + match ls[k]? with
    | some x => if x.front then 1 else -1
    | none => 0
theorem twistTo_bd (ls : List Cr) (k : Nat) : -(k : Int) ≤ twistTo ls k ∧ twistTo ls k ≤ k := by
  induction k with
  | zero => simp [twistTo]
  | succ k ih =>
    rw [twistTo]
    split
    · split <;> omega
    · omega
theorem twistTo_step {ls : List Cr} {k : Nat} {x : Cr} (hx : ls[k]? = some x) : twistTo ls (k + 1) = twistTo ls k + if x.front then 1 else -1 := by
  rw [twistTo, hx]
def totalTwist (n : Int) (ls : List Cr) : Int := if crossesOk n ls then twistTo ls ls.length else 0

theorem impl_TotalTwist {n : Int} {A : Option Addr} {m c : Nat} {ls : List Cr} {w : World} (hr : Reads w 2 A m (crs ls)) (hm : m ≤ 1048576) :
    Calls Try.prog 21 #[.int .i64 n, .slice A m c] w fun e w' => e = .returned (.int .i64 (totalTwist n ls)) ∧ Below w.heap.size w w' := by
  have hl := hr.crlen
  cases hb : crossesOk n ls with
  | false =>
    have E := Lib.hid hb; clear hb
    go_enter Try.func21, Try.ntmps21
    go_wp2_with fail
    refine (impl_CrossesOk (hr.below (by go_grown)) hm).mono ?_
    rintro e w1 ⟨rfl, hb1⟩
    rw [E.out]
    go_wp2
    go_ret
    exact ⟨ret_int (by simp [totalTwist, E.out]), (by go_grown : Below w.heap.size w _).trans (hb1.mono (by simp))⟩
  | true =>
    have E := Lib.hid hb; clear hb
    go_enter Try.func21, Try.ntmps21
    go_wp2_with fail
    refine (impl_CrossesOk (hr.below (by go_grown)) hm).mono ?_
    rintro e w1 ⟨rfl, hb1⟩
    rw [E.out]
    have hB : Below w.heap.size w w1 := (by go_grown : Below w.heap.size w _).trans (hb1.mono (by simp))
    clear hb1
    go_wp2
    go_loopw [5, 14] (fun v i wr => ∃ k : Nat, k ≤ m ∧ i = .int .i64 k ∧ v = .int .i64 (twistTo ls k) ∧ Below w.heap.size w wr) (fun _ i _ => m - (intOf i).toNat)
    case atStart => exact ⟨0, by omega, rfl, rfl, hB⟩
    case round =>
      obtain ⟨k, hk, rfl, rfl, hbel⟩ := hrel
      by_cases hlt : k < m
      · obtain ⟨b, o, x, rfl, hbB, hx, c0, c1⟩ := (hr.below hbel).cr hlt
        have ST := Lib.hid (twistTo_step hx); clear hx
        have hbd := twistTo_bd ls k
        generalize twistTo ls k = T at *
        have hT : Below w.heap.size w (wr.alloc (.cells #[.int .i64 x.at_, .bool x.front] 49)) := hbel.trans ((by go_grown : Below wr.heap.size wr _).mono hbel.size)
        cases hf : x.front
        all_goals
          rw [hf] at c1 ST hT
          go_wp2
          go_roundw
          case rel => exact ⟨k + 1, by omega, by go_num, by rw [ST.out]; exact congrArg (Value.int .i64) (by first | (simp; done) | (simp; omega)), hT⟩
          case measure => simp [intOf]; omega
      · obtain rfl : k = m := by omega
        go_wp2
        go_ret
        exact ⟨ret_int (by simp [totalTwist, E.out, hl]), hbel⟩

theorem spec_TotalTwist {n : Int} {A : Option Addr} {m c : Nat} {ls : List Cr} {w : World} (hr : Reads w 2 A m (crs ls)) (hm : m ≤ 1048576) :
    Calls Try.prog 20 #[.int .i64 n, .slice A m c] w fun e w' => e = .returned (.int .i64 (totalTwist n ls)) ∧ Below w.heap.size w w' := by
  have hl := hr.crlen
  have E : crossesOk n ls = crossesOk n ls := rfl
  generalize hok : crossesOk n ls = ok at E
  have E := Lib.hid hok
  clear hok
  go_enter Try.func20, Try.ntmps20
  go_wp2
  go_loopw [5, 6] (fun v i wr => ∃ k : Nat, k ≤ m ∧ (ok = false → k = 0) ∧ i = .int .i64 k ∧ v = .int .i64 (twistTo ls k) ∧ Below w.heap.size w wr) (fun _ i _ => m - (intOf i).toNat)
  case atStart => exact ⟨0, by omega, fun _ => rfl, rfl, rfl, Below.refl _ _⟩
  case round =>
    obtain ⟨k, hk, hz, rfl, rfl, hbel⟩ := hrel
    by_cases hlt : k < m
    · obtain ⟨b, o, x, rfl, hbB, hx, c0, c1⟩ := (hr.below hbel).cr hlt
      have ST := Lib.hid (twistTo_step hx); clear hx
      have hbd := twistTo_bd ls k
      cases ok with
      | false =>
        obtain rfl := hz rfl
        go_wp2_with fail
        refine (spec_CrossesOk (hr.below hbel) hm).mono ?_
        rintro e w1 ⟨rfl, hb1⟩
        rw [E.out]
        go_wp2
        go_ret
        exact ⟨ret_int (by simp [totalTwist, E.out, twistTo]), hbel.trans (hb1.mono hbel.size)⟩
      | true =>
        generalize twistTo ls k = T at *
        cases hf : x.front
        all_goals
          rw [hf] at c1 ST
          go_wp2_with fail
          refine (spec_CrossesOk (hr.below hbel) hm).mono ?_
          rintro e w1 ⟨rfl, hb1⟩
          rw [E.out]
          have d1 := keep_cell hb1 c1
          clear c0 c1
          go_wp2
          go_roundw
          case rel => exact ⟨k + 1, by omega, by simp, by go_num, by rw [ST.out]; exact congrArg (Value.int .i64) (by first | (simp; done) | (simp; omega)), hbel.trans (hb1.mono hbel.size)⟩
          case measure => simp [intOf]; omega
    · obtain rfl : k = m := by omega
      go_wp2
      go_ret
      refine ⟨ret_int ?_, hbel⟩
      cases ok with
      | false => simp [totalTwist, E.out, hz rfl, twistTo]
      | true => simp [totalTwist, E.out, hl]
end Go.Proofs.Ytkpgfmkmbgapmaa
