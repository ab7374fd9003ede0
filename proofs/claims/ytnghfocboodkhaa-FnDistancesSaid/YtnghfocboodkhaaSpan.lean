/- Contracts of SpanOf and CenterOf of both sides; no condition beyond the slice's length. -/
import Derived.Test.YtnghfocboodkhaaDistI
namespace Go.Proofs.Ytnghfocboodkhaa
open Go.ChangeShapes Go.WideShapes Go.ChangeAt Go.RowKit Go.Deep Go.Joins
set_option maxRecDepth 100000

def spanOf (n : Int) (ls : List Lb) : Int := if bodyOk n ls then maxTo (far n.toNat ls) n.toNat else -1
theorem spanOf_yes {N : Nat} {ls : List Lb} (h : bodyOk (N : Int) ls = true) : spanOf N ls = maxTo (far N ls) N := by simp [spanOf, h]
theorem far_bd {N : Nat} {ls : List Lb} (t : Tree N ls) (v : Nat) (hv : v < N) : 0 ≤ far N ls v ∧ far N ls v ≤ 1100 := maxTo_bd fun u hu => ⟨t.all hv u hu, t.bound hv u⟩

set_option maxHeartbeats 4000000 in
theorem impl_SpanOf {n : Int} {A : Option Addr} {m c : Nat} {ls : List Lb} {w : World} (hr : Reads w 3 A m (lbs ls)) (hm : m ≤ 1048576) :
    Calls Try.prog 38 #[.agg #[.int .i64 n, .slice A m c]] w fun e w' => e = .returned (.int .i64 (spanOf n ls)) ∧ Below w.heap.size w w' := by
  have hx := Row.new w 24 [.int .i64 n, .slice A m c]
  cases hb : bodyOk n ls with
  | false =>
    have E := Lib.hid hb; clear hb
    go_enter Try.func38, Try.ntmps38
    go_wp2_with fail
    refine (impl_BodyOk (hr.below (by go_grown)) hm).mono ?_
    rintro e w1 ⟨rfl, hb1⟩
    rw [E.out]
    go_wp2
    go_ret
    exact ⟨ret_int (by simp [spanOf, E.out]), (by go_grown : Below w.heap.size w _).trans (hb1.mono (by simp))⟩
  | true =>
    obtain ⟨h1, h2, h3, t⟩ := tree_of hb
    obtain ⟨N, rfl⟩ := Int.eq_ofNat_of_zero_le (show 0 ≤ n by omega)
    rw [Int.toNat_natCast] at t
    have T := Lib.hid t
    have E := Lib.hid hb; clear hb t
    go_enter Try.func38, Try.ntmps38
    go_wp2_with fail
    refine (impl_BodyOk (hr.below (by go_grown)) hm).mono ?_
    rintro e w1 ⟨rfl, hb1⟩
    rw [E.out]
    have hx1 := hx.below hb1
    have q0 := hx1.cell_ (i := 0) rfl
    have hB : Below w.heap.size w w1 := (by go_grown : Below w.heap.size w _).trans (hb1.mono (by simp))
    clear hb1 hx
    go_wp2
    clear q0
    go_loopw [3, 10] (fun v i wr => ∃ k : Nat, k ≤ N ∧ i = .int .i64 k ∧ v = .int .i64 (maxTo (far N ls) k) ∧ Row wr w.heap.size 24 [.int .i64 N, .slice A m c] ∧ Below w.heap.size w wr) (fun _ i _ => N - (intOf i).toNat)
    case atStart => exact ⟨0, by omega, rfl, rfl, hx1, hB⟩
    case round =>
      obtain ⟨k, hk, rfl, rfl, hbx, hbel⟩ := hrel
      have q0 := hbx.cell_ (i := 0) rfl
      have q1 := hbx.cell_ (i := 1) rfl
      clear hx1 hB
      by_cases hlt : k < N
      · have hbd := maxTo_bd (f := far N ls) (n := k) fun v hv => far_bd T.out v (by omega)
        have hst : maxTo (far N ls) (k + 1) = max (maxTo (far N ls) k) (far N ls k) := rfl
        have hfk := far_bd T.out k hlt
        have ST := Lib.hid hst
        clear hst
        generalize hM : maxTo (far N ls) k = M at *
        have HM := Lib.hid hM
        clear hM
        go_wp2_with fail
        refine (impl_farthest (I := k) (hr.below hbel) hm T.out rfl hlt).mono ?_
        rintro e w2 ⟨rfl, hb2⟩
        have hbx2 := hbx.below hb2
        have hbel2 := hbel.trans (hb2.mono hbel.size)
        clear hb2 q0 q1 hbx hbel
        generalize far N ls k = F at *
        go_wp2
        all_goals
          go_roundw
          case rel => exact ⟨k + 1, by omega, by go_num, by rw [ST.out]; exact congrArg (Value.int .i64) (by omega), hbx2, hbel2⟩
          case measure => simp [intOf]; omega
      · obtain rfl : k = N := by omega
        go_wp2
        go_ret
        exact ⟨ret_int (spanOf_yes E.out).symm, hbel⟩

/-! ### The middle -/
def centTo (f : Nat → Int) : Nat → Nat
  | 0 => 0
  | k + 1 => if f k < f (centTo f k) then k else centTo f k
theorem centTo_lt (f : Nat → Int) (k : Nat) : centTo f (k + 1) < k + 1 := by
  induction k with
  | zero => simp [centTo]
  | succ k ih =>
    rw [centTo]
    split
    · omega
    · omega
theorem centTo_step (f : Nat → Int) (k : Nat) : centTo f (k + 1) = if f k < f (centTo f k) then k else centTo f k := rfl
def centerOf (n : Int) (ls : List Lb) : Int := if bodyOk n ls then (centTo (far n.toNat ls) n.toNat : Int) else -1
theorem centerOf_yes {N : Nat} {ls : List Lb} (h : bodyOk (N : Int) ls = true) : centerOf N ls = (centTo (far N ls) N : Int) := by simp [centerOf, h]

set_option maxHeartbeats 4000000 in
theorem impl_CenterOf {n : Int} {A : Option Addr} {m c : Nat} {ls : List Lb} {w : World} (hr : Reads w 3 A m (lbs ls)) (hm : m ≤ 1048576) :
    Calls Try.prog 40 #[.agg #[.int .i64 n, .slice A m c]] w fun e w' => e = .returned (.int .i64 (centerOf n ls)) ∧ Below w.heap.size w w' := by
  have hx := Row.new w 24 [.int .i64 n, .slice A m c]
  cases hb : bodyOk n ls with
  | false =>
    have E := Lib.hid hb; clear hb
    go_enter Try.func40, Try.ntmps40
    go_wp2_with fail
    refine (impl_BodyOk (hr.below (by go_grown)) hm).mono ?_
    rintro e w1 ⟨rfl, hb1⟩
    rw [E.out]
    go_wp2
    go_ret
    exact ⟨ret_int (by simp [centerOf, E.out]), (by go_grown : Below w.heap.size w _).trans (hb1.mono (by simp))⟩
  | true =>
    obtain ⟨h1, h2, h3, t⟩ := tree_of hb
    obtain ⟨N, rfl⟩ := Int.eq_ofNat_of_zero_le (show 0 ≤ n by omega)
    rw [Int.toNat_natCast] at t
    have T := Lib.hid t
    have E := Lib.hid hb; clear hb t
    go_enter Try.func40, Try.ntmps40
    go_wp2_with fail
    refine (impl_BodyOk (hr.below (by go_grown)) hm).mono ?_
    rintro e w1 ⟨rfl, hb1⟩
    rw [E.out]
    have hx1 := hx.below hb1
    have q0 := hx1.cell_ (i := 0) rfl
    have hB : Below w.heap.size w w1 := (by go_grown : Below w.heap.size w _).trans (hb1.mono (by simp))
    clear hb1 hx
    go_wp2
    clear q0
    go_loopw [3, 10] (fun v i wr => ∃ k best : Nat, k ≤ N ∧ best < N ∧ i = .int .i64 k ∧ v = .int .i64 best ∧ best = centTo (far N ls) k ∧ Row wr w.heap.size 24 [.int .i64 N, .slice A m c] ∧ Below w.heap.size w wr) (fun _ i _ => N - (intOf i).toNat)
    case atStart => exact ⟨0, 0, by omega, by omega, rfl, rfl, rfl, hx1, hB⟩
    case round =>
      obtain ⟨k, best, hk, hbest, rfl, rfl, hbe, hbx, hbel⟩ := hrel
      have BE := Lib.hid hbe
      clear hbe
      have q0 := hbx.cell_ (i := 0) rfl
      have q1 := hbx.cell_ (i := 1) rfl
      clear hx1 hB
      by_cases hlt : k < N
      · have hst := centTo_step (far N ls) k
        rw [← BE.out] at hst
        have ST := Lib.hid hst
        clear hst
        go_wp2_with fail
        go_region_held3 (fun w' => w'.cell? ⟨w.heap.size, 0, none⟩ = some (.int .i64 (N : Int)) ∧ w'.cell? ⟨w.heap.size, 1, none⟩ = some (.slice A m c))
          (first | go_keep | exact ⟨k0, k1⟩ | exact ⟨m0, m1⟩)
          (first | (go_at_call_of 63 (Value.int .i64 (k : Int)); refine (impl_farthest (I := k) ((hr.below hbel).below (below_drewN (Below.refl _ _) _)) hm T.out rfl hlt).mono ?_; rintro e w2 ⟨rfl, hb2⟩; have k0 := keep_cell hb2 q0; have k1 := keep_cell hb2 q1) | (go_at_call_of 63 (Value.int .i64 (best : Int)); refine (impl_farthest (I := best) (((hr.below hbel).below (below_drewN (Below.refl _ _) _)).below hb2) hm T.out rfl hbest).mono ?_; rintro e w3 ⟨rfl, hb3⟩; have m0 := keep_cell hb3 k0; have m1 := keep_cell hb3 k1))
        have hb4 := (below_of_drew hb2).trans (hb3.mono hb2.size)
        have hbx2 := hbx.below hb4
        have hbel2 := hbel.trans (hb4.mono hbel.size)
        clear hb2 hb3 hb4 q0 q1 hbx hbel k0 k1 m0 m1
        generalize hf1 : far N ls k = f1 at *
        generalize hf2 : far N ls best = f2 at *
        have F1 := Lib.hid hf1
        have F2 := Lib.hid hf2
        clear hf1 hf2
        by_cases hc : f1 < f2
        · go_wp2
          go_roundw
          case rel => exact ⟨k + 1, k, by omega, hlt, by go_num, rfl, by rw [ST.out, if_pos hc], hbx2, hbel2⟩
          case measure => simp [intOf]; omega
        · go_wp2
          go_roundw
          case rel => exact ⟨k + 1, best, by omega, hbest, by go_num, rfl, by rw [ST.out, if_neg hc], hbx2, hbel2⟩
          case measure => simp [intOf]; omega
      · obtain rfl : k = N := by omega
        go_wp2
        go_ret
        exact ⟨ret_int (by rw [centerOf_yes E.out, ← BE.out]), hbel⟩
end Go.Proofs.Ytnghfocboodkhaa
