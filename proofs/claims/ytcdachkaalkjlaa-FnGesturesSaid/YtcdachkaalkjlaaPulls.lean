/- Contracts of PullsOk of both sides; no condition beyond the slices' lengths. -/
import Derived.Test.YtcdachkaalkjlaaBodyS
import Derived.Test.YtcdachkaalkjlaaOrd
namespace Go.Proofs.Ytcdachkaalkjlaa
open Go.ChangeShapes Go.WideShapes Go.ChangeAt Go.RowKit Go.Deep Go.Joins
set_option maxRecDepth 100000

def cntS (ps : List Int) : Nat := ps.countP fun p => decide (p ≠ -1)
def someS (ps : List Int) : Bool := ps.any fun p => decide (0 ≤ p)
theorem cntS_snoc (ps : List Int) (p : Int) : cntS (ps ++ [p]) = cntS ps + if p = -1 then 0 else 1 := by
  unfold cntS
  rw [List.countP_append]
  by_cases h : p = -1 <;> simp [h]
theorem cntS_le (ps : List Int) : cntS ps ≤ ps.length := List.countP_le_length
theorem someS_snoc (ps : List Int) (p : Int) : someS (ps ++ [p]) = (someS ps || decide (0 ≤ p)) := by simp [someS]
theorem cnt_some {ps : List Int} (h : inAll ps (-1) 500 = true) : decide ((0 : Int) < (cntS ps : Int)) = someS ps := by
  have h1 := of_decide_eq_true h
  rw [Bool.eq_iff_iff]
  simp only [decide_eq_true_eq, someS, List.any_eq_true]
  constructor
  · intro h2
    have h3 : 0 < cntS ps := by omega
    obtain ⟨p, hp, hc⟩ := List.countP_pos_iff.1 h3
    have := h1 p hp
    simp at hc
    exact ⟨p, hp, by omega⟩
  · rintro ⟨p, hp, hc⟩
    have : 0 < cntS ps := List.countP_pos_iff.2 ⟨p, hp, by simp; omega⟩
    omega
def pullsOk (n : Int) (ls : List Lb) (ps : List Int) : Bool := (bodyOk n ls && decide ((ps.length : Int) = n)) && (inAll ps (-1) 500 && someS ps)
theorem pullsOk_no1 {n : Int} {ls : List Lb} {ps : List Int} (h : bodyOk n ls = false) : pullsOk n ls ps = false := by simp [pullsOk, h]
theorem pullsOk_no2 {n : Int} {ls : List Lb} {ps : List Int} (h : (ps.length : Int) ≠ n) : pullsOk n ls ps = false := by
  have : decide ((ps.length : Int) = n) = false := decide_eq_false h
  simp [pullsOk, this]
theorem pullsOk_no3 {n : Int} {ls : List Lb} {ps : List Int} (h : inAll ps (-1) 500 = false) : pullsOk n ls ps = false := by simp [pullsOk, h]
theorem pullsOk_in {n : Int} {ls : List Lb} {ps : List Int} (h : bodyOk n ls = true) (h2 : (ps.length : Int) = n) : pullsOk n ls ps = (inAll ps (-1) 500 && someS ps) := by
  have : decide ((ps.length : Int) = n) = true := decide_eq_true h2
  simp [pullsOk, h, this]
structure PullsFacts (n : Int) (ls : List Lb) (ps : List Int) : Prop where
  body : bodyOk n ls = true
  len : (ps.length : Int) = n
  rng : inAll ps (-1) 500 = true
  some_ : someS ps = true
theorem pullsFacts {n : Int} {ls : List Lb} {ps : List Int} (h : pullsOk n ls ps = true) : PullsFacts n ls ps := by
  simp only [pullsOk, Bool.and_eq_true, decide_eq_true_eq] at h
  exact ⟨h.1.1, h.1.2, h.2.1, h.2.2⟩

set_option maxHeartbeats 4000000 in
theorem spec_PullsOk {n : Int} {A B : Option Addr} {m c q d : Nat} {ls : List Lb} {ps : List Int} {w : World} (hr : Reads w 3 A m (lbs ls)) (hm : m ≤ 1048576) (hp : Reads w 1 B q (ints ps)) (hq : q ≤ 1048576) :
    Calls Try.prog 72 #[.agg #[.int .i64 n, .slice A m c], .slice B q d] w fun e w' => e = .returned (.bool (pullsOk n ls ps)) ∧ Below w.heap.size w w' := by
  have hlp := hp.len
  cases hb : bodyOk n ls with
  | false =>
    have E := Lib.hid hb
    have S := Lib.hid (pullsOk_no1 (ps := ps) hb)
    clear hb
    go_enter Try.func72, Try.ntmps72
    go_wp2_with fail
    refine (spec_BodyOk (hr.below (by go_grown)) hm).mono ?_
    rintro e w1 ⟨rfl, hb1⟩
    rw [E.out]
    go_wp2
    go_ret
    exact ⟨ret_bool S.out.symm, (by go_grown : Below w.heap.size w _).trans (hb1.mono (by simp))⟩
  | true =>
    obtain ⟨b1, b2, _, _⟩ := tree_of hb
    have hx := Row.new w 37 [.int .i64 n, .slice A m c]
    by_cases hn : (q : Int) = n
    rotate_left
    · have S := Lib.hid (pullsOk_no2 (n := n) (ls := ls) (ps := ps) (by omega))
      have e1 : ((q : Int) == n) = false := by simp; omega
      have e2 : ((q : Int) != n) = true := by simp; omega
      have E := Lib.hid hb
      clear hb hn
      go_enter Try.func72, Try.ntmps72
      go_wp2_with fail
      refine (spec_BodyOk (hr.below (by go_grown)) hm).mono ?_
      rintro e w1 ⟨rfl, hb1⟩
      rw [E.out]
      have q0 := (hx.below hb1).cell_ (i := 0) rfl
      go_wp2
      go_ret
      exact ⟨ret_bool S.out.symm, (by go_grown : Below w.heap.size w _).trans (hb1.mono (by simp))⟩
    subst hn
    have S := Lib.hid (pullsOk_in hb (ps := ps) (by omega))
    have E := Lib.hid hb
    clear hb
    go_enter Try.func72, Try.ntmps72
    go_wp2_with fail
    refine (spec_BodyOk (hr.below (by go_grown)) hm).mono ?_
    rintro e w1 ⟨rfl, hb1⟩
    rw [E.out]
    have q0 := (hx.below hb1).cell_ (i := 0) rfl
    have hB : Below w.heap.size w w1 := (by go_grown : Below w.heap.size w _).trans (hb1.mono (by simp))
    clear hb1 hx
    go_wp2
    clear q0
    go_loopw [5, 6] (fun v i wr => ∃ k : Nat, k ≤ q ∧ i = .int .i64 k ∧ v = .bool (someS (ps.take k)) ∧ InUpTo ps (-1) 500 k ∧ Below w.heap.size w wr) (fun _ i _ => q - (intOf i).toNat)
    case atStart => exact ⟨0, by omega, rfl, rfl, fun i x hi => absurd hi (by omega), hB⟩
    case round =>
      obtain ⟨k, hk, rfl, rfl, hu, hbel⟩ := hrel
      clear hB
      have HU := Lib.hid hu; clear hu
      by_cases hlt : k < q
      · obtain ⟨b, o, p, rfl, hbB, hpk, c0⟩ := (hp.below hbel).int hlt
        have hs := someS_snoc (ps.take k) p
        rw [← take_snoc hpk] at hs
        have HS := Lib.hid hs
        have HX := Lib.hid hpk
        clear hs hpk
        by_cases hin : -1 ≤ p ∧ p ≤ 500
        rotate_left
        · have I := Lib.hid (inAll_no (a := -1) (b := 500) HX.out (by omega))
          go_wp2_with (go_at_call 39; refine (l01In_f _ _ _ _ (by omega)).mono ?_; rintro e w' ⟨rfl, rfl⟩)
          go_ret
          exact ⟨ret_bool (by rw [S.out, I.out]; rfl), hbel⟩
        obtain ⟨i1, i2⟩ := hin
        have HN := Lib.hid (HU.out.next HX.out i1 i2)
        generalize hsk : someS (ps.take k) = sk at *
        cases sk
        all_goals
          clear hsk
          by_cases h0 : 0 ≤ p
          all_goals
            go_wp2_with (go_at_call 39; refine (l01In_t _ _ _ _ i1 i2).mono ?_; rintro e w' ⟨rfl, rfl⟩)
            go_roundw
            case rel => exact ⟨k + 1, by omega, by go_num, by rw [HS.out]; simp [h0], HN.out, hbel⟩
            case measure => simp [intOf]; omega
      · obtain rfl : k = q := by omega
        have I := Lib.hid (HU.out.all (by omega))
        rw [show ps.take k = ps by rw [List.take_of_length_le (by omega)]]
        go_wp2
        go_ret
        exact ⟨ret_bool (by rw [S.out, I.out]; simp), hbel⟩
end Go.Proofs.Ytcdachkaalkjlaa
