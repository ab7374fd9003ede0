/- Contracts of PoseOk and IsHeld of both sides; no condition beyond the slices' lengths. -/
import Derived.Test.YtcdachkaalkjlaaPulls
import Derived.Test.YtcdachkaalkjlaaStep
namespace Go.Proofs.Ytcdachkaalkjlaa
open Go.ChangeShapes Go.WideShapes Go.ChangeAt Go.RowKit Go.Deep Go.Joins
set_option maxRecDepth 100000

theorem limb_at {N : Nat} {ls : List Lb} (ok : ∀ x ∈ ls, okLb N x) {k : Nat} {x : Lb} (hx : ls[k]? = some x) :
    x.a = (x.p : Int) ∧ x.b = (x.q : Int) ∧ x.p < N ∧ x.q < N ∧ 1 ≤ x.l ∧ x.l ≤ 100 := by
  have h := ok x (List.mem_of_getElem? hx)
  refine ⟨?_, ?_, h.p_lt, h.q_lt, h.l1.1, h.l1.2⟩
  · unfold okLb at h; unfold Lb.p; omega
  · unfold okLb at h; unfold Lb.q; omega
def stepLb (qs : List Int) (x : Lb) : Bool := match qs[x.p]?, qs[x.q]? with | some u, some v => decide (-x.l ≤ u - v ∧ u - v ≤ x.l) | _, _ => false
theorem stepLb_at {qs : List Int} {x : Lb} {u v : Int} (hu : qs[x.p]? = some u) (hv : qs[x.q]? = some v) : stepLb qs x = decide (-x.l ≤ u - v ∧ u - v ≤ x.l) := by simp [stepLb, hu, hv]
def poseOk (n : Int) (ls : List Lb) (qs : List Int) : Bool := (bodyOk n ls && decide ((qs.length : Int) = n)) && (inAll qs (-2000) 2000 && ls.all (stepLb qs))
theorem poseOk_no1 {n : Int} {ls : List Lb} {qs : List Int} (h : bodyOk n ls = false) : poseOk n ls qs = false := by simp [poseOk, h]
theorem poseOk_no2 {n : Int} {ls : List Lb} {qs : List Int} (h : (qs.length : Int) ≠ n) : poseOk n ls qs = false := by
  have : decide ((qs.length : Int) = n) = false := decide_eq_false h
  simp [poseOk, this]
theorem poseOk_no3 {n : Int} {ls : List Lb} {qs : List Int} (h : inAll qs (-2000) 2000 = false) : poseOk n ls qs = false := by simp [poseOk, h]
theorem poseOk_bad {n : Int} {ls : List Lb} {qs : List Int} {x : Lb} (hx : x ∈ ls) (h : stepLb qs x = false) : poseOk n ls qs = false := by
  have : ls.all (stepLb qs) = false := by
    rw [Bool.eq_false_iff]
    intro ha
    rw [List.all_eq_true.1 ha x hx] at h
    cases h
  simp [poseOk, this]
theorem poseOk_yes {n : Int} {ls : List Lb} {qs : List Int} (h : bodyOk n ls = true) (h2 : (qs.length : Int) = n) (hin : inAll qs (-2000) 2000 = true) (hall : ∀ x ∈ ls, stepLb qs x = true) : poseOk n ls qs = true := by
  have h3 : ls.all (stepLb qs) = true := List.all_eq_true.2 hall
  have : decide ((qs.length : Int) = n) = true := decide_eq_true h2
  simp only [poseOk, h, this, hin, h3, Bool.and_true]
structure PoseFacts (n : Int) (ls : List Lb) (qs : List Int) : Prop where
  body : bodyOk n ls = true
  len : (qs.length : Int) = n
  rng : inAll qs (-2000) 2000 = true
  all : ∀ x ∈ ls, stepLb qs x = true
theorem poseFacts {n : Int} {ls : List Lb} {qs : List Int} (h : poseOk n ls qs = true) : PoseFacts n ls qs := by
  simp only [poseOk, Bool.and_eq_true, decide_eq_true_eq] at h
  exact ⟨h.1.1, h.1.2, h.2.1, List.all_eq_true.1 h.2.2⟩
theorem all_next {qs : List Int} {ls : List Lb} {k : Nat} {x : Lb} (h : ∀ y ∈ ls.take k, stepLb qs y = true) (hx : ls[k]? = some x) (hs : stepLb qs x = true) : ∀ y ∈ ls.take (k + 1), stepLb qs y = true := by
  intro y hy
  rw [take_snoc hx] at hy
  rcases List.mem_append.1 hy with hy | hy
  · exact h y hy
  · simp at hy; subst hy; exact hs

set_option maxHeartbeats 4000000 in
theorem impl_PoseOk {n : Int} {A B : Option Addr} {m c q d : Nat} {ls : List Lb} {qs : List Int} {w : World} (hr : Reads w 3 A m (lbs ls)) (hm : m ≤ 1048576) (hp : Reads w 1 B q (ints qs)) (hq : q ≤ 1048576) :
    Calls Try.prog 52 #[.agg #[.int .i64 n, .slice A m c], .slice B q d] w fun e w' => e = .returned (.bool (poseOk n ls qs)) ∧ Below w.heap.size w w' := by
  have hlp := hp.len
  have hlen : ls.length = m := by have := hr.1; rw [lbs_length] at this; omega
  cases hb : bodyOk n ls with
  | false =>
    have E := Lib.hid hb
    have S := Lib.hid (poseOk_no1 (qs := qs) hb)
    clear hb
    go_enter Try.func52, Try.ntmps52
    go_wp2_with fail
    refine (impl_BodyOk (hr.below (by go_grown)) hm).mono ?_
    rintro e w1 ⟨rfl, hb1⟩
    rw [E.out]
    go_wp2
    go_ret
    exact ⟨ret_bool S.out.symm, (by go_grown : Below w.heap.size w _).trans (hb1.mono (by simp))⟩
  | true =>
    obtain ⟨b1, b2, b3, t⟩ := tree_of hb
    have OK := Lib.hid t.ok
    clear t
    have hx := Row.new w 37 [.int .i64 n, .slice A m c]
    by_cases hn : (q : Int) = n
    rotate_left
    · have S := Lib.hid (poseOk_no2 (n := n) (ls := ls) (qs := qs) (by omega))
      have e1 : ((q : Int) == n) = false := by simp; omega
      have e2 : ((q : Int) != n) = true := by simp; omega
      have E := Lib.hid hb
      clear hb hn
      go_enter Try.func52, Try.ntmps52
      go_wp2_with fail
      refine (impl_BodyOk (hr.below (by go_grown)) hm).mono ?_
      rintro e w1 ⟨rfl, hb1⟩
      rw [E.out]
      have q0 := (hx.below hb1).cell_ (i := 0) rfl
      go_wp2
      go_ret
      exact ⟨ret_bool S.out.symm, (by go_grown : Below w.heap.size w _).trans (hb1.mono (by simp))⟩
    subst hn
    have E := Lib.hid hb
    clear hb
    rw [Int.toNat_natCast] at OK
    cases hin : inAll qs (-2000) 2000 with
    | false =>
      have I := Lib.hid hin
      have S := Lib.hid (poseOk_no3 (n := (q : Int)) (ls := ls) hin)
      clear hin
      go_enter Try.func52, Try.ntmps52
      go_wp2_with fail
      refine (impl_BodyOk (hr.below (by go_grown)) hm).mono ?_
      rintro e w1 ⟨rfl, hb1⟩
      rw [E.out]
      have q0 := (hx.below hb1).cell_ (i := 0) rfl
      have hB : Below w.heap.size w w1 := (by go_grown : Below w.heap.size w _).trans (hb1.mono (by simp))
      clear hb1 hx
      go_wp2_with fail
      refine (impl_allWithin (hp.below hB) hq).mono ?_
      rintro e w2 ⟨rfl, rfl⟩
      rw [I.out]
      go_wp2
      go_ret
      exact ⟨ret_bool S.out.symm, hB⟩
    | true =>
      have I := Lib.hid hin
      clear hin
      go_enter Try.func52, Try.ntmps52
      go_wp2_with fail
      refine (impl_BodyOk (hr.below (by go_grown)) hm).mono ?_
      rintro e w1 ⟨rfl, hb1⟩
      rw [E.out]
      have q0 := (hx.below hb1).cell_ (i := 0) rfl
      have q1 := (hx.below hb1).cell_ (i := 1) rfl
      have hB : Below w.heap.size w w1 := (by go_grown : Below w.heap.size w _).trans (hb1.mono (by simp))
      clear hb1 hx
      go_wp2_with fail
      refine (impl_allWithin (hp.below hB) hq).mono ?_
      rintro e w2 ⟨rfl, rfl⟩
      rw [I.out]
      go_wp2
      clear q0 q1
      go_loopw [25] (fun i wr => ∃ k : Nat, k ≤ m ∧ i = .int .i64 k ∧ (∀ y ∈ ls.take k, stepLb qs y = true) ∧ Below w.heap.size w wr) (fun i _ => m - (intOf i).toNat)
      case atStart => exact ⟨0, by omega, rfl, by simp, hB⟩
      case round =>
        obtain ⟨k, hk, rfl, hall, hbel⟩ := hrel
        have HA := Lib.hid hall
        clear hall hB
        by_cases hlt : k < m
        · obtain ⟨b, o, x, rfl, hbB, hxk, c0, c1, c2⟩ := (hr.below hbel).lb hlt
          obtain ⟨xa, xb, xp, xq, xl1, xl2⟩ := limb_at OK.out hxk
          rw [xa] at c0
          rw [xb] at c1
          obtain ⟨b', o', u, rfl, hbB', hu, d0⟩ := (hp.below hbel).int xp
          obtain ⟨b'', o'', v, e', hbB'', hv, d1⟩ := (hp.below hbel).int xq
          injection e' with e'
          injection e' with e1 e2
          subst e1 e2
          obtain ⟨u1, u2⟩ := inAll_at I.out hu
          obtain ⟨v1, v2⟩ := inAll_at I.out hv
          have HS := Lib.hid (stepLb_at hu hv)
          have HX := Lib.hid hxk
          have wr1 : IntKind.i64.wrap (u - v) = u - v := IntWalk.i64_in _ (by omega)
          have l1 : (x.p : Int) < (q : Int) := by omega
          have l2 : (x.q : Int) < (q : Int) := by omega
          have hW : Below w.heap.size w (wr.alloc (.cells #[.int .i64 (x.p : Int), .int .i64 (x.q : Int), .int .i64 x.l] 68)) := hbel.alloc hbel.size _
          have hbx := Row.new wr 68 [.int .i64 (x.p : Int), .int .i64 (x.q : Int), .int .i64 x.l]
          have f0 := keep_cell (by go_grown : Below wr.heap.size wr (wr.alloc (.cells #[.int .i64 (x.p : Int), .int .i64 (x.q : Int), .int .i64 x.l] 68))) d0
          have f1 := keep_cell (by go_grown : Below wr.heap.size wr (wr.alloc (.cells #[.int .i64 (x.p : Int), .int .i64 (x.q : Int), .int .i64 x.l] 68))) d1
          have q0 := hbx.cell_ (i := 0) rfl
          have q1 := hbx.cell_ (i := 1) rfl
          have q2 := hbx.cell_ (i := 2) rfl
          obtain ⟨M, hM⟩ : ∃ M : Int, M = max (u - v) (-(u - v)) := ⟨_, rfl⟩
          have HSZ : ∀ W : World, Calls Try.prog 41 #[.int .i64 (u - v)] W fun e w' => e = .returned (.int .i64 M) ∧ W = w' := fun W => by rw [hM]; exact impl_size (n := u - v) (by omega) (by omega)
          have HM := Lib.hid hM
          clear hxk hu hv xa xb d0 d1 hbx hM
          by_cases hMl : x.l < M
          · have SX := Lib.hid (poseOk_bad (n := (q : Int)) (List.mem_of_getElem? HX.out) (by rw [HS.out]; exact decide_eq_false (by have := HM.out; omega)))
            go_wp2
            clear c0 c1 c2
            generalize wr.alloc (.cells #[.int .i64 (x.p : Int), .int .i64 (x.q : Int), .int .i64 x.l] 68) = W0 at *
            go_quiet ((go_at_call 41; refine quiet_at (HSZ _) ⟨_, rfl⟩))
            go_wp2
            go_ret
            exact ⟨ret_bool SX.out.symm, below_drewN hW _⟩
          · have SX := Lib.hid (all_next HA.out HX.out (by rw [HS.out]; exact decide_eq_true (by have := HM.out; omega)))
            go_wp2
            clear c0 c1 c2
            generalize wr.alloc (.cells #[.int .i64 (x.p : Int), .int .i64 (x.q : Int), .int .i64 x.l] 68) = W0 at *
            go_quiet ((go_at_call 41; refine quiet_at (HSZ _) ⟨_, rfl⟩))
            go_wp2
            go_roundw
            case rel => exact ⟨k + 1, by omega, by go_num, SX.out, below_drewN hW _⟩
            case measure => simp [intOf]; omega
        · obtain rfl : k = m := by omega
          have S := Lib.hid (poseOk_yes E.out (by omega) I.out (by have := HA.out; rwa [List.take_of_length_le (by omega)] at this))
          go_wp2
          go_ret
          exact ⟨ret_bool S.out.symm, hbel⟩

set_option maxHeartbeats 4000000 in
theorem spec_PoseOk {n : Int} {A B : Option Addr} {m c q d : Nat} {ls : List Lb} {qs : List Int} {w : World} (hr : Reads w 3 A m (lbs ls)) (hm : m ≤ 1048576) (hp : Reads w 1 B q (ints qs)) (hq : q ≤ 1048576) :
    Calls Try.prog 37 #[.agg #[.int .i64 n, .slice A m c], .slice B q d] w fun e w' => e = .returned (.bool (poseOk n ls qs)) ∧ Below w.heap.size w w' := by
  have hlp := hp.len
  have hlen : ls.length = m := by have := hr.1; rw [lbs_length] at this; omega
  cases hb : bodyOk n ls with
  | false =>
    have E := Lib.hid hb
    have S := Lib.hid (poseOk_no1 (qs := qs) hb)
    clear hb
    go_enter Try.func37, Try.ntmps37
    go_wp2_with fail
    refine (spec_BodyOk (hr.below (by go_grown)) hm).mono ?_
    rintro e w1 ⟨rfl, hb1⟩
    rw [E.out]
    go_wp2
    go_ret
    exact ⟨ret_bool S.out.symm, (by go_grown : Below w.heap.size w _).trans (hb1.mono (by simp))⟩
  | true =>
    obtain ⟨b1, b2, b3, t⟩ := tree_of hb
    have OK := Lib.hid t.ok
    clear t
    have hx := Row.new w 37 [.int .i64 n, .slice A m c]
    by_cases hn : (q : Int) = n
    rotate_left
    · have S := Lib.hid (poseOk_no2 (n := n) (ls := ls) (qs := qs) (by omega))
      have e1 : ((q : Int) == n) = false := by simp; omega
      have e2 : ((q : Int) != n) = true := by simp; omega
      have E := Lib.hid hb
      clear hb hn
      go_enter Try.func37, Try.ntmps37
      go_wp2_with fail
      refine (spec_BodyOk (hr.below (by go_grown)) hm).mono ?_
      rintro e w1 ⟨rfl, hb1⟩
      rw [E.out]
      have q0 := (hx.below hb1).cell_ (i := 0) rfl
      go_wp2
      go_ret
      exact ⟨ret_bool S.out.symm, (by go_grown : Below w.heap.size w _).trans (hb1.mono (by simp))⟩
    subst hn
    have E := Lib.hid hb
    clear hb
    rw [Int.toNat_natCast] at OK
    go_enter Try.func37, Try.ntmps37
    go_wp2_with fail
    refine (spec_BodyOk (hr.below (by go_grown)) hm).mono ?_
    rintro e w1 ⟨rfl, hb1⟩
    rw [E.out]
    have q0 := (hx.below hb1).cell_ (i := 0) rfl
    have hx1 := hx.below hb1
    have hB : Below w.heap.size w w1 := (by go_grown : Below w.heap.size w _).trans (hb1.mono (by simp))
    clear hb1 hx
    go_wp2
    clear q0
    go_loop [5] (fun i => ∃ k : Nat, k ≤ q ∧ i = .int .i64 k ∧ InUpTo qs (-2000) 2000 k) (fun i => q - (intOf i).toNat)
    case atStart => exact ⟨0, by omega, rfl, fun i x hi => absurd hi (by omega)⟩
    case round =>
      obtain ⟨k, hk, rfl, hu⟩ := hrel
      have HU := Lib.hid hu; clear hu
      by_cases hlt : k < q
      · obtain ⟨b, o, p, rfl, hbB, hpk, c0⟩ := (hp.below hB).int hlt
        have HX := Lib.hid hpk
        clear hpk
        by_cases hin : -2000 ≤ p ∧ p ≤ 2000
        rotate_left
        · have S := Lib.hid (poseOk_no3 (n := (q : Int)) (ls := ls) (inAll_no (a := -2000) (b := 2000) HX.out (by omega)))
          go_wp2_with (go_at_call 39; refine (l01In_f _ _ _ _ (by omega)).mono ?_; rintro e w' ⟨rfl, rfl⟩)
          go_ret
          exact ⟨ret_bool S.out.symm, hB⟩
        obtain ⟨i1, i2⟩ := hin
        have HN := Lib.hid (HU.out.next HX.out i1 i2)
        go_wp2_with (go_at_call 39; refine (l01In_t _ _ _ _ i1 i2).mono ?_; rintro e w' ⟨rfl, rfl⟩)
        go_round
        case rel => exact ⟨k + 1, by omega, by go_num, HN.out⟩
        case measure => simp [intOf]; omega
      · obtain rfl : k = q := by omega
        have I := Lib.hid (HU.out.all (by omega))
        go_wp2
        go_loopw [6] (fun i wr => ∃ j : Nat, j ≤ m ∧ i = .int .i64 j ∧ (∀ y ∈ ls.take j, stepLb qs y = true) ∧ Row wr w.heap.size 37 [.int .i64 (k : Int), .slice A m c] ∧ Below w.heap.size w wr) (fun i _ => m - (intOf i).toNat)
        case atStart => exact ⟨0, by omega, rfl, by simp, hx1, hB⟩
        case round =>
          clear hx1 hB
          obtain ⟨j, hj, rfl, hall, hbx, hbel⟩ := hrel
          have HA := Lib.hid hall
          clear hall
          have q1 := hbx.cell_ (i := 1) rfl
          by_cases hlt : j < m
          · obtain ⟨b, o, x, rfl, hbB, hxk, c0, c1, c2⟩ := (hr.below hbel).lb hlt
            obtain ⟨xa, xb, xp, xq, xl1, xl2⟩ := limb_at OK.out hxk
            rw [xa] at c0
            rw [xb] at c1
            obtain ⟨b', o', u, rfl, hbB', hu, d0⟩ := (hp.below hbel).int xp
            obtain ⟨b'', o'', v, e', hbB'', hv, d1⟩ := (hp.below hbel).int xq
            injection e' with e'
            injection e' with e1 e2
            subst e1 e2
            obtain ⟨u1, u2⟩ := inAll_at I.out hu
            obtain ⟨v1, v2⟩ := inAll_at I.out hv
            have HS := Lib.hid (stepLb_at hu hv)
            have HX := Lib.hid hxk
            have HT := Lib.hid (hbx.alloc (.cells #[.int .i64 (x.p : Int), .int .i64 (x.q : Int), .int .i64 x.l] 68))
            have wr1 : IntKind.i64.wrap (u - v) = u - v := IntWalk.i64_in _ (by omega)
            have wr2 : IntKind.i64.wrap (-x.l) = -x.l := IntWalk.i64_in _ (by omega)
            have l1 : (x.p : Int) < (k : Int) := by omega
            have l2 : (x.q : Int) < (k : Int) := by omega
            have hW : Below w.heap.size w (wr.alloc (.cells #[.int .i64 (x.p : Int), .int .i64 (x.q : Int), .int .i64 x.l] 68)) := hbel.alloc hbel.size _
            have hbx2 := Row.new wr 68 [.int .i64 (x.p : Int), .int .i64 (x.q : Int), .int .i64 x.l]
            have f0 := keep_cell (by go_grown : Below wr.heap.size wr (wr.alloc (.cells #[.int .i64 (x.p : Int), .int .i64 (x.q : Int), .int .i64 x.l] 68))) d0
            have f1 := keep_cell (by go_grown : Below wr.heap.size wr (wr.alloc (.cells #[.int .i64 (x.p : Int), .int .i64 (x.q : Int), .int .i64 x.l] 68))) d1
            have q0 := hbx2.cell_ (i := 0) rfl
            have q11 := hbx2.cell_ (i := 1) rfl
            have q2 := hbx2.cell_ (i := 2) rfl
            clear hxk hu hv xa xb d0 d1 hbx hbx2
            by_cases hst : -x.l ≤ u - v ∧ u - v ≤ x.l
            · obtain ⟨s1, s2⟩ := hst
              have SX := Lib.hid (all_next HA.out HX.out (by rw [HS.out]; exact decide_eq_true ⟨s1, s2⟩))
              go_wp2
              clear c0 c1 c2 q1
              generalize wr.alloc (.cells #[.int .i64 (x.p : Int), .int .i64 (x.q : Int), .int .i64 x.l] 68) = W0 at *
              go_quiet ((go_at_call 39; refine quiet_at (l01In_t _ _ _ _ s1 s2) ⟨_, rfl⟩))
              go_wp2
              go_roundw
              case rel => exact ⟨j + 1, by omega, by go_num, SX.out, HT.out.drewN _, below_drewN hW _⟩
              case measure => simp [intOf]; omega
            · have s1 : u - v < -x.l ∨ x.l < u - v := by omega
              have SX := Lib.hid (poseOk_bad (n := (k : Int)) (List.mem_of_getElem? HX.out) (by rw [HS.out]; exact decide_eq_false hst))
              clear hst
              go_wp2
              clear c0 c1 c2 q1
              generalize wr.alloc (.cells #[.int .i64 (x.p : Int), .int .i64 (x.q : Int), .int .i64 x.l] 68) = W0 at *
              go_quiet ((go_at_call 39; refine quiet_at (l01In_f _ _ _ _ s1) ⟨_, rfl⟩))
              go_wp2
              go_ret
              exact ⟨ret_bool SX.out.symm, below_drewN hW _⟩
          · obtain rfl : j = m := by omega
            have S := Lib.hid (poseOk_yes E.out (by omega) I.out (by have := HA.out; rwa [List.take_of_length_le (by omega)] at this))
            go_wp2
            go_ret
            exact ⟨ret_bool S.out.symm, hbel⟩
end Go.Proofs.Ytcdachkaalkjlaa
