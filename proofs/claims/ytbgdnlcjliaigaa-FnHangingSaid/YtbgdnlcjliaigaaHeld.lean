/- Contracts of IsHeld of both sides; no condition beyond the slices' lengths. -/
import Derived.Test.YtbgdnlcjliaigaaPose
namespace Go.Proofs.Ytbgdnlcjliaigaa
open Go.ChangeShapes Go.WideShapes Go.ChangeAt Go.RowKit Go.Deep Go.Joins
set_option maxRecDepth 100000

def heldAtP (ps qs : List Int) (k : Nat) : Bool := match ps[k]?, qs[k]? with | some p, some h => decide (0 ≤ p → p ≤ h) | _, _ => true
def isHeld (n : Int) (ls : List Lb) (ps qs : List Int) : Bool := (pullsOk n ls ps && poseOk n ls qs) && (List.range ps.length).all (heldAtP ps qs)
theorem isHeld_no1 {n : Int} {ls : List Lb} {ps qs : List Int} (h : pullsOk n ls ps = false) : isHeld n ls ps qs = false := by simp [isHeld, h]
theorem isHeld_no2 {n : Int} {ls : List Lb} {ps qs : List Int} (h : poseOk n ls qs = false) : isHeld n ls ps qs = false := by simp [isHeld, h]
theorem isHeld_bad {n : Int} {ls : List Lb} {ps qs : List Int} {k : Nat} {p h : Int} (hp : ps[k]? = some p) (hq : qs[k]? = some h) (h0 : 0 ≤ p) (hlt : h < p) : isHeld n ls ps qs = false := by
  have h1 : heldAtP ps qs k = false := by
    simp only [heldAtP, hp, hq]
    exact decide_eq_false (by omega)
  have : (List.range ps.length).all (heldAtP ps qs) = false := by
    rw [Bool.eq_false_iff]
    intro ha
    rw [List.all_eq_true.1 ha k (List.mem_range.2 (List.getElem?_eq_some_iff.1 hp).1)] at h1
    cases h1
  simp [isHeld, this]
def HeldTo (ps qs : List Int) (k : Nat) : Prop := ∀ i p h, i < k → ps[i]? = some p → qs[i]? = some h → 0 ≤ p → p ≤ h
theorem HeldTo.zero (ps qs : List Int) : HeldTo ps qs 0 := fun i p h hi => absurd hi (by omega)
theorem HeldTo.next {ps qs : List Int} {k : Nat} {p h : Int} (H : HeldTo ps qs k) (hp : ps[k]? = some p) (hq : qs[k]? = some h) (hh : 0 ≤ p → p ≤ h) : HeldTo ps qs (k + 1) := by
  intro i a b hi ha hb
  rcases Nat.lt_or_ge i k with hlt | hge
  · exact H i a b hlt ha hb
  · obtain rfl : i = k := by omega
    rw [hp] at ha; rw [hq] at hb
    obtain rfl := Option.some.inj ha
    obtain rfl := Option.some.inj hb
    exact hh
theorem isHeld_yes {n : Int} {ls : List Lb} {ps qs : List Int} (h1 : pullsOk n ls ps = true) (h2 : poseOk n ls qs = true) (hk : HeldTo ps qs ps.length) : isHeld n ls ps qs = true := by
  have : (List.range ps.length).all (heldAtP ps qs) = true := by
    refine List.all_eq_true.2 fun k hk' => ?_
    unfold heldAtP
    split
    · rename_i p h hp hq
      exact decide_eq_true (hk k p h (List.mem_range.1 hk') hp hq)
    · rfl
  simp [isHeld, h1, h2, this]
theorem isHeld_facts {n : Int} {ls : List Lb} {ps qs : List Int} (h : isHeld n ls ps qs = true) : pullsOk n ls ps = true ∧ poseOk n ls qs = true ∧ HeldTo ps qs ps.length := by
  simp only [isHeld, Bool.and_eq_true] at h
  refine ⟨h.1.1, h.1.2, fun i p q hi hp hq => ?_⟩
  have := List.all_eq_true.1 h.2 i (List.mem_range.2 hi)
  simp only [heldAtP, hp, hq] at this
  exact of_decide_eq_true this

set_option maxHeartbeats 4000000 in
theorem impl_IsHeld {n : Int} {A B C : Option Addr} {m c q d r f : Nat} {ls : List Lb} {ps qs : List Int} {w : World} (hr : Reads w 3 A m (lbs ls)) (hm : m ≤ 1048576) (hp : Reads w 1 B q (ints ps)) (hq : q ≤ 1048576) (hs : Reads w 1 C r (ints qs)) (hrr : r ≤ 1048576) :
    Calls Try.prog 23 #[.agg #[.int .i64 n, .slice A m c], .slice B q d, .slice C r f] w fun e w' => e = .returned (.bool (isHeld n ls ps qs)) ∧ Below w.heap.size w w' := by
  have hlp := hp.len
  have hlq := hs.len
  have hx := Row.new w 30 [.int .i64 n, .slice A m c]
  have hg0 : Below w.heap.size w (w.alloc (.cells #[.int .i64 n, .slice A m c] 30)) := by go_grown
  cases hb : pullsOk n ls ps with
  | false =>
    have E := Lib.hid hb
    have S := Lib.hid (isHeld_no1 (qs := qs) hb)
    clear hb
    go_enter Try.func23, Try.ntmps23
    go_wp2_with fail
    refine (impl_PullsOk (hr.below hg0) hm (hp.below hg0) hq).mono ?_
    rintro e w1 ⟨rfl, hb1⟩
    rw [E.out]
    go_wp2
    go_ret
    exact ⟨ret_bool S.out.symm, hg0.trans (hb1.mono (by simp))⟩
  | true =>
    cases hb2 : poseOk n ls qs with
    | false =>
      have E := Lib.hid hb
      have F := Lib.hid hb2
      have S := Lib.hid (isHeld_no2 (ps := ps) hb2)
      clear hb hb2
      go_enter Try.func23, Try.ntmps23
      go_wp2_with fail
      refine (impl_PullsOk (hr.below hg0) hm (hp.below hg0) hq).mono ?_
      rintro e w1 ⟨rfl, hb1⟩
      rw [E.out]
      have q0 := (hx.below hb1).cell_ (i := 0) rfl
      have q1 := (hx.below hb1).cell_ (i := 1) rfl
      have hB := hg0.trans (hb1.mono (by simp))
      clear hb1 hx hg0
      go_wp2_with fail
      refine (impl_PoseOk (hr.below hB) hm (hs.below hB) hrr).mono ?_
      rintro e w2 ⟨rfl, hb2⟩
      rw [F.out]
      go_wp2
      go_ret
      exact ⟨ret_bool S.out.symm, hB.trans (hb2.mono hB.size)⟩
    | true =>
      obtain ⟨_, f2, f3, _⟩ := pullsFacts hb
      obtain ⟨_, f5, _, _⟩ := poseFacts hb2
      have I := Lib.hid f3
      have HY := Lib.hid (fun hk => isHeld_yes hb hb2 hk)
      have E := Lib.hid hb
      have F := Lib.hid hb2
      have hqr : q = r := by omega
      subst hqr
      clear hb hb2 f2 f3 f5
      go_enter Try.func23, Try.ntmps23
      go_wp2_with fail
      refine (impl_PullsOk (hr.below hg0) hm (hp.below hg0) hq).mono ?_
      rintro e w1 ⟨rfl, hb1⟩
      rw [E.out]
      have q0 := (hx.below hb1).cell_ (i := 0) rfl
      have q1 := (hx.below hb1).cell_ (i := 1) rfl
      have hB := hg0.trans (hb1.mono (by simp))
      clear hb1 hx hg0
      go_wp2_with fail
      refine (impl_PoseOk (hr.below hB) hm (hs.below hB) hrr).mono ?_
      rintro e w2 ⟨rfl, hb2⟩
      rw [F.out]
      have hB2 := hB.trans (hb2.mono hB.size)
      clear q0 q1 hb2 hB
      go_wp2
      go_loop [21] (fun i => ∃ k : Nat, k ≤ q ∧ i = .int .i64 k ∧ HeldTo ps qs k) (fun i => q - (intOf i).toNat)
      case atStart => exact ⟨0, by omega, rfl, HeldTo.zero _ _⟩
      case round =>
        obtain ⟨k, hk, rfl, hu⟩ := hrel
        have HU := Lib.hid hu; clear hu
        by_cases hlt : k < q
        · obtain ⟨b, o, p, rfl, hbB, hpk, c0⟩ := (hp.below hB2).int hlt
          obtain ⟨b', o', h, rfl, hbB', hhk, c1⟩ := (hs.below hB2).int hlt
          obtain ⟨p1, p2⟩ := inAll_at I.out hpk
          have HP := Lib.hid hpk
          have HH := Lib.hid hhk
          clear hpk hhk
          have lk : (k : Int) < (q : Int) := by omega
          by_cases hpm : p = -1
          · have e1 : (p == -1) = true := by simp [hpm]
            have e2 : (p != -1) = false := by simp [hpm]
            have HN := Lib.hid (HU.out.next HP.out HH.out (by omega))
            clear hpm
            go_wp2
            go_round
            case rel => exact ⟨k + 1, by omega, by go_num, HN.out⟩
            case measure => simp [intOf]; omega
          · have e1 : (p == -1) = false := by simp [hpm]
            have e2 : (p != -1) = true := by simp [hpm]
            clear hpm
            by_cases hhp : h < p
            · have S := Lib.hid (isHeld_bad (n := n) (ls := ls) HP.out HH.out (by simp at e2; omega) hhp)
              go_wp2
              go_ret
              exact ⟨ret_bool S.out.symm, hB2⟩
            · have HN := Lib.hid (HU.out.next HP.out HH.out (by omega))
              go_wp2
              go_round
              case rel => exact ⟨k + 1, by omega, by go_num, HN.out⟩
              case measure => simp [intOf]; omega
        · obtain rfl : k = q := by omega
          have S := Lib.hid (HY.out (by rw [hlp]; exact HU.out))
          go_wp2
          go_ret
          exact ⟨ret_bool S.out.symm, hB2⟩

set_option maxHeartbeats 4000000 in
theorem spec_IsHeld {n : Int} {A B C : Option Addr} {m c q d r f : Nat} {ls : List Lb} {ps qs : List Int} {w : World} (hr : Reads w 3 A m (lbs ls)) (hm : m ≤ 1048576) (hp : Reads w 1 B q (ints ps)) (hq : q ≤ 1048576) (hs : Reads w 1 C r (ints qs)) (hrr : r ≤ 1048576) :
    Calls Try.prog 22 #[.agg #[.int .i64 n, .slice A m c], .slice B q d, .slice C r f] w fun e w' => e = .returned (.bool (isHeld n ls ps qs)) ∧ Below w.heap.size w w' := by
  have hlp := hp.len
  have hlq := hs.len
  have hx := Row.new w 30 [.int .i64 n, .slice A m c]
  have hg0 : Below w.heap.size w (w.alloc (.cells #[.int .i64 n, .slice A m c] 30)) := by go_grown
  cases hb : pullsOk n ls ps with
  | false =>
    have E := Lib.hid hb
    have S := Lib.hid (isHeld_no1 (qs := qs) hb)
    clear hb
    go_enter Try.func22, Try.ntmps22
    go_wp2_with fail
    refine (spec_PullsOk (hr.below hg0) hm (hp.below hg0) hq).mono ?_
    rintro e w1 ⟨rfl, hb1⟩
    rw [E.out]
    go_wp2
    go_ret
    exact ⟨ret_bool S.out.symm, hg0.trans (hb1.mono (by simp))⟩
  | true =>
    cases hb2 : poseOk n ls qs with
    | false =>
      have E := Lib.hid hb
      have F := Lib.hid hb2
      have S := Lib.hid (isHeld_no2 (ps := ps) hb2)
      clear hb hb2
      go_enter Try.func22, Try.ntmps22
      go_wp2_with fail
      refine (spec_PullsOk (hr.below hg0) hm (hp.below hg0) hq).mono ?_
      rintro e w1 ⟨rfl, hb1⟩
      rw [E.out]
      have q0 := (hx.below hb1).cell_ (i := 0) rfl
      have q1 := (hx.below hb1).cell_ (i := 1) rfl
      have hB := hg0.trans (hb1.mono (by simp))
      clear hb1 hx hg0
      go_wp2_with fail
      refine (spec_PoseOk (hr.below hB) hm (hs.below hB) hrr).mono ?_
      rintro e w2 ⟨rfl, hb2⟩
      rw [F.out]
      go_wp2
      go_ret
      exact ⟨ret_bool S.out.symm, hB.trans (hb2.mono hB.size)⟩
    | true =>
      obtain ⟨_, f2, f3, _⟩ := pullsFacts hb
      obtain ⟨_, f5, _, _⟩ := poseFacts hb2
      have I := Lib.hid f3
      have HY := Lib.hid (fun hk => isHeld_yes hb hb2 hk)
      have E := Lib.hid hb
      have F := Lib.hid hb2
      obtain rfl : q = r := by omega
      obtain rfl : (q : Int) = n := by omega
      clear hb hb2 f2 f3 f5
      go_enter Try.func22, Try.ntmps22
      go_wp2_with fail
      refine (spec_PullsOk (hr.below hg0) hm (hp.below hg0) hq).mono ?_
      rintro e w1 ⟨rfl, hb1⟩
      rw [E.out]
      have hx1 := hx.below hb1
      have q0 := hx1.cell_ (i := 0) rfl
      have q1 := hx1.cell_ (i := 1) rfl
      have hB := hg0.trans (hb1.mono (by simp))
      clear hb1 hx hg0
      go_wp2_with fail
      refine (spec_PoseOk (hr.below hB) hm (hs.below hB) hrr).mono ?_
      rintro e w2 ⟨rfl, hb2⟩
      rw [F.out]
      have hB2 := hB.trans (hb2.mono hB.size)
      have hx2 := hx1.below hb2
      clear q0 q1 hb2 hB hx1
      go_wp2
      go_loopw [7] (fun i wr => ∃ k t : Nat, k ≤ q ∧ i = .int .i64 k ∧ wr = w2.drewN t ∧ HeldTo ps qs k) (fun i _ => q - (intOf i).toNat)
      case atStart => exact ⟨0, 0, by omega, rfl, rfl, HeldTo.zero _ _⟩
      case round =>
        obtain ⟨k, t, hk, rfl, rfl, hu⟩ := hrel
        have q0 := hx2.cell_ (i := 0) rfl
        have HU := Lib.hid hu; clear hu
        by_cases hlt : k < q
        · obtain ⟨b, o, p, rfl, hbB, hpk, c0⟩ := (hp.below hB2).int hlt
          obtain ⟨b', o', h, rfl, hbB', hhk, c1⟩ := (hs.below hB2).int hlt
          obtain ⟨p1, p2⟩ := inAll_at I.out hpk
          have HP := Lib.hid hpk
          have HH := Lib.hid hhk
          clear hpk hhk
          have lk : (k : Int) < (q : Int) := by omega
          by_cases hhp : h < p
          · by_cases hp0 : 0 ≤ p
            · have S := Lib.hid (isHeld_bad (n := (q : Int)) (ls := ls) HP.out HH.out hp0 hhp)
              go_wp2
              clear q0
              go_quiet (fail)
              go_wp2
              go_ret
              exact ⟨ret_bool S.out.symm, below_drewN (below_drewN hB2 _) _⟩
            · have HN := Lib.hid (HU.out.next HP.out HH.out (by omega))
              go_wp2
              clear q0
              go_quiet (fail)
              go_wp2
              go_roundw
              case rel => exact ⟨k + 1, _, by omega, by go_num, rfl, HN.out⟩
              case measure => simp [intOf]; omega
          · have HN := Lib.hid (HU.out.next HP.out HH.out (by omega))
            have hd : decide (h < p) = false := by simpa using hhp
            go_wp2
            clear q0
            go_quiet (fail)
            go_wp2
            go_roundw
            case rel => exact ⟨k + 1, _, by omega, by go_num, rfl, HN.out⟩
            case measure => simp [intOf]; omega
        · obtain rfl : k = q := by omega
          have S := Lib.hid (HY.out (by rw [hlp]; exact HU.out))
          go_wp2
          go_ret
          exact ⟨ret_bool S.out.symm, below_drewN hB2 _⟩
end Go.Proofs.Ytbgdnlcjliaigaa
