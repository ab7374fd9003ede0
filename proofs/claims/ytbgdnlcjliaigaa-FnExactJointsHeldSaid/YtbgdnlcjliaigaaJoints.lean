/- Contracts of JointsHeld of both sides; no condition beyond the slices' lengths. -/
import Derived.Test.YtbgdnlcjliaigaaLimb
import Derived.Test.YtbgdnlcjliaigaaKit2
namespace Go.Proofs.Ytbgdnlcjliaigaa
open Go.ChangeShapes Go.WideShapes Go.ChangeAt Go.RowKit Go.Deep Go.Joins
set_option maxRecDepth 100000

def heldAt (cs : List Lb) (j : Nat) : Bool := cs.any fun x => decide (x.b = (j : Int))
theorem heldAt_snoc (cs : List Lb) (x : Lb) (j : Nat) : heldAt (cs ++ [x]) j = (heldAt cs j || decide (x.b = (j : Int))) := by simp [heldAt]
theorem heldAt_no {cs : List Lb} {j : Nat} (h : ∀ y ∈ cs, y.b ≠ (j : Int)) : heldAt cs j = false := by
  simp only [heldAt, List.any_eq_false, decide_eq_true_eq]
  exact h
theorem heldAt_yes {cs : List Lb} {j k : Nat} {x : Lb} (hx : cs[k]? = some x) (h : x.b = (j : Int)) : heldAt cs j = true := by
  simp only [heldAt, List.any_eq_true, decide_eq_true_eq]
  exact ⟨x, List.mem_of_getElem? hx, h⟩
def heldJ (cs : List Lb) (k : Nat) : List Int := ((List.range k).filter (heldAt cs)).map fun j : Nat => (j : Int)
theorem heldJ_yes {cs : List Lb} {k : Nat} (h : heldAt cs k = true) : heldJ cs (k + 1) = heldJ cs k ++ [(k : Int)] := by simp [heldJ, List.range_succ, h]
theorem heldJ_no {cs : List Lb} {k : Nat} (h : heldAt cs k = false) : heldJ cs (k + 1) = heldJ cs k := by simp [heldJ, List.range_succ, h]
theorem info_intj : (Try.prog.info? 3).map (fun i => (i.zero, i.size, i.bytes)) = some (some (.int .i64 0), 1, 8) := by kernel_rfl

set_option maxHeartbeats 4000000 in
theorem impl_JointsHeld {h : Int} {A B : Option Addr} {m c q d : Nat} {cs : List Lb} {w : World} (hr : Reads w 3 B q (lbs cs)) (hq : q ≤ 1048576) :
    Calls Try.prog 42 #[.agg #[.int .i64 h, .slice A m c, .slice B q d]] w fun e w' => ∃ A' n' c', e = .returned (.slice A' n' c') ∧ w'.ownsRow w.heap.size 3 1 (.slice A' n' c') n' (ints (heldJ cs 12)) ∧ n' ≤ 1048576 ∧ Below w.heap.size w w' := by
  have hlen : cs.length = q := by have := hr.1; rw [lbs_length] at this; omega
  have hx := (Row.new w 54 [.int .i64 h, .slice A m c, .slice B q d]).alloc (.cells #[] 3)
  have ho : ((w.alloc (.cells #[.int .i64 h, .slice A m c, .slice B q d] 54)).alloc (.cells #[] 3)).ownsRow (w.heap.size + 1) 3 1 (.slice (some ⟨w.heap.size + 1, 0, none⟩) 0 0) 0 [] := by simpa using own_empty (w.alloc (.cells #[.int .i64 h, .slice A m c, .slice B q d] 54)) 3 1
  have hg0 : Below w.heap.size w ((w.alloc (.cells #[.int .i64 h, .slice A m c, .slice B q d] 54)).alloc (.cells #[] 3)) := by go_grown
  obtain ⟨i0, hi, hz0, hz1, hz2⟩ := info_parts info_intj
  go_enter Try.func42, Try.ntmps42
  go_wp2
  go_loopw [3, 8] (fun v i wr => ∃ (j : Nat) (A' : Option Addr) (n' c' : Nat), j ≤ 12 ∧ i = .int .i64 j ∧ v = .slice A' n' c' ∧ n' ≤ j ∧ wr.ownsRow (w.heap.size + 1) 3 1 (.slice A' n' c') n' (ints (heldJ cs j)) ∧ Row wr w.heap.size 54 [.int .i64 h, .slice A m c, .slice B q d] ∧ Below w.heap.size w wr) (fun _ i _ => 12 - (intOf i).toNat)
  case atStart => exact ⟨0, _, 0, 0, by omega, rfl, rfl, by omega, ho, hx, hg0⟩
  case round =>
    obtain ⟨j, A', n', c', hj, rfl, rfl, hn', hown, hbx, hbel⟩ := hrel
    clear hx ho hg0
    have q0 := hbx.cell_ (i := 2) rfl
    by_cases hlt : j < 12
    · go_wp2
      clear q0
      go_loopw [3, 14] (fun v i wr => ∃ t : Nat, t ≤ q ∧ i = .int .i64 t ∧ v = .slice A' n' c' ∧ (∀ y ∈ cs.take t, y.b ≠ (j : Int)) ∧ wr.ownsRow (w.heap.size + 1) 3 1 (.slice A' n' c') n' (ints (heldJ cs j)) ∧ Row wr w.heap.size 54 [.int .i64 h, .slice A m c, .slice B q d] ∧ Below w.heap.size w wr) (fun _ i _ => q - (intOf i).toNat)
      case atStart => exact ⟨0, by omega, rfl, rfl, by simp, hown, hbx, hbel⟩
      case round =>
        clear hown hbx hbel
        obtain ⟨t, ht, rfl, rfl, hno, hown, hbx, hbel⟩ := hrel
        have HN := Lib.hid hno
        clear hno
        by_cases htq : t < q
        · obtain ⟨b, o, x, rfl, hbB, hxk, c0, c1, c2⟩ := (hr.below hbel).lb htq
          have HX := Lib.hid hxk
          have HB := Lib.hid hbx
          have bA := own_blk hown
          have zx := hbx.lt
          have zw := hbel.size
          clear hxk hbx
          by_cases hv : x.b = (j : Int)
          · have e1 : (x.b == (j : Int)) = true := by simp [hv]
            have HY := Lib.hid (heldJ_yes (heldAt_yes HX.out hv))
            clear hv
            go_wp2_with (at_builtin; go_loud (refine wp_app rfl _ _ 25 rfl (w.heap.size + 1) 3 i0 (.int .i64 0) 1 8 Try.underlying25 hi hz0 hz1 hz2 rfl (by decide) rfl (hown.alloc _) [.int .i64 (j : Int)] rfl (by simp [Value.oneCell']) rfl (by simp) (by unfold maxLen; omega) (by omega) (by first | omega | (simp; omega)) ?_; intro A2 c2 w2 hown2 hg2))
            have hg3 := grown_trans (World.grownBy_alloc wr (.cells #[.int .i64 x.a, .int .i64 x.b, .int .i64 x.l] 80) _) hg2
            go_roundw
            case rel => exact ⟨j + 1, A2, n' + 1, c2, by omega, by go_num, rfl, by omega, by rw [HY.out, ints_append]; exact hown2, row_apart HB.out hg3 bA (by omega), bel_apart hbel hg3 bA (by omega)⟩
            case measure => simp [intOf]; omega
          · have e1 : (x.b == (j : Int)) = false := by simp [hv]
            have HM : Hid (∀ y ∈ cs.take (t + 1), y.b ≠ (j : Int)) := Lib.hid (fun y hy => by
              rw [take_snoc HX.out] at hy
              rcases List.mem_append.1 hy with hy | hy
              · exact HN.out y hy
              · simp at hy; subst hy; exact hv)
            clear hv
            go_wp2
            go_roundw
            case rel => exact ⟨t + 1, by omega, by go_num, rfl, HM.out, hown.alloc _, HB.out.alloc _, hbel.alloc zw _⟩
            case measure => simp [intOf]; omega
        · obtain rfl : t = q := by omega
          have HY := Lib.hid (heldJ_no (cs := cs) (k := j) (heldAt_no (by have := HN.out; rwa [List.take_of_length_le (by omega)] at this)))
          go_wp2
          go_roundw
          case rel => exact ⟨j + 1, A', n', c', by omega, by go_num, rfl, by omega, by rw [HY.out]; exact hown, hbx, hbel⟩
          case measure => simp [intOf]; omega
    · obtain rfl : j = 12 := by omega
      go_wp2
      go_ret
      exact ⟨A', n', c', rfl, ownsRow_le hown (by omega), by omega, hbel⟩

set_option maxHeartbeats 4000000 in
theorem spec_JointsHeld {h : Int} {A B : Option Addr} {m c q d : Nat} {cs : List Lb} {w : World} (hr : Reads w 3 B q (lbs cs)) (hq : q ≤ 1048576) :
    Calls Try.prog 41 #[.agg #[.int .i64 h, .slice A m c, .slice B q d]] w fun e w' => ∃ A' n' c', e = .returned (.slice A' n' c') ∧ w'.ownsRow w.heap.size 3 1 (.slice A' n' c') n' (ints (heldJ cs 12)) ∧ n' ≤ 1048576 ∧ Below w.heap.size w w' := by
  have hlen : cs.length = q := by have := hr.1; rw [lbs_length] at this; omega
  have hx := (Row.new w 54 [.int .i64 h, .slice A m c, .slice B q d]).alloc (.cells #[] 3)
  have ho : ((w.alloc (.cells #[.int .i64 h, .slice A m c, .slice B q d] 54)).alloc (.cells #[] 3)).ownsRow (w.heap.size + 1) 3 1 (.slice (some ⟨w.heap.size + 1, 0, none⟩) 0 0) 0 [] := by simpa using own_empty (w.alloc (.cells #[.int .i64 h, .slice A m c, .slice B q d] 54)) 3 1
  have hg0 : Below w.heap.size w ((w.alloc (.cells #[.int .i64 h, .slice A m c, .slice B q d] 54)).alloc (.cells #[] 3)) := by go_grown
  obtain ⟨i0, hi, hz0, hz1, hz2⟩ := info_parts info_intj
  go_enter Try.func41, Try.ntmps41
  go_wp2
  go_loopw [3, 4] (fun v i wr => ∃ (j : Nat) (A' : Option Addr) (n' c' : Nat), j ≤ 12 ∧ i = .int .i64 j ∧ v = .slice A' n' c' ∧ n' ≤ j ∧ wr.ownsRow (w.heap.size + 1) 3 1 (.slice A' n' c') n' (ints (heldJ cs j)) ∧ Row wr w.heap.size 54 [.int .i64 h, .slice A m c, .slice B q d] ∧ Below w.heap.size w wr) (fun _ i _ => 12 - (intOf i).toNat)
  case atStart => exact ⟨0, _, 0, 0, by omega, rfl, rfl, by omega, ho, hx, hg0⟩
  case round =>
    obtain ⟨j, A', n', c', hj, rfl, rfl, hn', hown, hbx, hbel⟩ := hrel
    clear hx ho hg0
    have q0 := hbx.cell_ (i := 2) rfl
    by_cases hlt : j < 12
    · go_wp2
      go_loop [5, 6] (fun f i => ∃ t : Nat, t ≤ q ∧ i = .int .i64 t ∧ f = .bool (heldAt (cs.take t) j)) (fun _ i => q - (intOf i).toNat)
      case atStart => exact ⟨0, by omega, rfl, rfl⟩
      case round =>
        obtain ⟨t, ht, rfl, rfl⟩ := hrel
        have bA := own_blk hown
        have zx := hbx.lt
        have zw := hbel.size
        by_cases htq : t < q
        · obtain ⟨b, o, x, rfl, hbB, hxk, c0, c1, c2⟩ := (hr.below hbel).lb htq
          have hs := heldAt_snoc (cs.take t) x j
          rw [← take_snoc hxk] at hs
          have HS := Lib.hid hs
          clear hxk hs
          generalize heldAt (cs.take t) j = f at *
          have HB := Lib.hid hbx
          clear hbx
          cases f
          all_goals
            by_cases hv : x.b = (j : Int)
            · have e1 : (x.b == (j : Int)) = true := by simp [hv]
              have HV := Lib.hid hv
              clear hv
              go_wp2
              go_round
              case rel => exact ⟨t + 1, by omega, by go_num, by rw [HS.out]; simp [HV.out]⟩
              case measure => simp [intOf]; omega
            · have e1 : (x.b == (j : Int)) = false := by simp [hv]
              have HV := Lib.hid hv
              clear hv
              go_wp2
              go_round
              case rel => exact ⟨t + 1, by omega, by go_num, by rw [HS.out]; simp [HV.out]⟩
              case measure => simp [intOf]; omega
        · obtain rfl : t = q := by omega
          rw [show cs.take t = cs by rw [List.take_of_length_le (by omega)]]
          generalize hf : heldAt cs j = f
          have HF := Lib.hid hf
          clear hf
          have HB := Lib.hid hbx
          clear hbx
          cases f with
          | true =>
            have HY := Lib.hid (heldJ_yes HF.out)
            go_wp2_with (at_builtin; go_loud (refine wp_app rfl _ _ 25 rfl (w.heap.size + 1) 3 i0 (.int .i64 0) 1 8 Try.underlying25 hi hz0 hz1 hz2 rfl (by decide) rfl hown [.int .i64 (j : Int)] rfl (by simp [Value.oneCell']) rfl (by simp) (by unfold maxLen; omega) (by omega) (by first | omega | (simp; omega)) ?_; intro A2 c2 w2 hown2 hg2))
            go_roundw
            case rel => exact ⟨j + 1, A2, n' + 1, c2, by omega, by go_num, rfl, by omega, by rw [HY.out, ints_append]; exact hown2, row_apart HB.out hg2 bA (by omega), bel_apart hbel hg2 bA (by omega)⟩
            case measure => simp [intOf]; omega
          | false =>
            have HY := Lib.hid (heldJ_no HF.out)
            go_wp2
            go_roundw
            case rel => exact ⟨j + 1, A', n', c', by omega, by go_num, rfl, by omega, by rw [HY.out]; exact hown, HB.out, hbel⟩
            case measure => simp [intOf]; omega
    · obtain rfl : j = 12 := by omega
      go_wp2
      go_ret
      exact ⟨A', n', c', rfl, ownsRow_le hown (by omega), by omega, hbel⟩
end Go.Proofs.Ytbgdnlcjliaigaa
