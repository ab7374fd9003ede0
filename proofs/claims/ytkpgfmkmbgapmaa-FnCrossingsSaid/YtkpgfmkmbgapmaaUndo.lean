/- Contracts of UndoCrosses of both sides; no condition beyond the slice's length. -/
import Derived.Test.YtkpgfmkmbgapmaaCrossOk
import Derived.Test.YtkpgfmkmbgapmaaKit2
namespace Go.Proofs.Ytkpgfmkmbgapmaa
open Go.ChangeShapes Go.WideShapes Go.ChangeAt Go.RowKit Go.Deep Go.Joins
set_option maxRecDepth 100000

def undo (ls : List Cr) : List Cr := (ls.map fun x => (⟨x.at_, !x.front⟩ : Cr)).reverse
theorem undo_cons (x : Cr) (xs : List Cr) : undo (x :: xs) = undo xs ++ [⟨x.at_, !x.front⟩] := by simp [undo]
theorem undo_drop {ls : List Cr} {k : Nat} {x : Cr} (hx : ls[k]? = some x) : undo (ls.drop k) = undo (ls.drop (k + 1)) ++ [⟨x.at_, !x.front⟩] := by rw [drop_cons hx, undo_cons]
theorem undo_length (ls : List Cr) : (undo ls).length = ls.length := by simp [undo]
theorem crs_one (ls : List Cr) : ∀ u ∈ crs ls, u.oneCell' = true := by
  intro u hu
  simp only [crs, List.mem_flatMap, Cr.cs, List.mem_cons, List.not_mem_nil, or_false] at hu
  obtain ⟨x, _, rfl | rfl⟩ := hu <;> rfl

set_option maxHeartbeats 4000000 in
theorem impl_UndoCrosses {A : Option Addr} {m c : Nat} {ls : List Cr} {w : World} (hr : Reads w 2 A m (crs ls)) (hm : m ≤ 1048576) :
    Calls Try.prog 17 #[.slice A m c] w fun e w' => ∃ A' n' c', e = .returned (.slice A' n' c') ∧ w'.ownsRow w.heap.size 49 2 (.slice A' n' c') n' (crs (undo ls)) ∧ n' ≤ 1048576 ∧ Below w.heap.size w w' := by
  have hl := hr.crlen
  have ho := own_empty w 49 2
  obtain ⟨i0, hi, hz0, hz1, hz2⟩ := info_parts info_cross
  go_enter Try.func17, Try.ntmps17
  go_wp2
  go_loopw [3, 4] (fun v i wr => ∃ (k : Nat) (z : Int) (A' : Option Addr) (n' c' : Nat), k ≤ m ∧ i = .int .i64 z ∧ z = (k : Int) - 1 ∧ v = .slice A' n' c' ∧ n' = m - k ∧ wr.ownsRow w.heap.size 49 2 (.slice A' n' c') n' (crs (undo (ls.drop k))) ∧ Below w.heap.size w wr) (fun _ i _ => (intOf i + 1).toNat)
  case atStart => exact ⟨m, (m : Int) - 1, _, 0, 0, by omega, rfl, rfl, rfl, by omega, by rw [List.drop_eq_nil_of_le (by omega)]; exact ho, by go_grown⟩
  case round =>
    obtain ⟨k, z, A', n', c', hk, rfl, hz, rfl, hn', hown, hbel⟩ := hrel
    rcases k with _ | k
    · have hz0 : z < 0 := by omega
      clear hz
      go_wp2
      go_ret
      exact ⟨A', n', c', rfl, by simpa using hown, by omega, hbel⟩
    · obtain rfl : z = (k : Int) := by omega
      have HN := Lib.hid hn'
      have hnb : n' ≤ m := by omega
      clear hn'
      clear hz
      have hlt : k < m := hk
      have l1 : (k : Int) < (m : Int) := by omega
      obtain ⟨b, o, x, rfl, hbB, hx, c0, c1⟩ := hr.cr hlt
      replace c0 := keep_cell hbel c0
      replace c1 := keep_cell hbel c1
      have HX := Lib.hid (undo_drop hx); clear hx
      have bA := own_blk hown
      have zw := hbel.size
      go_wp2
      go_region_held3 (fun w' => w'.cell? ⟨b, o + k * 2, none⟩ = some (.int .i64 x.at_) ∧ w'.cell? ⟨b, o + k * 2 + 1, none⟩ = some (.bool x.front)) (first | go_keep | exact ⟨k0, k1⟩)
        ((refine step_app (wr.drewN _) (by rfl) _ _ 25 (by rfl) w.heap.size 49 i0 (.agg #[.int .i64 0, .bool false]) 2 16 Try.underlying25 hi hz0 hz1 hz2 rfl (by decide) (by rfl) (own_drewN hown _) [.int .i64 x.at_, .bool (!x.front)] rfl (by simp [Value.oneCell']) (by rfl) (by rfl) (by unfold maxLen; omega) (by omega) zw (by rfl) ?_; intro g2 c2 w2 hown2 hg2; have k0 := grown_keep hg2 bA hbB c0; have k1 := grown_keep hg2 bA hbB c1))
      clear k0 k1
      go_wp2
      go_roundw
      case rel => exact ⟨k, _, _, n' + 1, c2, by omega, rfl, rfl, rfl, by have := HN.out; omega, by rw [HX.out, crs_append]; exact hown2, bel_apart (below_drewN hbel _) hg2 bA (Nat.le_refl _)⟩
      case measure => first | (simp [intOf]; done) | (simp [intOf]; omega)

set_option maxHeartbeats 4000000 in
theorem spec_UndoCrosses {A : Option Addr} {m c : Nat} {ls : List Cr} {w : World} (hr : Reads w 2 A m (crs ls)) (hm : m ≤ 1048576) :
    Calls Try.prog 16 #[.slice A m c] w fun e w' => ∃ A' n' c', e = .returned (.slice A' n' c') ∧ w'.ownsRow w.heap.size 49 2 (.slice A' n' c') n' (crs (undo ls)) ∧ n' ≤ 1048576 ∧ Below w.heap.size w w' := by
  have hl := hr.crlen
  have ho := own_empty w 49 2
  obtain ⟨i0, hi, hz0, hz1, hz2⟩ := info_parts info_cross
  go_enter Try.func16, Try.ntmps16
  go_wp2
  go_loopw [3, 4] (fun v i wr => ∃ (k : Nat) (z : Int) (A' : Option Addr) (n' c' : Nat), k ≤ m ∧ i = .int .i64 z ∧ z = (k : Int) - 1 ∧ v = .slice A' n' c' ∧ n' = m - k ∧ wr.ownsRow w.heap.size 49 2 (.slice A' n' c') n' (crs (undo (ls.drop k))) ∧ Below w.heap.size w wr) (fun _ i _ => (intOf i + 1).toNat)
  case atStart => exact ⟨m, (m : Int) - 1, _, 0, 0, by omega, rfl, rfl, rfl, by omega, by rw [List.drop_eq_nil_of_le (by omega)]; exact ho, by go_grown⟩
  case round =>
    obtain ⟨k, z, A', n', c', hk, rfl, hz, rfl, hn', hown, hbel⟩ := hrel
    rcases k with _ | k
    · have hz0 : z < 0 := by omega
      clear hz
      go_wp2
      go_ret
      exact ⟨A', n', c', rfl, by simpa using hown, by omega, hbel⟩
    · obtain rfl : z = (k : Int) := by omega
      have HN := Lib.hid hn'
      have hnb : n' ≤ m := by omega
      clear hn'
      clear hz
      have hlt : k < m := hk
      have l1 : (k : Int) < (m : Int) := by omega
      obtain ⟨b, o, x, rfl, hbB, hx, c0, c1⟩ := hr.cr hlt
      replace c0 := keep_cell hbel c0
      replace c1 := keep_cell hbel c1
      have HX := Lib.hid (undo_drop hx); clear hx
      have bA := own_blk hown
      have zw := hbel.size
      go_wp2
      go_region_held3 (fun w' => w'.cell? ⟨b, o + k * 2, none⟩ = some (.int .i64 x.at_) ∧ w'.cell? ⟨b, o + k * 2 + 1, none⟩ = some (.bool x.front)) (first | go_keep | exact ⟨k0, k1⟩)
        ((refine step_app (wr.drewN _) (by rfl) _ _ 25 (by rfl) w.heap.size 49 i0 (.agg #[.int .i64 0, .bool false]) 2 16 Try.underlying25 hi hz0 hz1 hz2 rfl (by decide) (by rfl) (own_drewN hown _) [.int .i64 x.at_, .bool (!x.front)] rfl (by simp [Value.oneCell']) (by rfl) (by rfl) (by unfold maxLen; omega) (by omega) zw (by rfl) ?_; intro g2 c2 w2 hown2 hg2; have k0 := grown_keep hg2 bA hbB c0; have k1 := grown_keep hg2 bA hbB c1))
      clear k0 k1
      go_wp2
      go_roundw
      case rel => exact ⟨k, _, _, n' + 1, c2, by omega, rfl, rfl, rfl, by have := HN.out; omega, by rw [HX.out, crs_append]; exact hown2, bel_apart (below_drewN hbel _) hg2 bA (Nat.le_refl _)⟩
      case measure => first | (simp [intOf]; done) | (simp [intOf]; omega)
end Go.Proofs.Ytkpgfmkmbgapmaa
