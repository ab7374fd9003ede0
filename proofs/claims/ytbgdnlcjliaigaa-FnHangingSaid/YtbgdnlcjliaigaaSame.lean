/- Contracts of the laws' own helpers sameInts (on equal lists), has and btoi; lengths at most 2^20. -/
import Derived.Test.YtbgdnlcjliaigaaInts
import Derived.Lib.QuietBelow
namespace Go.Proofs.Ytbgdnlcjliaigaa
open Go.ChangeShapes Go.WideShapes Go.ChangeAt Go.RowKit Go.Deep Go.Joins
set_option maxRecDepth 100000

theorem laws_has {A : Option Addr} {n c : Nat} {xs : List Int} {v : Int} {w : World} (ha : Reads w 1 A n (ints xs)) (hn : n ≤ 1048576) :
    Calls Try.prog 35 #[.slice A n c, .int .i64 v] w fun e w' => e = .returned (.bool (decide (v ∈ xs))) ∧ Below w.heap.size w w' := by
  have hlen := ha.len
  have HL := Lib.hid hlen
  clear hlen
  go_enter Try.func35, Try.ntmps35
  go_wp2
  go_loopw [5] (fun i wr => ∃ k q : Nat, k ≤ n ∧ i = .int .i64 k ∧ wr = w.drewN q ∧ v ∉ xs.take k) (fun i _ => n - (intOf i).toNat)
  case atStart => exact ⟨0, 0, Nat.zero_le _, rfl, rfl, by simp⟩
  case round =>
    obtain ⟨k, q, hk, rfl, rfl, hno⟩ := hrel
    have HN := Lib.hid hno
    clear hno
    by_cases hlt : k < n
    · obtain ⟨b, o, x, rfl, hbB, hx, c0⟩ := ha.int hlt
      have HX := Lib.hid hx
      clear hx
      have l1 : (k : Int) < (n : Int) := by omega
      by_cases hv : x = v
      · have e1 : (x == v) = true := by simp [hv]
        have S := Lib.hid (show decide (v ∈ xs) = true from decide_eq_true (by rw [← hv]; exact List.mem_of_getElem? HX.out))
        clear hv
        go_wp2
        go_ret
        exact ⟨ret_bool S.out.symm, below_drewN (Below.refl _ _) _⟩
      · have e1 : (x == v) = false := by simp [hv]
        have S := Lib.hid (show v ∉ xs.take (k + 1) by rw [take_snoc HX.out]; simp only [List.mem_append, List.mem_singleton, not_or]; exact ⟨HN.out, fun h => hv h.symm⟩)
        clear hv
        go_wp2
        go_roundw
        case rel => exact ⟨k + 1, _, by omega, by go_num, rfl, S.out⟩
        case measure => simp [intOf]; omega
    · have S := Lib.hid (show decide (v ∈ xs) = false from decide_eq_false (by have := HN.out; rwa [List.take_of_length_le (by have := HL.out; omega)] at this))
      go_wp2
      go_ret
      exact ⟨ret_bool S.out.symm, below_drewN (Below.refl _ _) _⟩
end Go.Proofs.Ytbgdnlcjliaigaa
