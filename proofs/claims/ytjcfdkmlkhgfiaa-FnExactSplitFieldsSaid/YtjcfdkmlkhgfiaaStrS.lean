/- Contracts of the helpers that compare, mark and hold slices of strings; lengths at most 2^20. -/
import Derived.Test.YtjcfdkmlkhgfiaaSplit
namespace Go.Proofs.Ytjcfdkmlkhgfiaa
open Go.ChangeShapes Go.WideShapes Go.ChangeAt Go.RowKit Go.Deep Go.Joins
set_option maxRecDepth 100000

theorem Reads.str {w : World} {A : Option Addr} {n : Nat} {xs : List ByteArray} (h : Reads w 1 A n (strs xs)) {k : Nat} (hk : k < n) :
    ∃ b o x, A = some ⟨b, o, none⟩ ∧ b < w.heap.size ∧ xs[k]? = some x ∧ w.cell? ⟨b, o + k, none⟩ = some (.string x) := by
  obtain ⟨b, o, e, hb, hc⟩ := h.2 (by omega)
  have hl : xs.length = n := by have := h.1; rw [strs_length] at this; omega
  have hx : xs[k]? = some (xs[k]'(by omega)) := List.getElem?_eq_getElem (by omega)
  exact ⟨b, o, xs[k]'(by omega), e, hb, hx, hc k _ (by rw [strs_get, hx]; rfl)⟩
theorem Reads.strlen {w : World} {A : Option Addr} {n : Nat} {xs : List ByteArray} (h : Reads w 1 A n (strs xs)) : xs.length = n := by have := h.1; rw [strs_length] at this; omega
/-- The digits of k, laid ahead of out. -/
def mkt : Nat → Int → ByteArray → ByteArray
  | 0, _, out => out
  | f + 1, k, out => if 0 < k then mkt f (k / 10) (⟨#[UInt8.ofNat (48 + k % 10).toNat]⟩ ++ out) else out
theorem mkt_done (f : Nat) {k : Int} (out : ByteArray) (h : ¬ 0 < k) : mkt f k out = out := by
  cases f with
  | zero => rfl
  | succ f => simp [mkt, h]
theorem mkt_step {f : Nat} {k : Int} (out : ByteArray) (h : 0 < k) : mkt (f + 1) k out = mkt f (k / 10) (⟨#[UInt8.ofNat (48 + k % 10).toNat]⟩ ++ out) := by simp [mkt, h]
def markT (k : Int) : ByteArray := ⟨#[109]⟩ ++ mkt k.toNat k ⟨#[]⟩

set_option maxHeartbeats 4000000 in
theorem laws_markText {k : Int} {w : World} (hk : 1 ≤ k) (hk2 : k ≤ 1099511627776) : Calls Try.prog 29 #[.int .i64 k] w fun e w' => e = .returned (.string (markT k)) ∧ Below w.heap.size w w' := by
  go_enter Try.func29, Try.ntmps29
  go_wp2
  go_loopw [0, 3] (fun i v wr => ∃ (j : Int) (f : Nat) (out : ByteArray), 0 ≤ j ∧ (out.size : Int) + j ≤ k ∧ i = .int .i64 j ∧ v = .string out ∧ Hid (j.toNat ≤ f ∧ mkt f j out = mkt k.toNat k ⟨#[]⟩) ∧ Below w.heap.size w wr) (fun i _ _ => (intOf i).toNat)
  case atStart => exact ⟨k, k.toNat, ⟨#[]⟩, by omega, (by show ((0 : Nat) : Int) + k ≤ k; omega), rfl, rfl, Lib.hid ⟨Nat.le_refl _, rfl⟩, Below.refl _ _⟩
  case round =>
    obtain ⟨j, f, out, hj0, hjk, rfl, rfl, HM, hbel⟩ := hrel
    by_cases hlt : 0 < j
    · have hf := HM.out.1
      obtain ⟨f, rfl⟩ : ∃ g, f = g + 1 := ⟨f - 1, by omega⟩
      have HM2 : Hid ((j / 10).toNat ≤ f ∧ mkt f (j / 10) (⟨#[UInt8.ofNat (48 + j % 10).toNat]⟩ ++ out) = mkt k.toNat k ⟨#[]⟩) := Lib.hid ⟨by omega, by rw [← mkt_step out hlt]; exact HM.out.2⟩
      have HB := Lib.hid (byte1 (x := 48 + j % 10) (by omega) (by omega))
      have hc : ∀ W : World, W.ownsRow wr.heap.size 5 1 (.slice (some ⟨wr.heap.size, 0, none⟩) 1 1) 1 [.int .u8 (48 + j % 10)] → (convert 28 9 (.slice (some ⟨wr.heap.size, 0, none⟩) 1 1)).run Try.prog W = .ok (.string ⟨#[UInt8.ofNat (48 + j % 10).toNat]⟩) W := fun W h => by
        rw [HB.out] at h
        exact conv_back h
      have hcw := hc (wr.alloc (.cells #[.int .u8 (48 + j % 10)] 5)) (own_one wr 5 _)
      clear hc HM hf
      have hsz : Hid ((((⟨#[UInt8.ofNat (48 + j % 10).toNat]⟩ : ByteArray) ++ out).size : Int) + j / 10 ≤ k) := Lib.hid (by
        have e : ((⟨#[UInt8.ofNat (48 + j % 10).toNat]⟩ : ByteArray) ++ out).size = 1 + out.size := by rw [ByteArray.size_append]; rfl
        rw [e]; omega)
      have hlim : 1 + out.size ≤ 9223372036854775807 := by omega
      go_wp2
      go_roundw
      case rel => exact ⟨j / 10, f, _, by omega, hsz.out, rfl, rfl, HM2, hbel.alloc hbel.size _⟩
      case measure => simp [intOf]; omega
    · have HR := Lib.hid ((mkt_done f out hlt).symm.trans HM.out.2)
      have hlim : 1 + out.size ≤ 9223372036854775807 := by omega
      go_wp2
      go_ret
      exact ⟨by unfold markT; rw [← HR.out]; rfl, hbel⟩

theorem eqStringS_b {A B : Option Addr} {n m c d : Nat} {xs : List ByteArray} {w : World} (ha : Reads w 1 A n (strs xs)) (hb : Reads w 1 B m (strs xs)) (hn : n ≤ 1048576) :
    Calls Try.prog 19 #[.slice A n c, .slice B m d] w fun e w' => e = .returned (.bool true) ∧ Below w.heap.size w w' := by
  have e1 := ha.strlen
  have e2 := hb.strlen
  obtain rfl : n = m := by omega
  clear e1 e2
  go_enter Try.func19, Try.ntmps19
  go_wp2
  go_loopw [5] (fun i wr => ∃ k q : Nat, k ≤ n ∧ i = .int .i64 k ∧ wr = w.drewN q) (fun i _ => n - (intOf i).toNat)
  case atStart => exact ⟨0, 0, Nat.zero_le _, rfl, rfl⟩
  case round =>
    obtain ⟨k, q, hk, rfl, rfl⟩ := hrel
    by_cases hlt : k < n
    · obtain ⟨b, o, x, rfl, hbB, hx, c0⟩ := ha.str hlt
      obtain ⟨b', o', x', rfl, hbB', hx', c1⟩ := hb.str hlt
      obtain rfl : x = x' := by rw [hx] at hx'; exact Option.some.inj hx'
      clear hx hx'
      have l1 : (k : Int) < (n : Int) := by omega
      go_wp2
      go_quiet (fail)
      go_wp2
      go_roundw
      case rel => exact ⟨k + 1, _, by omega, by go_num, rfl⟩
      case measure => simp [intOf]; omega
    · go_wp2
      go_ret
      exact ⟨rfl, below_drewN (Below.refl _ _) _⟩

def marks (k : Int) (n : Nat) : List ByteArray := (List.range n).map fun i : Nat => markT (k + (i : Int))
theorem marks_length (k : Int) (n : Nat) : (marks k n).length = n := by simp [marks]
theorem marks_get (k : Int) (n i : Nat) (h : i < n) : (marks k n)[i]? = some (markT (k + (i : Int))) := by simp [marks, List.getElem?_map, List.getElem?_range h]
theorem marks_snoc (k : Int) (n : Nat) : marks k (n + 1) = marks k n ++ [markT (k + (n : Int))] := by simp [marks, List.range_succ]

set_option maxHeartbeats 1000000 in
theorem markStringS_any (base : Nat) (A : Option Addr) (n c : Nat) (xs : List ByteArray) (k : Int) (w : World) (ho : w.ownsRow base 9 1 (.slice A n c) n (strs xs)) (hn : n ≤ 1048576) (hk0 : 1 ≤ k) (hk : k ≤ 1048577) :
    Calls Try.prog 20 #[.slice A n c, .int .i64 k] w fun e w' => e = .returned (.int .i64 (k + n)) ∧ w'.ownsRow base 9 1 (.slice A n c) n (strs (marks k n)) ∧ w.grownBy w' (Value.slice A n c).ownBlock := by
  have hlen : xs.length = n := by have := ho.1; rw [strs_length] at this; omega
  go_enter Try.func20, Try.ntmps20
  go_wp2
  go_loopw [1, 5] (fun q i wr => ∃ j : Nat, j ≤ n ∧ i = .int .i64 j ∧ q = .int .i64 (k + j) ∧ wr.ownsRow base 9 1 (.slice A n c) n (strs (marks k j) ++ strs (xs.drop j)) ∧ w.grownBy wr (Value.slice A n c).ownBlock) (fun _ i _ => n - (intOf i).toNat)
  case atStart => exact ⟨0, Nat.zero_le _, rfl, by simp, by simpa [marks, strs] using ho, World.grownBy.refl w _⟩
  case round =>
    obtain ⟨j, hj, rfl, rfl, hrow, hg⟩ := hrel
    by_cases hlt : j < n
    · have hx : xs[j]? = some (xs[j]'(by omega)) := List.getElem?_eq_getElem (by omega)
      generalize xs[j]'(by omega) = x at hx
      rw [drop_cons hx] at hrow
      have HROW := Lib.hid hrow
      have HG := Lib.hid hg
      clear hx hrow hg ho hlen
      go_wp2_with (go_at_call 29; refine (laws_markText (by omega) (by omega)).mono ?_; rintro e w1 ⟨rfl, hb1⟩; have hrow1 := own_below HROW.out hb1; obtain ⟨g, rfl, hbg, hgl, c0, f0⟩ := own_at (post := strs (xs.drop (j + 1))) hrow1 (m := j) (by simp [strs, marks]); have HR := Lib.hid (own_set (post := strs (xs.drop (j + 1))) hrow1 (m := j) (by simp [strs, marks]) (.string (markT (k + j)))); have HG2 := Lib.hid (grown_setCell (grown_trans HG.out (grown_of_below hb1 _)) (p := ⟨g, j, none⟩) (.inl rfl) (.string (markT (k + j)))); clear hrow1)
      go_roundw
      case rel => exact ⟨j + 1, by omega, by go_num, by go_num, by rw [marks_snoc, strs_append]; simpa [strs] using HR.out, HG2.out⟩
      case measure => simp [intOf]; omega
    · go_wp2
      go_ret
      obtain rfl : j = n := by omega
      exact ⟨rfl, by rw [List.drop_eq_nil_of_le (by omega)] at hrow; simpa [strs] using hrow, hg⟩

set_option maxHeartbeats 1000000 in
theorem heldStringS_any (A : Option Addr) (n c : Nat) (k : Int) (w : World) (hr : Reads w 1 A n (strs (marks k n))) (hn : n ≤ 1048576) (hk0 : 1 ≤ k) (hk : k ≤ 1048577) :
    Calls Try.prog 21 #[.slice A n c, .int .i64 k] w fun e w' => e = .returned (.int .i64 (k + n)) ∧ Below w.heap.size w w' := by
  go_enter Try.func21, Try.ntmps21
  go_wp2
  go_loopw [1, 5] (fun q i wr => ∃ j : Nat, j ≤ n ∧ i = .int .i64 j ∧ q = .int .i64 (k + j) ∧ Below w.heap.size w wr) (fun _ i _ => n - (intOf i).toNat)
  case atStart => exact ⟨0, Nat.zero_le _, rfl, by simp, Below.refl _ _⟩
  case round =>
    obtain ⟨j, hj, rfl, rfl, hbel⟩ := hrel
    by_cases hlt : j < n
    · obtain ⟨b, o, x, rfl, hbB, hx, c0⟩ := (hr.below hbel).str hlt
      rw [marks_get k n j hlt] at hx
      obtain rfl := Option.some.inj hx
      have l1 : (j : Int) < (n : Int) := by omega
      clear hx
      go_wp2
      go_region_held3 (fun w' => w'.cell? ⟨b, o + j, none⟩ = some (.string (markT (k + j)))) (first | go_keep | exact k0)
        (first | (go_at_call 29; refine (laws_markText (by omega) (by omega)).mono ?_; rintro e w1 ⟨rfl, hb1⟩; have k0 := keep_cell hb1 c0))
      go_wp2
      go_roundw
      case rel => exact ⟨j + 1, by omega, by go_num, by go_num, (below_drewN hbel _).trans (hb1.mono hbel.size)⟩
      case measure => simp [intOf]; omega
    · go_wp2
      go_ret
      obtain rfl : j = n := by omega
      exact ⟨rfl, hbel⟩
end Go.Proofs.Ytjcfdkmlkhgfiaa
