/- Contracts of DecodeHex of both sides; no condition beyond the string's length. -/
import Derived.Test.YtjcfdkmlkhgfiaaDoorHexT
import Derived.Lib.Bytealg
namespace Go.Proofs.YtjcfdkmlkhgfiaaDoor
open Go.ChangeShapes Go.WideShapes Go.ChangeAt Go.RowKit Go.Deep Go.Joins
set_option maxRecDepth 100000

def valB (b : UInt8) : Int := if 48 ≤ b.toNat ∧ b.toNat ≤ 57 then (b.toNat : Int) - 48 else if 97 ≤ b.toNat ∧ b.toNat ≤ 102 then (b.toNat : Int) - 97 + 10 else -1

theorem valB_bd (b : UInt8) : -1 ≤ valB b ∧ valB b ≤ 15 := by
  unfold valB
  split
  · omega
  · split <;> omega

theorem idx_val (b : UInt8) : Lib.indexByte (⟨#[48, 49, 50, 51, 52, 53, 54, 55, 56, 57, 97, 98, 99, 100, 101, 102]⟩ : ByteArray).data.toList (b.toNat : Int).toNat.toUInt8 = valB b := by
  have h : ∀ n : Fin 256, Lib.indexByte [48, 49, 50, 51, 52, 53, 54, 55, 56, 57, 97, 98, 99, 100, 101, 102] (UInt8.ofNat n.val) = valB (UInt8.ofNat n.val) := by decide +kernel
  have := h ⟨b.toNat, UInt8.toNat_lt b⟩
  simpa using this

theorem idx_lite (s : ByteArray) (c : Int) (w : World) : Calls Tryd.prog 35 #[.string s, .int .u8 c] w fun e w' => e = .returned (.int .i64 (Lib.indexByte s.data.toList c.toNat.toUInt8)) ∧ w = w' := by
  go_enter Tryd.func35, Tryd.ntmps35
  go_wp2
  rw [run_callFunc_extern Tryd.func40 (by kernel_rfl) (by kernel_rfl) (by kernel_rfl) (e := Extern.BytealgIndexByte.indexByte) (by kernel_rfl), Lib.run_indexByteString]
  simp only [Result.andThen]
  rw [Oper.upon_value]
  go_wp2
  go_ret
  exact ⟨rfl, rfl⟩

theorem idx_byte (b : UInt8) (w : World) : Calls Tryd.prog 28 #[.string ⟨#[48, 49, 50, 51, 52, 53, 54, 55, 56, 57, 97, 98, 99, 100, 101, 102]⟩, .int .u8 (b.toNat : Int)] w fun e w' => e = .returned (.int .i64 (valB b)) ∧ w = w' := by
  have h := Lib.hid (idx_val b)
  go_enter Tryd.func28, Tryd.ntmps28
  go_wp2_with fail
  refine (idx_lite _ _ _).mono ?_
  rintro e w' ⟨rfl, rfl⟩
  rw [h.out]
  go_wp2
  go_ret
  exact ⟨rfl, rfl⟩

def decP (l : List UInt8) : Nat → Option (List UInt8)
  | 0 => some []
  | k + 1 => match decP l k with
    | none => none
    | some acc => match l[2 * k]?, l[2 * k + 1]? with
      | some a, some b => if valB a < 0 ∨ valB b < 0 then none else some (acc ++ [UInt8.ofNat (16 * valB a + valB b).toNat])
      | _, _ => none

theorem decP_bad {l : List UInt8} {k : Nat} {a b : UInt8} (ha : l[2 * k]? = some a) (hb : l[2 * k + 1]? = some b) (h : valB a < 0 ∨ valB b < 0) : decP l (k + 1) = none := by
  simp only [decP, ha, hb, if_pos h]
  cases decP l k <;> rfl

theorem decP_good {l acc : List UInt8} {k : Nat} {a b : UInt8} (hk : decP l k = some acc) (ha : l[2 * k]? = some a) (hb : l[2 * k + 1]? = some b) (h : ¬(valB a < 0 ∨ valB b < 0)) : decP l (k + 1) = some (acc ++ [UInt8.ofNat (16 * valB a + valB b).toNat]) := by
  simp only [decP, hk, ha, hb, if_neg h]

theorem decP_none {l : List UInt8} {k : Nat} (h : decP l k = none) : ∀ n, k ≤ n → decP l n = none := by
  intro n hn
  induction n with
  | zero => obtain rfl : k = 0 := by omega
            exact h
  | succ n ih =>
    rcases Nat.lt_or_ge n k with hlt | hge
    · obtain rfl : k = n + 1 := by omega
      exact h
    · simp only [decP, ih hge]

def decS (s : ByteArray) : Option (List UInt8) := if s.size % 2 = 0 ∧ s.size ≤ 40000 then decP s.data.toList (s.size / 2) else none

def decStr (s : ByteArray) : ByteArray := match decS s with | some l => ⟨l.toArray⟩ | none => ⟨#[]⟩

theorem dec_no {s : ByteArray} (h : decS s = none) : decStr s = ⟨#[]⟩ ∧ (decS s).isSome = false := by simp [decStr, h]

theorem dec_yes {s : ByteArray} {l : List UInt8} (h : decS s = some l) : decStr s = ⟨l.toArray⟩ ∧ (decS s).isSome = true := by simp [decStr, h]

theorem decS_no {s : ByteArray} (h : ¬(s.size % 2 = 0 ∧ s.size ≤ 40000)) : decS s = none := by simp [decS, h]

theorem decS_in {s : ByteArray} (h : s.size % 2 = 0 ∧ s.size ≤ 40000) : decS s = decP s.data.toList (s.size / 2) := by simp [decS, h]

theorem byte_of {x : Int} (h0 : 0 ≤ x) (h1 : x ≤ 255) : [Value.int .u8 x] = bys [UInt8.ofNat x.toNat] := by
  have : ((UInt8.ofNat x.toNat).toNat : Int) = x := by simp; omega
  show _ = [Value.int .u8 ((UInt8.ofNat x.toNat).toNat : Int)]
  rw [this]

theorem s_get {s : ByteArray} {k : Nat} (h : k < s.size) : s.data.toList[k]? = some (s[k]'h) := by
  have h' : k < s.data.size := h
  rw [Array.getElem?_toList, Array.getElem?_eq_getElem h']; rfl

theorem impl_DecodeHex {s : ByteArray} {w : World} (hs : s.size ≤ 1048576) :
    Calls Tryd.prog 13 #[.string s] w fun e w' => e = .returned (.tuple #[.string (decStr s), .bool (decS s).isSome]) ∧ Below w.heap.size w w' := by
  by_cases hev : s.size % 2 = 0
  rotate_left
  · obtain ⟨D1, D2⟩ := dec_no (decS_no (s := s) (by omega))
    have D1 := Lib.hid D1
    have D2 := Lib.hid D2
    have e1 : ((s.size : Int) % 2 == 0) = false := by simp; omega
    have e2 : ((s.size : Int) % 2 != 0) = true := by simp; omega
    clear hev
    go_enter Tryd.func13, Tryd.ntmps13
    go_wp2
    go_ret2
    exact ⟨by first | (rw [D1.out, D2.out]; rfl) | rfl, by go_grown⟩
  have e1 : ((s.size : Int) % 2 == 0) = true := by simp; omega
  have e2 : ((s.size : Int) % 2 != 0) = false := by simp; omega
  by_cases hbig : 40000 < s.size
  · obtain ⟨D1, D2⟩ := dec_no (decS_no (s := s) (by omega))
    have D1 := Lib.hid D1
    have D2 := Lib.hid D2
    have HV := Lib.hid hev
    clear hev
    go_enter Tryd.func13, Tryd.ntmps13
    go_wp2
    go_ret2
    exact ⟨by first | (rw [D1.out, D2.out]; rfl) | rfl, by go_grown⟩
  have hle : s.size ≤ 40000 := by omega
  have DS := Lib.hid (decS_in (s := s) ⟨hev, hle⟩)
  obtain ⟨n, hn⟩ : ∃ n, s.size = 2 * n := ⟨s.size / 2, by omega⟩
  have HN := Lib.hid hn
  have HV := Lib.hid hev
  have ho := own_empty w 5 1
  have hg0 : Below w.heap.size w (w.alloc (.cells #[] 5)) := by go_grown
  obtain ⟨i0, hi, hz0, hz1, hz2⟩ := info_parts info_u8
  clear hev hn hbig
  go_enter Tryd.func13, Tryd.ntmps13
  go_wp2
  clear e1 e2
  go_loopw [4, 5] (fun v i wr => ∃ (k j c' : Nat) (A' : Option Addr) (acc : List UInt8), Hid (j = 2 * k) ∧ j ≤ s.size ∧ k ≤ j ∧ i = .int .i64 j ∧ v = .slice A' k c' ∧ Hid (decP s.data.toList k = some acc) ∧ wr.ownsRow w.heap.size 5 1 (.slice A' k c') k (bys acc) ∧ Below w.heap.size w wr) (fun _ i _ => s.size - (intOf i).toNat)
  case atStart => exact ⟨0, 0, 0, _, [], Lib.hid rfl, by omega, by omega, rfl, rfl, Lib.hid rfl, ho, hg0⟩
  case round =>
    clear ho hg0
    obtain ⟨k, j, c', A', acc, HJ, hj, hkj, rfl, rfl, HA, hown, hbel⟩ := hrel
    have zw := hbel.size
    have bA := own_blk hown
    by_cases hlt : j < s.size
    · have hlt1 : j + 1 < s.size := by have := HJ.out; have := HN.out; omega
      have HX := Lib.hid (s_get hlt)
      have HY := Lib.hid (s_get hlt1)
      have l1 : (j : Int) < (s.size : Int) := by omega
      have l2 : (j : Int) + 1 < (s.size : Int) := by omega
      have r1 : IntKind.i64.wrap ((j : Int) + 1) = (j : Int) + 1 := IntWalk.i64_in _ (by omega)
      have r2 : ((j : Int) + 1).toNat = j + 1 := by omega
      have r3 : 0 ≤ (j : Int) + 1 := by omega
      have a1 := valB_bd (s[j]'hlt)
      have b1 := valB_bd (s[j + 1]'hlt1)
      by_cases hbad : valB (s[j]'hlt) < 0 ∨ valB (s[j + 1]'hlt1) < 0
      · have hnone : decS s = none := by
          rw [DS.out]
          exact decP_none (decP_bad (k := k) (by rw [← HJ.out]; exact HX.out) (by rw [← HJ.out]; exact HY.out) hbad) _ (by have := HJ.out; have := HN.out; omega)
        obtain ⟨D1, D2⟩ := dec_no hnone
        have D1 := Lib.hid D1
        have D2 := Lib.hid D2
        clear hnone
        by_cases h1 : valB (s[j]'hlt) < 0
        · clear hbad
          go_wp2
          go_quiet ((go_at_call 28; refine quiet_at (idx_byte _ _) ⟨_, rfl⟩))
          clear r1
          go_wp2
          go_ret2
          exact ⟨by first | (rw [D1.out, D2.out]; rfl) | rfl, below_drewN hbel _⟩
        · have h2 : valB (s[j + 1]'hlt1) < 0 := by omega
          clear hbad
          go_wp2
          go_quiet ((go_at_call 28; refine quiet_at (idx_byte _ _) ⟨_, rfl⟩))
          clear r1
          go_wp2
          go_ret2
          exact ⟨by first | (rw [D1.out, D2.out]; rfl) | rfl, below_drewN hbel _⟩
      · have hgood := Lib.hid (decP_good HA.out (by rw [← HJ.out]; exact HX.out) (by rw [← HJ.out]; exact HY.out) hbad)
        have g1 : 0 ≤ valB (s[j]'hlt) := by omega
        have g2 : 0 ≤ valB (s[j + 1]'hlt1) := by omega
        have HB := Lib.hid (byte_of (x := 16 * valB (s[j]'hlt) + valB (s[j + 1]'hlt1)) (by omega) (by omega))
        clear hbad
        go_wp2
        go_quiet ((go_at_call 28; refine quiet_at (idx_byte _ _) ⟨_, rfl⟩))
        clear r1
        go_wp2_with (at_builtin; refine wp_app_at _ rfl _ _ 24 rfl w.heap.size 5 i0 (.int .u8 0) 1 1 Tryd.underlying24 hi hz0 hz1 hz2 rfl (by decide) rfl (own_drewN hown _) [.int .u8 (16 * valB (s[j]'hlt) + valB (s[j + 1]'hlt1))] rfl (by simp [Value.oneCell']) rfl rfl (by unfold maxLen; omega) (by omega) zw rfl ?_; intro A2 c2 w2 hown2 hg2)
        go_roundw
        case rel => exact ⟨k + 1, j + 2, c2, A2, _, Lib.hid (by have := HJ.out; omega), by omega, by omega, by go_num, rfl, hgood, by rw [bys_append, ← HB.out]; exact hown2, bel_apart (below_drewN hbel _) hg2 bA (Nat.le_refl _)⟩
        case measure => simp [intOf]; omega
    · obtain rfl : j = s.size := by omega
      have hk2 : Hid (s.size / 2 = k) := Lib.hid (by have := HJ.out; omega)
      obtain ⟨D1, D2⟩ := dec_yes (show decS s = some acc by rw [DS.out, hk2.out]; exact HA.out)
      have D1 := Lib.hid D1
      have D2 := Lib.hid D2
      have HC := conv_back hown
      clear hown
      go_wp2
      go_ret2
      exact ⟨by first | (rw [D1.out, D2.out]; rfl) | rfl, hbel⟩
end Go.Proofs.YtjcfdkmlkhgfiaaDoor
