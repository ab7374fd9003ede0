/- Contracts of EncodeHex of both sides; no condition beyond the string's length. -/
import Derived.Test.YtjcfdkmlkhgfiaaDoorStr
import Derived.IntWalk
namespace Go.Proofs.YtjcfdkmlkhgfiaaDoor
open Go.ChangeShapes Go.WideShapes Go.ChangeAt Go.RowKit Go.Deep Go.Joins
set_option maxRecDepth 100000

def figB (i : Nat) : UInt8 := if i < 10 then UInt8.ofNat (48 + i) else UInt8.ofNat (87 + i)

theorem hexAt (i : Nat) (h : i < (⟨#[48, 49, 50, 51, 52, 53, 54, 55, 56, 57, 97, 98, 99, 100, 101, 102]⟩ : ByteArray).size) : (⟨#[48, 49, 50, 51, 52, 53, 54, 55, 56, 57, 97, 98, 99, 100, 101, 102]⟩ : ByteArray)[i]'h = figB i := by
  have h' : i < 16 := h
  have : i = 0 ∨ i = 1 ∨ i = 2 ∨ i = 3 ∨ i = 4 ∨ i = 5 ∨ i = 6 ∨ i = 7 ∨ i = 8 ∨ i = 9 ∨ i = 10 ∨ i = 11 ∨ i = 12 ∨ i = 13 ∨ i = 14 ∨ i = 15 := by omega
  rcases this with rfl | rfl | rfl | rfl | rfl | rfl | rfl | rfl | rfl | rfl | rfl | rfl | rfl | rfl | rfl | rfl <;> rfl

def encL (l : List UInt8) : List UInt8 := l.flatMap fun b => [figB (b.toNat / 16), figB (b.toNat % 16)]

theorem encL_snoc {l : List UInt8} {k : Nat} {b : UInt8} (h : l[k]? = some b) : encL (l.take (k + 1)) = encL (l.take k) ++ [figB (b.toNat / 16), figB (b.toNat % 16)] := by
  rw [take_snoc h]; simp [encL]

theorem and15 (b : UInt8) : bits BinOp.and IntKind.u8 (b.toNat : Int) 15 = (b.toNat : Int) % 16 := by
  have h : b.toNat < 256 := UInt8.toNat_lt b
  have := bits_mask .u8 8 (by decide) (fun n h0 h1 => by rw [IntKind.wrap_u8]; omega) 4 (by decide) (b.toNat : Int) (by omega) (by omega)
  simpa using this

def encS (s : ByteArray) : ByteArray := if s.size ≤ 20000 then ⟨(encL s.data.toList).toArray⟩ else ⟨#[]⟩

theorem encS_yes {s : ByteArray} (h : s.size ≤ 20000) : encS s = ⟨(encL s.data.toList).toArray⟩ := by simp [encS, h]

theorem encS_no {s : ByteArray} (h : ¬ s.size ≤ 20000) : encS s = ⟨#[]⟩ := by simp [encS, h]

theorem impl_EncodeHex {s : ByteArray} {w : World} (hs : s.size ≤ 1048576) :
    Calls Tryd.prog 12 #[.string s] w fun e w' => e = .returned (.tuple #[.string (encS s), .bool (decide (s.size ≤ 20000))]) ∧ Below w.heap.size w w' := by
  by_cases hs3 : 20000 < s.size
  · have S := Lib.hid (encS_no (s := s) (by omega))
    have D : Hid (decide (s.size ≤ 20000) = false) := Lib.hid (decide_eq_false (by omega))
    go_enter Tryd.func12, Tryd.ntmps12
    go_wp2
    go_ret2
    exact ⟨by rw [S.out, D.out]; rfl, by go_grown⟩
  have hs2 : s.size ≤ 20000 := by omega
  clear hs3
  have S := Lib.hid (encS_yes hs2)
  have ho := own_empty w 5 1
  have hg0 : Below w.heap.size w (w.alloc (.cells #[] 5)) := by go_grown
  obtain ⟨i0, hi, hz0, hz1, hz2⟩ := info_parts info_u8
  have HX := hexAt
  go_enter Tryd.func12, Tryd.ntmps12
  go_wp2
  go_loopw [4, 12] (fun v i wr => ∃ (k c' : Nat) (A' : Option Addr), k ≤ s.size ∧ i = .int .i64 k ∧ v = .slice A' (2 * k) c' ∧ wr.ownsRow w.heap.size 5 1 (.slice A' (2 * k) c') (2 * k) (bys (encL (s.data.toList.take k))) ∧ Below w.heap.size w wr) (fun _ i _ => s.size - (intOf i).toNat)
  case atStart => exact ⟨0, 0, _, by omega, rfl, rfl, ho, hg0⟩
  case round =>
    clear ho hg0
    obtain ⟨k, c', A', hk, rfl, rfl, hown, hbel⟩ := hrel
    have zw := hbel.size
    have bA := own_blk hown
    by_cases hlt : k < s.size
    · have l1 : (k : Int) < (s.size : Int) := by omega
      have HE := Lib.hid (encL_snoc (l := s.data.toList) (k := k) (b := s[k]'hlt) (by first | (simp [hlt]; done) | (simp [hlt]; rfl)))
      have ha := and15 (s[k]'hlt)
      have hb := UInt8.toNat_lt (s[k]'hlt)
      have t1 : (((s[k]'hlt).toNat : Int) / 16).toNat = (s[k]'hlt).toNat / 16 := by omega
      have t2 : (((s[k]'hlt).toNat : Int) % 16).toNat = (s[k]'hlt).toNat % 16 := by omega
      have b1 : 0 ≤ ((s[k]'hlt).toNat : Int) / 16 := by omega
      have b2 : ((s[k]'hlt).toNat : Int) / 16 < 16 := by omega
      have b3 : ((s[k]'hlt).toNat : Int) % 16 < 16 := by omega
      have b4 : 0 ≤ ((s[k]'hlt).toNat : Int) % 16 := by omega
      go_wp2
      go_region_held3 (fun _ => True) (exact trivial)
        ((refine step_appm (wr.drewN _) 2 (by rfl) _ _ 24 (by rfl) w.heap.size 5 i0 (.int .u8 0) 1 1 Tryd.underlying24 hi hz0 hz1 hz2 rfl (by decide) (by rfl) (own_drewN hown _) (bys [figB ((s[k]'hlt).toNat / 16), figB ((s[k]'hlt).toNat % 16)]) (by rfl) (bys_one _) (by decide) (by rfl) (by rfl) (by unfold maxLen; omega) (by omega) zw (by rfl) ?_; intro g2 c2 w2 hown2 hg2))
      all_goals
        go_wp2
        go_roundw
        case rel => exact ⟨k + 1, c2, _, by omega, by go_num, rfl, by rw [HE.out, bys_append]; exact hown2, bel_apart (below_drewN hbel _) hg2 bA (Nat.le_refl _)⟩
        case measure => simp [intOf]; omega
    · obtain rfl : k = s.size := by omega
      have hlen : s.data.toList.length = s.size := by first | (simp; done) | (simp; rfl)
      rw [show s.data.toList.take s.size = s.data.toList by rw [List.take_of_length_le (by omega)]] at hown
      have HC := conv_back hown
      have D : Hid (decide (s.size ≤ 20000) = true) := Lib.hid (decide_eq_true hs2)
      clear hown hlen
      go_wp2
      go_ret2
      exact ⟨by rw [S.out, D.out]; rfl, hbel⟩

theorem h2c (a b : Int) : ∀ u ∈ [Value.int .u8 a, Value.int .u8 b], u.oneCell' = true := by simp [Value.oneCell']

def figI (x : Int) : Int := ((figB x.toNat).toNat : Int)

theorem spec_l01Figure {x : Int} {w : World} (h0 : 0 ≤ x) (h : x < 16) :
    Calls Tryd.prog 21 #[.int .i64 x] w fun e w' => e = .returned (.int .u8 (figI x)) ∧ w = w' := by
  by_cases hx : x < 10
  · have e1 : Hid ((48 : Int) + x = figI x) := Lib.hid (by unfold figI figB; rw [if_pos (by omega)]; simp; omega)
    go_enter Tryd.func21, Tryd.ntmps21
    go_wp2
    go_ret
    exact ⟨ret_int e1.out, rfl⟩
  · have e1 : Hid ((97 : Int) + x - 10 = figI x) := Lib.hid (by unfold figI figB; rw [if_neg (by omega)]; simp; omega)
    go_enter Tryd.func21, Tryd.ntmps21
    go_wp2
    go_ret
    exact ⟨ret_int e1.out, rfl⟩
end Go.Proofs.YtjcfdkmlkhgfiaaDoor
