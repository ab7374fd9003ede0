/- The draws of texts; no condition beyond the length of the code. -/
import Derived.Test.YtjcfdkmlkhgfiaaDoorStr
import Derived.Test.YtjcfdkmlkhgfiaaDoorDraw2
namespace Go.Proofs.YtjcfdkmlkhgfiaaDoor
open Go.ChangeShapes Go.WideShapes Go.ChangeAt Go.RowKit Go.Deep Go.Joins
set_option maxRecDepth 100000

theorem own_u8 {w : World} {base n c k : Nat} {A : Option Addr} {l : List UInt8} (h : w.ownsRow base 5 1 (.slice A n c) n (bys l)) (hk : k < n) :
    ∃ g, A = some ⟨g, 0, none⟩ ∧ base ≤ g ∧ g < w.heap.size ∧ (∃ v, w.cell? ⟨g, k, none⟩ = some v) ∧ w.frozen? ⟨g, k, none⟩ = false ∧ ∀ b : UInt8, (w.setCell ⟨g, k, none⟩ (.int .u8 (b.toNat : Int))).ownsRow base 5 1 (.slice A n c) n (bys (l.set k b)) := by
  have hl : l.length = n := by have := h.1; rw [bys_length] at this; omega
  have hx : l[k]? = some (l[k]'(by omega)) := List.getElem?_eq_getElem (by omega)
  have e1 : bys l = bys (l.take k) ++ .int .u8 ((l[k]'(by omega)).toNat : Int) :: bys (l.drop (k + 1)) := by
    conv => lhs; rw [← List.take_append_drop k l, drop_cons hx]
    rw [bys_append]; rfl
  rw [e1] at h
  obtain ⟨g, rfl, h1, h2, h3, h4⟩ := own_at h (m := k) (by rw [bys_length, take_len hx])
  refine ⟨g, rfl, h1, h2, ⟨_, h3⟩, h4, fun b => ?_⟩
  have e2 : bys (l.set k b) = bys (l.take k) ++ .int .u8 (b.toNat : Int) :: bys (l.drop (k + 1)) := by
    rw [List.set_eq_take_append_cons_drop, if_pos (by omega), bys_append]; rfl
  rw [e2]
  exact own_set h (by rw [bys_length, take_len hx]) _
def repB (n : Nat) (b : UInt8) : List UInt8 := List.replicate n b

theorem made_u8 (n : Nat) : madeCells (Value.int .u8 0).cells n = (bys (List.replicate n 0)).toArray := by
  have h : ∀ x : Nat, ([Value.int IntKind.u8 0][x % 1]?).getD default = Value.int .u8 0 := fun x => by rw [Nat.mod_one]; rfl
  apply Array.ext'
  simp [madeCells, bys, Value.cells, h, List.map_const']

set_option maxHeartbeats 2000000 in
theorem spec_l01Long {n : Nat} {b : UInt8} {x : Int} {w : World} (hx : x = (b.toNat : Int)) (hn : n ≤ 1048576) :
    Calls Tryd.prog 25 #[.int .i64 (n : Int), .int .u8 x] w fun e w' => e = .returned (.string ⟨(repB n b).toArray⟩) ∧ Below w.heap.size w w' := by
  subst hx
  obtain ⟨i0, hi, hz0, hz1, hz2⟩ := info_parts info_u8
  have hmk := fun W => run_make_rowN (P := Tryd.prog) 24 5 i0 _ Tryd.underlying24 hi hz0 .i64 .i64 n n (Nat.le_refl _) (by rw [hz2]; omega) (by omega) W
  rw [hz1] at hmk
  simp only [Nat.mul_one, made_u8] at hmk
  have ho : (w.alloc (.cells (bys (List.replicate n 0)).toArray 5)).ownsRow w.heap.size 5 1 (.slice (some ⟨w.heap.size, 0, none⟩) n n) n (bys (List.replicate n 0)) :=
    (Row.new w 5 (bys (List.replicate n 0))).own (Nat.le_refl _) (Nat.le_refl n) (by unfold maxLen; omega) (by simp [bys]) (by rw [List.take_of_length_le (by simp [bys])])
  have hb0 : Below w.heap.size w (w.alloc (.cells (bys (List.replicate n 0)).toArray 5)) := by go_grown
  clear hi hz0 hz1 hz2
  go_enter Tryd.func25, Tryd.ntmps25
  go_wp2
  clear hmk
  go_loopw [6] (fun iv wr => ∃ (k : Nat) (l : List UInt8), k ≤ n ∧ iv = .int .i64 k ∧ wr.ownsRow w.heap.size 5 1 (.slice (some ⟨w.heap.size, 0, none⟩) n n) n (bys l) ∧ l.take k = repB k b ∧ Below w.heap.size w wr) (fun iv _ => n - (intOf iv).toNat)
  case atStart => exact ⟨0, _, by omega, rfl, ho, rfl, hb0⟩
  case round =>
    clear ho hb0
    obtain ⟨k, l, hk, rfl, hown, htk, hbel⟩ := hrel
    have hl : l.length = n := by have := hown.1; rw [bys_length] at this; omega
    by_cases hlt : k < n
    · obtain ⟨g, e, hg0, hg1, ⟨cv, c0⟩, f0, hset⟩ := own_u8 hown hlt
      injection e with e
      injection e with e _
      subst e
      have HS := Lib.hid (hset b)
      have HT : Hid ((l.set k b).take (k + 1) = repB (k + 1) b) := Lib.hid (by
        have h1 : (l.set k b)[k]? = some b := by rw [List.getElem?_set_self (by omega)]
        rw [take_snoc h1, List.take_set_of_le (Nat.le_refl k), htk]
        simp [repB, List.replicate_succ'])
      have lk : (k : Int) < (n : Int) := by omega
      clear hset hown htk hl
      go_wp2
      go_roundw
      case rel => exact ⟨k + 1, l.set k b, by omega, by go_num, HS.out, HT.out, hbel.setCell (p := ⟨w.heap.size, k, none⟩) (Nat.le_refl _) _⟩
      case measure => simp [intOf]; omega
    · obtain rfl : k = n := by omega
      have e : l = repB k b := by rw [← htk, List.take_of_length_le (by omega)]
      subst e
      have HC := conv_back hown
      clear hown htk hl
      go_wp2
      go_ret
      exact ⟨rfl, hbel⟩

def DrawnText (W0 w : World) (G : Nat) (A : Option Addr) (n c : Nat) (bs : List Int) (m : Nat) (e : Ending) (w' : World) : Prop :=
  ∃ l : List UInt8, l.length = m ∧ e = .returned (.string ⟨l.toArray⟩) ∧ Cur W0 w' G A n c bs

set_option maxHeartbeats 2000000 in
theorem spec_l01Text {W0 w : World} {G n c m : Nat} {A : Option Addr} {bs : List Int} (hc : Cur W0 w G A n c bs) (hm : m ≤ 5000) :
    Calls Tryd.prog 27 #[.pointer (some ⟨G, 0, none⟩), .int .i64 (m : Int)] w (DrawnText W0 w G A n c bs m) := by
  obtain ⟨i0, hi, hz0, hz1, hz2⟩ := info_parts info_u8
  have zG := hc.lt
  have ho := own_empty w 5 1
  have HC0 := Lib.hid (hc.alloc (.cells #[] 5))
  have hz : w.heap.size ≤ (w.alloc (.cells #[] 5)).heap.size := by simp
  clear hc
  go_enter Tryd.func27, Tryd.ntmps27
  go_wp2
  go_loopw [5, 6] (fun ov iv wr => ∃ (k d : Nat) (B : Option Addr) (l : List UInt8), k ≤ m ∧ iv = .int .i64 k ∧ ov = .slice B k d ∧ wr.ownsRow w.heap.size 5 1 (.slice B k d) k (bys l) ∧ Cur W0 wr G A n c bs ∧ w.heap.size ≤ wr.heap.size) (fun _ iv _ => m - (intOf iv).toNat)
  case atStart => exact ⟨0, 0, _, [], by omega, rfl, rfl, ho, HC0.out, hz⟩
  case round =>
    clear ho hz
    obtain ⟨k, d, B, l, hk, rfl, rfl, hown, hcur, zr⟩ := hrel
    have hl : l.length = k := by have := hown.1; rw [bys_length] at this; omega
    have HL := Lib.hid hl
    clear hl
    by_cases hlt : k < m
    · have lk : (k : Int) < (m : Int) := by omega
      have HCU := Lib.hid hcur
      clear hcur
      go_wp2_with fail
      refine (spec_l01Byte HCU.out).mono ?_
      rintro e w2 ⟨v, v0, v1, rfl, hc2, hg2⟩
      have ho2 := own_cur hown hg2 (own_blk hown) (by omega)
      have HC2 := Lib.hid hc2
      have z2 : w.heap.size ≤ w2.heap.size := by have := hg2.size; omega
      have bB := own_blk ho2
      have t1 : IntKind.u8.wrap v = v := by rw [IntKind.wrap_u8]; omega
      have hby := byte1 v0 v1
      have HBY := Lib.hid hby
      clear hown hc2 hg2 hby
      go_wp2_with (at_builtin; refine wp_app rfl _ _ 24 rfl w.heap.size 5 i0 (.int .u8 0) 1 1 Tryd.underlying24 hi hz0 hz1 hz2 rfl (by decide) rfl ho2 [.int .u8 v] rfl (by simp [Value.oneCell']) rfl (by simp) (by unfold maxLen; omega) (by omega) z2 ?_; intro B4 c4 w4 hown4 hg4)
      go_roundw
      case rel => exact ⟨k + 1, c4, B4, l ++ [UInt8.ofNat v.toNat], by omega, by go_num, rfl, by rw [bys_append, ← HBY.out]; exact hown4, HC2.out.apart hg4 bB (by omega), by have := hg4.size; omega⟩
      case measure => simp [intOf]; omega
    · obtain rfl : k = m := by omega
      have HC := conv_back hown
      have HCU := Lib.hid hcur
      clear hown hcur
      go_wp2
      go_ret
      exact ⟨l, HL.out, rfl, HCU.out⟩

/-- A drawn text of at most 20001 bytes. -/
def DrawnStr (w : World) (M : Nat) (e : Ending) (w' : World) : Prop :=
  ∃ l : List UInt8, l.length ≤ M ∧ e = .returned (.string ⟨l.toArray⟩) ∧ Below w.heap.size w w'

theorem spec_DrawEncodeHex {w : World} {n c : Nat} {A : Option Addr} {bs : List Int} (hr : Reads w 1 A n (u8s bs)) (hb : ∀ x ∈ bs, 0 ≤ x ∧ x ≤ 255) (hn : n ≤ 1048576) :
    Calls Tryd.prog 11 #[.slice A n c] w (DrawnStr w 20001) := by
  go_enter Tryd.func11, Tryd.ntmps11
  go_wp2_with fail
  refine (spec_l01New hr hb hn).mono ?_
  rintro e w1 ⟨G, rfl, hc1, hG, hb1⟩
  have HC1 := Lib.hid hc1
  clear hc1
  go_wp2_with fail
  refine (spec_l01Once HC1.out (by omega) (by omega)).mono ?_
  rintro e w2 ⟨b, rfl, hc2, hg2⟩
  have HC2 := Lib.hid hc2
  clear hc2 hg2 hb1 HC1
  cases b with
  | true =>
    go_wp2_with fail
    refine (spec_l01Below HC2.out (by omega) (by omega)).mono ?_
    rintro e w3 ⟨v, v0, v1, rfl, hc3, hg3⟩
    have hB := hc3.base
    obtain ⟨q, rfl⟩ := Int.eq_ofNat_of_zero_le v0
    clear hc3 hg3
    go_wp2_with fail
    refine (spec_l01Long (n := 20000 + q) (b := 200) rfl (by omega)).mono ?_
    rintro e w4 ⟨rfl, hb4⟩
    go_wp2
    go_ret
    exact ⟨repB (20000 + q) 200, by simp [repB]; omega, rfl, hB.trans (hb4.mono hB.size)⟩
  | false =>
    go_wp2_with fail
    refine (spec_l01Below HC2.out (by omega) (by omega)).mono ?_
    rintro e w3 ⟨v, v0, v1, rfl, hc3, hg3⟩
    obtain ⟨q, rfl⟩ := Int.eq_ofNat_of_zero_le v0
    have HC3 := Lib.hid hc3
    clear hc3 hg3
    go_wp2_with fail
    refine (spec_l01Text (m := q) HC3.out (by omega)).mono ?_
    rintro e w4 ⟨l, hl, rfl, hc4⟩
    have hB := hc4.base
    have HL := Lib.hid hl
    clear hc4 hl
    go_wp2
    go_ret
    exact ⟨l, by have := HL.out; omega, rfl, hB⟩
end Go.Proofs.YtjcfdkmlkhgfiaaDoor
