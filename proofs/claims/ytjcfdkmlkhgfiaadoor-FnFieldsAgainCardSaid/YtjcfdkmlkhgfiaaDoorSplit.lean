/- Contract of the program's SplitFields, and the plain law of scanning a line; no condition beyond the string's length. -/
import Derived.Test.YtjcfdkmlkhgfiaaDoorStr
import Derived.IntWalk
namespace Go.Proofs.YtjcfdkmlkhgfiaaDoor
open Go.ChangeShapes Go.WideShapes Go.ChangeAt Go.RowKit Go.Deep Go.Joins
set_option maxRecDepth 100000

def strs (l : List ByteArray) : List Value := l.map Value.string

theorem strs_length (l : List ByteArray) : (strs l).length = l.length := by simp [strs]

theorem strs_append (a b : List ByteArray) : strs (a ++ b) = strs a ++ strs b := by simp [strs]

theorem strs_get (l : List ByteArray) (k : Nat) : (strs l)[k]? = (l[k]?).map Value.string := by simp [strs]

theorem info_str : (Tryd.prog.info? 9).map (fun i => (i.zero, i.size, i.bytes)) = some (some (.string ⟨#[]⟩), 1, 16) := by kernel_rfl

theorem own_lenS {w : World} {base n c : Nat} {e : TypeId} {A : Option Addr} {xs : List ByteArray} (h : w.ownsRow base e 1 (.slice A n c) n (strs xs)) : n = xs.length := by
  have := h.1
  rw [strs_length] at this
  omega

theorem s_get_ {s : ByteArray} {k : Nat} (h : k < s.size) : s.data.toList[k]? = some (s[k]'h) := by
  have h' : k < s.data.size := h
  rw [Array.getElem?_toList, Array.getElem?_eq_getElem h']; rfl

def scan (l : List UInt8) : Nat → List (Nat × Nat) × Option Nat
  | 0 => ([], none)
  | i + 1 => match l[i]?, scan l i with
    | some b, (acc, some a) => if b.toNat = 32 then (acc ++ [(a, i)], none) else (acc, some a)
    | some b, (acc, none) => if b.toNat = 32 then (acc, none) else (acc, some i)
    | none, st => st

theorem scan_ss {l : List UInt8} {i a : Nat} {b : UInt8} {acc : List (Nat × Nat)} (h : scan l i = (acc, some a)) (hb : l[i]? = some b) (e : b.toNat = 32) : scan l (i + 1) = (acc ++ [(a, i)], none) := by simp [scan, h, hb, e]

theorem scan_sn {l : List UInt8} {i : Nat} {b : UInt8} {acc : List (Nat × Nat)} (h : scan l i = (acc, none)) (hb : l[i]? = some b) (e : b.toNat = 32) : scan l (i + 1) = (acc, none) := by simp [scan, h, hb, e]

theorem scan_cs {l : List UInt8} {i a : Nat} {b : UInt8} {acc : List (Nat × Nat)} (h : scan l i = (acc, some a)) (hb : l[i]? = some b) (e : b.toNat ≠ 32) : scan l (i + 1) = (acc, some a) := by simp [scan, h, hb, e]

theorem scan_cn {l : List UInt8} {i : Nat} {b : UInt8} {acc : List (Nat × Nat)} (h : scan l i = (acc, none)) (hb : l[i]? = some b) (e : b.toNat ≠ 32) : scan l (i + 1) = (acc, some i) := by simp [scan, h, hb, e]

def badB (b : UInt8) : Bool := decide (b.toNat < 32 ∨ 126 < b.toNat)

def ranges (l : List UInt8) : List (Nat × Nat) := match scan l l.length with
  | (acc, some a) => acc ++ [(a, l.length)]
  | (acc, none) => acc

theorem ranges_s {l : List UInt8} {a : Nat} {acc : List (Nat × Nat)} (h : scan l l.length = (acc, some a)) : ranges l = acc ++ [(a, l.length)] := by simp [ranges, h]

theorem ranges_n {l : List UInt8} {acc : List (Nat × Nat)} (h : scan l l.length = (acc, none)) : ranges l = acc := by simp [ranges, h]

def subs (s : ByteArray) (rs : List (Nat × Nat)) : List ByteArray := rs.map fun r => s.extract r.1 r.2

theorem subs_snoc (s : ByteArray) (rs : List (Nat × Nat)) (a b : Nat) : strs (subs s (rs ++ [(a, b)])) = strs (subs s rs) ++ [.string (s.extract a b)] := by simp [subs, strs]

def fieldsOk (s : ByteArray) : Bool := decide (s.size ≤ 600) && (!s.data.toList.any badB && decide ((ranges s.data.toList).length ≤ 24))

def fieldsOf (s : ByteArray) : List ByteArray := if fieldsOk s then subs s (ranges s.data.toList) else []

theorem fields_no {s : ByteArray} (h : fieldsOk s = false) : fieldsOf s = [] := by simp [fieldsOf, h]

theorem fields_yes {s : ByteArray} (h : fieldsOk s = true) : fieldsOf s = subs s (ranges s.data.toList) := by simp [fieldsOf, h]

theorem fieldsOk_big {s : ByteArray} (h : 600 < s.size) : fieldsOk s = false := by
  have : decide (s.size ≤ 600) = false := decide_eq_false (by omega)
  simp [fieldsOk, this]

theorem fieldsOk_bad {s : ByteArray} {k : Nat} (hk : k < s.size) (h : (s[k]'hk).toNat < 32 ∨ 126 < (s[k]'hk).toNat) : fieldsOk s = false := by
  have : s.data.toList.any badB = true := List.any_eq_true.2 ⟨s[k]'hk, List.mem_of_getElem? (s_get_ hk), decide_eq_true h⟩
  simp [fieldsOk, this]

def GoodTo (l : List UInt8) (k : Nat) : Prop := ∀ i b, i < k → l[i]? = some b → badB b = false

theorem GoodTo.next {l : List UInt8} {k : Nat} {b : UInt8} (h : GoodTo l k) (hb : l[k]? = some b) (h1 : ¬ b.toNat < 32) (h2 : ¬ 126 < b.toNat) : GoodTo l (k + 1) := by
  intro i c hi hc
  rcases Nat.lt_or_ge i k with hlt | hge
  · exact h i c hlt hc
  · obtain rfl : i = k := by omega
    rw [hb] at hc
    obtain rfl := Option.some.inj hc
    exact decide_eq_false (by omega)

theorem fieldsOk_len {s : ByteArray} (hs : s.size ≤ 600) (h : GoodTo s.data.toList s.size) : fieldsOk s = decide ((ranges s.data.toList).length ≤ 24) := by
  have hl : s.data.toList.length = s.size := by first | (simp; done) | (simp; rfl)
  have h1 : s.data.toList.any badB = false := by
    rw [List.any_eq_false]
    intro b hb
    obtain ⟨i, hi⟩ := List.getElem?_of_mem hb
    rw [h i b (by have := (List.getElem?_eq_some_iff.1 hi).1; omega) hi]
    simp
  have h2 : decide (s.size ≤ 600) = true := decide_eq_true hs
  simp [fieldsOk, h1, h2]

def fI : Option Nat → Int
  | none => -1
  | some a => (a : Int)

set_option maxHeartbeats 4000000 in
theorem impl_SplitFields {s : ByteArray} {w : World} (hs : s.size ≤ 1048576) :
    Calls Tryd.prog 15 #[.string s] w fun e w' => ∃ A' n' c', e = .returned (.tuple #[.slice A' n' c', .bool (fieldsOk s)]) ∧ w'.ownsRow w.heap.size 9 1 (.slice A' n' c') n' (strs (fieldsOf s)) ∧ n' ≤ 1048576 ∧ Below w.heap.size w w' := by
  by_cases hbig : 600 < s.size
  · have F := Lib.hid (fieldsOk_big hbig)
    have S := Lib.hid (fields_no F.out)
    go_enter Tryd.func15, Tryd.ntmps15
    go_wp2
    go_ret2
    exact ⟨none, 0, 0, by rw [F.out]; rfl, by rw [S.out]; exact World.ownsRow_nil _ _ _ _, by omega, by go_grown⟩
  have hle : s.size ≤ 600 := by omega
  have hll : s.data.toList.length = s.size := by first | (simp; done) | (simp; rfl)
  have HLL := Lib.hid hll
  clear hll hbig
  have ho := own_empty w 9 1
  have hg0 : Below w.heap.size w (w.alloc (.cells #[] 9)) := by go_grown
  obtain ⟨i0, hi, hz0, hz1, hz2⟩ := info_parts info_str
  go_enter Tryd.func15, Tryd.ntmps15
  go_wp2
  go_loopw [4, 5, 13] (fun v f i wr => ∃ (k n' c' : Nat) (A' : Option Addr) (acc : List (Nat × Nat)) (fo : Option Nat), k ≤ s.size ∧ i = .int .i64 k ∧ v = .slice A' n' c' ∧ f = .int .i64 (fI fo) ∧ n' ≤ k ∧ (∀ a, fo = some a → a < k) ∧ Hid (scan s.data.toList k = (acc, fo)) ∧ Hid (GoodTo s.data.toList k) ∧ wr.ownsRow w.heap.size 9 1 (.slice A' n' c') n' (strs (subs s acc)) ∧ Below w.heap.size w wr) (fun _ _ i _ => s.size - (intOf i).toNat)
  case atStart => exact ⟨0, 0, 0, _, [], none, by omega, rfl, rfl, rfl, by omega, nofun, Lib.hid rfl, Lib.hid (fun i b hi => absurd hi (by omega)), ho, hg0⟩
  case round =>
    clear ho hg0
    obtain ⟨k, n', c', A', acc, fo, hk, rfl, rfl, rfl, hn', hfo, HS, HG, hown, hbel⟩ := hrel
    have HF := Lib.hid hfo
    clear hfo
    have zw := hbel.size
    have bA := own_blk hown
    by_cases hlt : k < s.size
    · have HX := Lib.hid (s_get_ hlt)
      have l1 : (k : Int) < (s.size : Int) := by omega
      have hb := UInt8.toNat_lt (s[k]'hlt)
      by_cases h32 : (s[k]'hlt).toNat < 32
      · have F := Lib.hid (fieldsOk_bad hlt (.inl h32))
        have S := Lib.hid (fields_no F.out)
        go_wp2
        go_ret2
        exact ⟨none, 0, 0, by rw [F.out]; rfl, by rw [S.out]; exact World.ownsRow_nil _ _ _ _, by omega, hbel⟩
      by_cases h126 : 126 < (s[k]'hlt).toNat
      · have F := Lib.hid (fieldsOk_bad hlt (.inr h126))
        have S := Lib.hid (fields_no F.out)
        go_wp2
        go_ret2
        exact ⟨none, 0, 0, by rw [F.out]; rfl, by rw [S.out]; exact World.ownsRow_nil _ _ _ _, by omega, hbel⟩
      have HG2 := Lib.hid (HG.out.next HX.out h32 h126)
      by_cases hsp : (s[k]'hlt).toNat = 32
      · have e1 : (((s[k]'hlt).toNat : Int) == 32) = true := by simp [hsp]
        have e2 : (((s[k]'hlt).toNat : Int) != 32) = false := by simp [hsp]
        have HE := Lib.hid hsp
        clear hsp
        cases fo with
        | some a =>
          have ha := HF.out a rfl
          have HN := Lib.hid (scan_ss HS.out HX.out HE.out)
          have la : (a : Int) ≤ (k : Int) := by omega
          simp only [fI]
          go_wp2_with (at_builtin; refine wp_app_at _ rfl _ _ 29 rfl w.heap.size 9 i0 (.string ⟨#[]⟩) 1 16 Tryd.underlying29 hi hz0 hz1 hz2 rfl (by decide) rfl hown [.string (s.extract a k)] rfl (by simp [Value.oneCell']) rfl rfl (by unfold maxLen; omega) (by omega) zw rfl ?_; intro A2 c2 w2 hown2 hg2)
          go_roundw
          case rel => exact ⟨k + 1, n' + 1, c2, A2, _, none, by omega, by go_num, rfl, rfl, by omega, nofun, HN, HG2, by rw [subs_snoc]; exact hown2, bel_apart hbel hg2 bA (Nat.le_refl _)⟩
          case measure => simp [intOf]; omega
        | none =>
          have HN := Lib.hid (scan_sn HS.out HX.out HE.out)
          simp only [fI]
          go_wp2
          go_roundw
          case rel => exact ⟨k + 1, n', c', A', _, none, by omega, by go_num, rfl, rfl, by omega, nofun, HN, HG2, hown, hbel⟩
          case measure => simp [intOf]; omega
      · have e1 : (((s[k]'hlt).toNat : Int) == 32) = false := by simp; omega
        have e2 : (((s[k]'hlt).toNat : Int) != 32) = true := by simp; omega
        have HE := Lib.hid hsp
        clear hsp
        cases fo with
        | some a =>
          have ha := HF.out a rfl
          have HN := Lib.hid (scan_cs HS.out HX.out HE.out)
          simp only [fI]
          go_wp2
          go_roundw
          case rel => exact ⟨k + 1, n', c', A', _, some a, by omega, by go_num, rfl, rfl, by omega, fun x hx => by injection hx with hx; omega, HN, HG2, hown, hbel⟩
          case measure => simp [intOf]; omega
        | none =>
          have HN := Lib.hid (scan_cn HS.out HX.out HE.out)
          simp only [fI]
          go_wp2
          go_roundw
          case rel => exact ⟨k + 1, n', c', A', _, some k, by omega, by go_num, rfl, rfl, by omega, fun x hx => by injection hx with hx; omega, HN, HG2, hown, hbel⟩
          case measure => simp [intOf]; omega
    · obtain rfl : k = s.size := by omega
      have FL := Lib.hid (fieldsOk_len hle HG.out)
      have hn1 := own_lenS hown
      have HN1 : Hid (n' = acc.length) := Lib.hid (by rw [hn1]; simp [subs])
      clear hn1
      cases fo with
      | some a =>
        have ha := HF.out a rfl
        have RG := Lib.hid (ranges_s (l := s.data.toList) (by rw [HLL.out]; exact HS.out))
        have la : (a : Int) ≤ (s.size : Int) := by omega
        simp only [fI]
        by_cases h24 : n' + 1 ≤ 24
        · have F : Hid (fieldsOk s = true) := Lib.hid (by rw [FL.out, RG.out]; exact decide_eq_true (by simp; have := HN1.out; omega))
          have S := Lib.hid (fields_yes F.out)
          go_wp2_with (at_builtin; refine wp_app_at _ rfl _ _ 29 rfl w.heap.size 9 i0 (.string ⟨#[]⟩) 1 16 Tryd.underlying29 hi hz0 hz1 hz2 rfl (by decide) rfl hown [.string (s.extract a s.size)] rfl (by simp [Value.oneCell']) rfl rfl (by unfold maxLen; omega) (by omega) zw rfl ?_; intro A2 c2 w2 hown2 hg2)
          go_ret2
          exact ⟨A2, n' + 1, c2, by rw [F.out]; rfl, by rw [S.out, RG.out, HLL.out, subs_snoc]; exact hown2, by omega, bel_apart hbel hg2 bA (Nat.le_refl _)⟩
        · have F : Hid (fieldsOk s = false) := Lib.hid (by rw [FL.out, RG.out]; exact decide_eq_false (by simp; have := HN1.out; omega))
          have S := Lib.hid (fields_no F.out)
          go_wp2_with (at_builtin; refine wp_app_at _ rfl _ _ 29 rfl w.heap.size 9 i0 (.string ⟨#[]⟩) 1 16 Tryd.underlying29 hi hz0 hz1 hz2 rfl (by decide) rfl hown [.string (s.extract a s.size)] rfl (by simp [Value.oneCell']) rfl rfl (by unfold maxLen; omega) (by omega) zw rfl ?_; intro A2 c2 w2 hown2 hg2)
          go_ret2
          exact ⟨none, 0, 0, by rw [F.out]; rfl, by rw [S.out]; exact World.ownsRow_nil _ _ _ _, by omega, bel_apart hbel hg2 bA (Nat.le_refl _)⟩
      | none =>
        have RG := Lib.hid (ranges_n (l := s.data.toList) (by rw [HLL.out]; exact HS.out))
        simp only [fI]
        by_cases h24 : n' ≤ 24
        · have F : Hid (fieldsOk s = true) := Lib.hid (by rw [FL.out, RG.out]; exact decide_eq_true (by have := HN1.out; omega))
          have S := Lib.hid (fields_yes F.out)
          go_wp2
          go_ret2
          exact ⟨A', n', c', by rw [F.out]; rfl, by rw [S.out, RG.out]; exact hown, by omega, hbel⟩
        · have F : Hid (fieldsOk s = false) := Lib.hid (by rw [FL.out, RG.out]; exact decide_eq_false (by have := HN1.out; omega))
          have S := Lib.hid (fields_no F.out)
          go_wp2
          go_ret2
          exact ⟨none, 0, 0, by rw [F.out]; rfl, by rw [S.out]; exact World.ownsRow_nil _ _ _ _, by omega, hbel⟩
end Go.Proofs.YtjcfdkmlkhgfiaaDoor
