/- Contract of the reference's SplitFields; no condition beyond the string's length. -/
import Derived.Test.YtjcfdkmlkhgfiaaDoorSplit
namespace Go.Proofs.YtjcfdkmlkhgfiaaDoor
open Go.ChangeShapes Go.WideShapes Go.ChangeAt Go.RowKit Go.Deep Go.Joins
set_option maxRecDepth 100000

theorem begin_n (k : Nat) : (none : Option Nat).getD k = k := rfl

set_option maxHeartbeats 4000000 in
theorem spec_SplitFields {s : ByteArray} {w : World} (hs : s.size ≤ 1048576) :
    Calls Tryd.prog 16 #[.string s] w fun e w' => ∃ A' n' c', e = .returned (.tuple #[.slice A' n' c', .bool (fieldsOk s)]) ∧ w'.ownsRow w.heap.size 9 1 (.slice A' n' c') n' (strs (fieldsOf s)) ∧ n' ≤ 1048576 ∧ Below w.heap.size w w' := by
  have ho := own_empty w 9 1
  have hg0 : Below w.heap.size w (w.alloc (.cells #[] 9)) := by go_grown
  by_cases hbig : 600 < s.size
  · have F := Lib.hid (fieldsOk_big hbig)
    have S := Lib.hid (fields_no F.out)
    go_enter Tryd.func16, Tryd.ntmps16
    go_wp2
    go_ret2
    exact ⟨_, 0, 0, by rw [F.out]; rfl, by rw [S.out]; exact ho, by omega, hg0⟩
  have hle : s.size ≤ 600 := by omega
  have hll : s.data.toList.length = s.size := by first | (simp; done) | (simp; rfl)
  have HLL := Lib.hid hll
  clear hll hbig
  obtain ⟨i0, hi, hz0, hz1, hz2⟩ := info_parts info_str
  go_enter Tryd.func16, Tryd.ntmps16
  go_wp2
  go_loopw [4, 5, 6] (fun v f i wr => ∃ (k n' c' B : Nat) (A' : Option Addr) (fs : List ByteArray), k ≤ s.size + 1 ∧ i = .int .i64 k ∧ v = .slice A' n' c' ∧ f = .int .i64 B ∧ n' ≤ k ∧ B ≤ k ∧ Hid (k ≤ s.size → ∃ acc fo, scan s.data.toList k = (acc, fo) ∧ fs = subs s acc ∧ B = fo.getD k ∧ (∀ a, fo = some a → a < k)) ∧ Hid (k = s.size + 1 → fs = subs s (ranges s.data.toList)) ∧ Hid (GoodTo s.data.toList k) ∧ wr.ownsRow w.heap.size 9 1 (.slice A' n' c') n' (strs fs) ∧ Below w.heap.size w wr) (fun _ _ i _ => s.size + 1 - (intOf i).toNat)
  case atStart => exact ⟨0, 0, 0, 0, _, [], by omega, rfl, rfl, rfl, by omega, by omega, Lib.hid (fun _ => ⟨[], none, rfl, rfl, rfl, nofun⟩), Lib.hid (fun h => by omega), Lib.hid (fun i b hi => absurd hi (by omega)), ho, hg0⟩
  case round =>
    clear ho hg0
    obtain ⟨k, n', c', B, A', fs, hk, rfl, rfl, rfl, hn', hBk, H1, H2, HG, hown, hbel⟩ := hrel
    have zw := hbel.size
    have bA := own_blk hown
    by_cases hlt : k < s.size
    · obtain ⟨acc, fo, p1, p2, p3, p4⟩ := H1.out (by omega)
      have HX := Lib.hid (s_get_ hlt)
      have HS := Lib.hid p1; clear p1
      have HFS := Lib.hid p2; clear p2
      have HB := Lib.hid p3; clear p3
      have HF := Lib.hid p4; clear p4
      clear H1 H2
      have l1 : (k : Int) < (s.size : Int) := by omega
      have hb := UInt8.toNat_lt (s[k]'hlt)
      by_cases h32 : (s[k]'hlt).toNat < 32
      · have F := Lib.hid (fieldsOk_bad hlt (.inl h32))
        have S := Lib.hid (fields_no F.out)
        go_wp2
        go_ret2
        exact ⟨_, 0, 0, by rw [F.out]; rfl, by rw [S.out]; exact ownsRow_le (own_empty wr 9 1) zw, by omega, hbel.alloc zw _⟩
      by_cases h126 : 126 < (s[k]'hlt).toNat
      · have F := Lib.hid (fieldsOk_bad hlt (.inr h126))
        have S := Lib.hid (fields_no F.out)
        go_wp2
        go_ret2
        exact ⟨_, 0, 0, by rw [F.out]; rfl, by rw [S.out]; exact ownsRow_le (own_empty wr 9 1) zw, by omega, hbel.alloc zw _⟩
      have HG2 := Lib.hid (HG.out.next HX.out h32 h126)
      by_cases hsp : (s[k]'hlt).toNat = 32
      · have e1 : (((s[k]'hlt).toNat : Int) == 32) = true := by simp [hsp]
        have e2 : (((s[k]'hlt).toNat : Int) != 32) = false := by simp [hsp]
        have HE := Lib.hid hsp
        clear hsp
        cases fo with
        | some a =>
          have ha := HF.out a rfl
          have HN := Lib.hid (scan_ss HS.out HX.out HE.out)
          obtain rfl : B = a := HB.out
          have la : (B : Int) ≤ (k : Int) := by omega
          have lb : (B : Int) < (k : Int) := by omega
          go_wp2_with (at_builtin; refine wp_app_at _ rfl _ _ 29 rfl w.heap.size 9 i0 (.string ⟨#[]⟩) 1 16 Tryd.underlying29 hi hz0 hz1 hz2 rfl (by decide) rfl hown [.string (s.extract B k)] rfl (by simp [Value.oneCell']) rfl rfl (by unfold maxLen; omega) (by omega) zw rfl ?_; intro A2 c2 w2 hown2 hg2)
          go_roundw
          case rel => exact ⟨k + 1, n' + 1, c2, k + 1, A2, subs s (acc ++ [(B, k)]), by omega, by go_num, rfl, by go_num, by omega, by omega, Lib.hid (fun _ => ⟨_, none, HN.out, rfl, rfl, nofun⟩), Lib.hid (fun h => by omega), HG2, by rw [subs_snoc, ← HFS.out]; exact hown2, bel_apart hbel hg2 bA (Nat.le_refl _)⟩
          case measure => first | (simp [intOf]; done) | (simp [intOf]; omega)
        | none =>
          have HN := Lib.hid (scan_sn HS.out HX.out HE.out)
          obtain rfl : B = k := HB.out
          have lb : ¬ (B : Int) < (B : Int) := by omega
          go_wp2
          go_roundw
          case rel => exact ⟨B + 1, n', c', B + 1, A', fs, by omega, by go_num, rfl, by go_num, by omega, by omega, Lib.hid (fun _ => ⟨_, none, HN.out, HFS.out, rfl, nofun⟩), Lib.hid (fun h => by omega), HG2, hown, hbel⟩
          case measure => first | (simp [intOf]; done) | (simp [intOf]; omega)
      · have e1 : (((s[k]'hlt).toNat : Int) == 32) = false := by simp; omega
        have e2 : (((s[k]'hlt).toNat : Int) != 32) = true := by simp; omega
        have HE := Lib.hid hsp
        clear hsp
        have HN : Hid (∃ acc fo, scan s.data.toList (k + 1) = (acc, fo) ∧ fs = subs s acc ∧ B = fo.getD (k + 1) ∧ (∀ a, fo = some a → a < k + 1)) := Lib.hid (by
          cases fo with
          | some a => exact ⟨acc, some a, scan_cs HS.out HX.out HE.out, HFS.out, HB.out, fun x hx => by injection hx with hx; have := HF.out a rfl; omega⟩
          | none => exact ⟨acc, some k, scan_cn HS.out HX.out HE.out, HFS.out, HB.out, fun x hx => by injection hx with hx; omega⟩)
        go_wp2
        go_roundw
        case rel => exact ⟨k + 1, n', c', B, A', fs, by omega, by go_num, rfl, rfl, by omega, by omega, Lib.hid (fun _ => HN.out), Lib.hid (fun h => by omega), HG2, hown, hbel⟩
        case measure => first | (simp [intOf]; done) | (simp [intOf]; omega)
    · by_cases hke : k = s.size
      · subst hke
        obtain ⟨acc, fo, p1, p2, p3, p4⟩ := H1.out (by omega)
        have HS := Lib.hid p1; clear p1
        have HFS := Lib.hid p2; clear p2
        have HB := Lib.hid p3; clear p3
        have HF := Lib.hid p4; clear p4
        have HG2 : Hid (GoodTo s.data.toList (s.size + 1)) := Lib.hid (fun i b hi hb => HG.out i b (by have := (List.getElem?_eq_some_iff.1 hb).1; have := HLL.out; omega) hb)
        clear H1 H2
        cases fo with
        | some a =>
          have ha := HF.out a rfl
          have RG := Lib.hid (ranges_s (l := s.data.toList) (by rw [HLL.out]; exact HS.out))
          obtain rfl : B = a := HB.out
          have la : (B : Int) ≤ (s.size : Int) := by omega
          have lb : (B : Int) < (s.size : Int) := by omega
          go_wp2_with (at_builtin; refine wp_app_at _ rfl _ _ 29 rfl w.heap.size 9 i0 (.string ⟨#[]⟩) 1 16 Tryd.underlying29 hi hz0 hz1 hz2 rfl (by decide) rfl hown [.string (s.extract B s.size)] rfl (by simp [Value.oneCell']) rfl rfl (by unfold maxLen; omega) (by omega) zw rfl ?_; intro A2 c2 w2 hown2 hg2)
          go_roundw
          case rel => exact ⟨s.size + 1, n' + 1, c2, s.size + 1, A2, subs s (acc ++ [(B, s.size)]), by omega, by go_num, rfl, by go_num, by omega, by omega, Lib.hid (fun h => by omega), Lib.hid (fun _ => by rw [RG.out, HLL.out]), HG2, by rw [subs_snoc, ← HFS.out]; exact hown2, bel_apart hbel hg2 bA (Nat.le_refl _)⟩
          case measure => first | (simp [intOf]; done) | (simp [intOf]; omega)
        | none =>
          have RG := Lib.hid (ranges_n (l := s.data.toList) (by rw [HLL.out]; exact HS.out))
          have HBs : Hid (B = s.size) := Lib.hid HB.out
          have lb : ¬ (B : Int) < (s.size : Int) := by have := HBs.out; omega
          go_wp2
          go_roundw
          case rel => exact ⟨s.size + 1, n', c', s.size + 1, A', fs, by omega, by go_num, rfl, by go_num, by omega, by omega, Lib.hid (fun h => by omega), Lib.hid (fun _ => by rw [RG.out]; exact HFS.out), HG2, hown, hbel⟩
          case measure => first | (simp [intOf]; done) | (simp [intOf]; omega)
      · have HFS := Lib.hid (H2.out (by omega))
        have hke : k = s.size + 1 := by omega
        have HGs : Hid (GoodTo s.data.toList s.size) := Lib.hid (fun i b hi hb => HG.out i b (by omega) hb)
        have FL := Lib.hid (fieldsOk_len hle HGs.out)
        have HN1 : Hid (n' = (ranges s.data.toList).length) := Lib.hid (by rw [own_lenS hown, HFS.out]; simp [subs])
        have l1 : ¬ (k : Int) ≤ (s.size : Int) := by omega
        clear H1 H2
        by_cases h24 : n' ≤ 24
        · have F : Hid (fieldsOk s = true) := Lib.hid (by rw [FL.out]; exact decide_eq_true (by have := HN1.out; omega))
          have S := Lib.hid (fields_yes F.out)
          clear hke
          go_wp2
          go_ret2
          exact ⟨A', n', c', by rw [F.out]; rfl, by rw [S.out, ← HFS.out]; exact hown, by omega, hbel⟩
        · have F : Hid (fieldsOk s = false) := Lib.hid (by rw [FL.out]; exact decide_eq_false (by have := HN1.out; omega))
          have S := Lib.hid (fields_no F.out)
          clear hke
          go_wp2
          go_ret2
          exact ⟨_, 0, 0, by rw [F.out]; rfl, by rw [S.out]; exact ownsRow_le (own_empty wr 9 1) zw, by omega, hbel.alloc zw _⟩
end Go.Proofs.YtjcfdkmlkhgfiaaDoor
