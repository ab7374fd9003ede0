/- Contracts of ParseUint of both sides; conditions: the text's length, the table and the error variable as laid. -/
import Derived.Test.YtjcfdkmlkhgfiaaDoorVars
import Derived.Test.YtjcfdkmlkhgfiaaDoorIn
import Derived.Lib.QuietBelow
import Derived.Lib.AtoiErrMem
import Derived.Lib.SlicesS
namespace Go.Proofs.YtjcfdkmlkhgfiaaDoor
open Go.ChangeShapes Go.WideShapes Go.ChangeAt Go.RowKit Go.Deep Go.Joins
set_option maxRecDepth 100000
open Go.Sort

theorem atoi_no {s : ByteArray} {w : World} (hz : s.size ≤ 10) (h : Lib.atoi s.data.toList = none) (hv : Vars w) :
    Calls Tryd.prog 30 #[.string s] w fun e w' => ∃ N, e = .returned (.tuple #[.int .i64 0, .iface 62 (.pointer (some ⟨N, 0, none⟩))]) ∧ Below w.heap.size w w' := by
  obtain ⟨_, tp, p, hvar⟩ := hv
  have hl : s.data.toList.length ≤ 18 := by
    have : s.data.toList.length = s.size := by rw [Array.length_toList]; rfl
    omega
  refine (Any.strconv_Atoi_syntax_var Tryd.laysC172 s (by omega) (by rw [Lib.atoiAll_short _ hl, h]; rfl) tp p w hvar).mono ?_
  rintro e w' ⟨N, rfl, -, -, hb⟩
  exact ⟨N, rfl, hb⟩

theorem atoi_yes {s : ByteArray} {w : World} {v : Int} (hz : s.size ≤ 10) (h : Lib.atoi s.data.toList = some v) :
    Calls Tryd.prog 30 #[.string s] w fun e w' => e = .returned (.tuple #[.int .i64 v, .nilIface]) ∧ Below w.heap.size w w' := by
  refine (Tryd.strconv_Atoi s v (by omega) h w).mono ?_
  rintro e w' ⟨rfl, t, rfl⟩
  exact ⟨rfl, Lib.bytesWorld_below _ _ _⟩

/-- What both sides answer. -/
def puS (s : ByteArray) : Int × Bool := if 10 < s.size then (0, false) else pu s.data.toList

theorem puS_long {s : ByteArray} (h : 10 < s.size) : puS s = (0, false) := if_pos h

theorem puS_in {s : ByteArray} (h : ¬ 10 < s.size) : puS s = pu s.data.toList := if_neg h

theorem str_eq (l : List UInt8) (s : ByteArray) : ((⟨l.toArray⟩ : ByteArray) = s) ↔ l = s.data.toList := by
  constructor
  · rintro rfl; simp
  · rintro rfl
    apply ByteArray.ext
    simp

theorem itoa_str {x : Int} {t : ByteArray} (x0 : -9223372036854775808 ≤ x) (x1 : x ≤ 9223372036854775807) (ht : t = ⟨(Lib.itoa x).toArray⟩) : t.size ≤ 21 ∧ (t.toList == (⟨#[]⟩ : ByteArray).toList) = false := by
  have h1 := Lib.itoa_length_le x x0 x1
  have h2 := itoa_ne_nil x
  have hs : t.size = (Lib.itoa x).length := by rw [ht]; show (Lib.itoa x).toArray.size = _; simp
  refine ⟨by omega, (Lib.bytes_beq_false_iff _ _).2 fun h => ?_⟩
  rw [h] at hs
  have : (⟨#[]⟩ : ByteArray).size = 0 := rfl
  omega

theorem puS_itoa_in {n : Int} (h0 : 0 ≤ n) (h1 : n ≤ 1000000000) : puS ⟨(Lib.itoa n).toArray⟩ = (n, true) := by
  have h2 := itoa_short h0 h1
  have hs : (⟨(Lib.itoa n).toArray⟩ : ByteArray).size = (Lib.itoa n).length := by show (Lib.itoa n).toArray.size = _; simp
  rw [puS_in (by omega)]
  exact pu_itoa h0 h1

theorem puS_itoa_out {n : Int} (h : n < 0 ∨ 1000000000 < n) : puS ⟨(Lib.itoa n).toArray⟩ = (0, false) := by
  by_cases hl : 10 < (⟨(Lib.itoa n).toArray⟩ : ByteArray).size
  · exact puS_long hl
  · rw [puS_in hl]
    exact pu_out h

theorem atoi_bd {s : ByteArray} {v : Int} (hz : s.size ≤ 10) (h : Lib.atoi s.data.toList = some v) : -9223372036854775808 ≤ v ∧ v ≤ 9223372036854775807 := by
  have hl : s.data.toList.length ≤ 18 := by
    have : s.data.toList.length = s.size := by rw [Array.length_toList]; rfl
    omega
  exact Lib.atoiAll_bounds (l := s.data.toList) (by rw [Lib.atoiAll_short _ hl, h]; rfl)

set_option maxHeartbeats 4000000 in
theorem impl_ParseUint {s : ByteArray} {w : World} (hs : s.size ≤ 1048576) (htab : Tab w) (hvars : Vars w) :
    Calls Tryd.prog 19 #[.string s] w fun e w' => e = .returned (.tuple #[.int .i64 (puS s).1, .bool (puS s).2]) ∧ Below w.heap.size w w' := by
  by_cases hlong : 10 < s.size
  · rw [puS_long hlong]
    go_enter Tryd.func19, Tryd.ntmps19
    go_wp2
    go_ret2
    exact ⟨rfl, by go_grown⟩
  have hz : s.size ≤ 10 := by omega
  rw [puS_in hlong]
  cases ha : Lib.atoi s.data.toList with
  | none =>
    rw [pu_atoi_none ha]
    go_enter Tryd.func19, Tryd.ntmps19
    go_wp2_with fail
    refine (atoi_no hz ha hvars).mono ?_
    rintro e w1 ⟨N, rfl, hb⟩
    clear ha
    go_wp2
    go_ret2
    exact ⟨rfl, hb⟩
  | some v =>
    have hbd := atoi_bd hz ha
    by_cases hin : 0 ≤ v ∧ v ≤ 1000000000
    rotate_left
    · rw [pu_atoi_not ha (by omega)]
      have hout : v < 0 ∨ 1000000000 < v := by omega
      go_enter Tryd.func19, Tryd.ntmps19
      go_wp2_with fail
      refine (atoi_yes hz ha).mono ?_
      rintro e w1 ⟨rfl, hb⟩
      clear ha
      go_wp2_with (go_at_call 31; refine (within_f _ _ _ _ hout).mono ?_; rintro e w' ⟨rfl, rfl⟩)
      go_ret2
      exact ⟨rfl, hb⟩
    · obtain ⟨h0, h1⟩ := hin
      have r1 := hbd.1
      have r2 := hbd.2
      go_enter Tryd.func19, Tryd.ntmps19
      go_wp2_with fail
      refine (atoi_yes hz ha).mono ?_
      rintro e w1 ⟨rfl, hb⟩
      have ht1 := htab.below hb
      have HA := Lib.hid ha
      clear ha
      obtain ⟨t, ht⟩ : ∃ t : ByteArray, t = ⟨(Lib.itoa v).toArray⟩ := ⟨_, rfl⟩
      have c2 := impl_FormatInt r1 r2 ht1
      rw [← ht] at c2
      have HT := Lib.hid ht
      clear ht
      by_cases he : t = s
      · have HR := Lib.hid (pu_atoi HA.out h0 h1 ((str_eq _ _).1 (HT.out ▸ he)))
        have e1 : (t.toList == s.toList) = true := (Lib.bytes_beq_iff _ _).2 he
        clear he
        go_wp2_with (first | (go_at_call 31; refine (within_t _ _ _ _ h0 h1).mono ?_; rintro e w' ⟨rfl, rfl⟩) | (go_at_call 9; refine c2.mono ?_; rintro e w2 ⟨rfl, hb2⟩))
        go_ret2
        exact ⟨by rw [HR.out]; rfl, hb.trans (hb2.mono hb.size)⟩
      · have HR := Lib.hid (pu_atoi_not HA.out (Or.inr (Or.inr fun c => he ((str_eq _ _).2 c ▸ HT.out))))
        have e1 : (t.toList == s.toList) = false := (Lib.bytes_beq_false_iff _ _).2 he
        clear he
        go_wp2_with (first | (go_at_call 31; refine (within_t _ _ _ _ h0 h1).mono ?_; rintro e w' ⟨rfl, rfl⟩) | (go_at_call 9; refine c2.mono ?_; rintro e w2 ⟨rfl, hb2⟩))
        go_ret2
        exact ⟨by rw [HR.out]; rfl, hb.trans (hb2.mono hb.size)⟩

theorem s_getN {s : ByteArray} {k : Nat} (h : k < s.size) : s.data.toList[k]? = some (s[k]'h) := by
  have h' : k < s.data.size := h
  rw [Array.getElem?_toList, Array.getElem?_eq_getElem h']; rfl

theorem dec_none {n : Nat} {l : List UInt8} {b : UInt8} {k : Nat} (hb : l[k]? = some b) (h : b.toNat < 48 ∨ 57 < b.toNat) (hn : Lib.decFrom n (l.drop k) = Lib.decFrom 0 l) : Lib.decFrom 0 l = none := by
  obtain ⟨hk, hb'⟩ := List.getElem?_eq_some_iff.1 hb
  rw [← hn, List.drop_eq_getElem_cons hk, hb']
  have : Lib.digitVal b = none := by unfold Lib.digitVal; rw [if_neg (by omega)]
  simp only [Lib.decFrom, this]

theorem dec_next {n : Nat} {l : List UInt8} {b : UInt8} {k : Nat} (hb : l[k]? = some b) (h0 : 48 ≤ b.toNat) (h1 : b.toNat ≤ 57) (hn : Lib.decFrom n (l.drop k) = Lib.decFrom 0 l) : Lib.decFrom (n * 10 + (b.toNat - 48)) (l.drop (k + 1)) = Lib.decFrom 0 l := by
  obtain ⟨hk, hb'⟩ := List.getElem?_eq_some_iff.1 hb
  rw [← hn, List.drop_eq_getElem_cons hk, hb']
  have : Lib.digitVal b = some (b.toNat - 48) := by unfold Lib.digitVal; rw [if_pos ⟨h0, h1⟩]
  simp only [Lib.decFrom, this]

theorem dec_done {n : Nat} {l : List UInt8} {k : Nat} (hk : l.length ≤ k) (hn : Lib.decFrom n (l.drop k) = Lib.decFrom 0 l) : Lib.decFrom 0 l = some n := by
  rw [← hn, List.drop_eq_nil_of_le hk]; rfl

set_option maxHeartbeats 4000000 in
theorem spec_ParseUint {s : ByteArray} {w : World} (hs : s.size ≤ 1048576) :
    Calls Tryd.prog 18 #[.string s] w fun e w' => e = .returned (.tuple #[.int .i64 (puS s).1, .bool (puS s).2]) ∧ Below w.heap.size w w' := by
  by_cases hlong : 10 < s.size
  · rw [puS_long hlong]
    go_enter Tryd.func18, Tryd.ntmps18
    go_wp2
    go_ret2
    exact ⟨rfl, by go_grown⟩
  have hz : s.size ≤ 10 := by omega
  rw [puS_in hlong]
  obtain ⟨R, hR⟩ : ∃ R, R = pu s.data.toList := ⟨_, rfl⟩
  rw [← hR]
  have HR := Lib.hid hR
  clear hR
  have hlen : s.data.toList.length = s.size := by rw [Array.length_toList]; rfl
  have HL := Lib.hid hlen
  clear hlen
  go_enter Tryd.func18, Tryd.ntmps18
  go_wp2
  go_loopw [4, 5] (fun nv iv wr => ∃ (n i : Nat), nv = .int .i64 n ∧ iv = .int .i64 i ∧ i ≤ s.size ∧ Hid (n < 10 ^ i) ∧ Hid (Lib.decFrom n (s.data.toList.drop i) = Lib.decFrom 0 s.data.toList) ∧ Below w.heap.size w wr) (fun _ iv _ => s.size - (intOf iv).toNat)
  case atStart => exact ⟨0, 0, rfl, rfl, by omega, Lib.hid (by simp), Lib.hid rfl, by go_grown⟩
  case round =>
    obtain ⟨n, i, rfl, rfl, hi, HP, HD, hbel⟩ := hrel
    have hn10 : n < 10000000000 := Nat.lt_of_lt_of_le HP.out (show 10 ^ i ≤ 10 ^ 10 from Nat.pow_le_pow_right (by omega) (by omega))
    by_cases hlt : i < s.size
    · have HX := Lib.hid (s_getN hlt)
      obtain ⟨b, hb⟩ : ∃ b, b = s[i]'hlt := ⟨_, rfl⟩
      have HX : Hid (s.data.toList[i]? = some b) := Lib.hid (by rw [hb]; exact HX.out)
      have HB := Lib.hid hb
      by_cases h48 : (s[i]'hlt).toNat < 48
      · have HE2 := Lib.hid (HR.out.trans (pu_none (dec_none HX.out (by rw [HB.out]; omega) HD.out)))
        clear hb
        go_wp2
        go_ret2
        exact ⟨by rw [HE2.out]; rfl, hbel⟩
      by_cases h57 : 57 < (s[i]'hlt).toNat
      · have HE2 := Lib.hid (HR.out.trans (pu_none (dec_none HX.out (by rw [HB.out]; omega) HD.out)))
        clear hb
        go_wp2
        go_ret2
        exact ⟨by rw [HE2.out]; rfl, hbel⟩
      have HN := Lib.hid (dec_next HX.out (by rw [HB.out]; omega) (by rw [HB.out]; omega) HD.out)
      have HQ : Hid (n * 10 + ((s[i]'hlt).toNat - 48) < 10 ^ (i + 1)) := Lib.hid (by have := HP.out; rw [Nat.pow_succ]; omega)
      have r1 : IntKind.i64.wrap (10 * (n : Int)) = 10 * (n : Int) := IntWalk.i64_in _ (by omega)
      have r2 : IntKind.i64.wrap ((s[i]'hlt).toNat : Int) = ((s[i]'hlt).toNat : Int) := IntWalk.i64_in _ (by omega)
      have r3 : IntKind.i64.wrap (10 * (n : Int) + ((s[i]'hlt).toNat : Int)) = 10 * (n : Int) + ((s[i]'hlt).toNat : Int) := IntWalk.i64_in _ (by omega)
      have r4 : IntKind.i64.wrap (10 * (n : Int) + ((s[i]'hlt).toNat : Int) - 48) = 10 * (n : Int) + ((s[i]'hlt).toNat : Int) - 48 := IntWalk.i64_in _ (by omega)
      clear hb
      go_wp2
      go_roundw
      case rel => exact ⟨n * 10 + ((s[i]'hlt).toNat - 48), i + 1, by go_num, by go_num, by omega, HQ, Lib.hid (by have := HN.out; rwa [HB.out] at this), hbel⟩
      case measure => simp [intOf]; omega
    · obtain rfl : i = s.size := by omega
      have HE := Lib.hid (dec_done (by rw [HL.out]; exact Nat.le_refl _) HD.out)
      by_cases hbig : 1000000000 < n
      · have HE2 := Lib.hid (HR.out.trans (pu_big HE.out (by omega)))
        go_wp2
        go_ret2
        exact ⟨by rw [HE2.out]; rfl, hbel⟩
      have c2 := spec_FormatInt (n := (n : Int)) (w := wr) (by omega) (by omega)
      obtain ⟨t, ht⟩ : ∃ t : ByteArray, t = ⟨(Lib.itoa n).toArray⟩ := ⟨_, rfl⟩
      rw [← ht] at c2
      have HT := Lib.hid ht
      clear ht
      by_cases he : t = s
      · have HE2 := Lib.hid (HR.out.trans (pu_some HE.out (by omega) ((str_eq _ _).1 (HT.out ▸ he))))
        have e1 : (t.toList == s.toList) = true := (Lib.bytes_beq_iff _ _).2 he
        clear he
        go_wp2_with (go_at_call 8; refine c2.mono ?_; rintro e w2 ⟨rfl, hb2⟩)
        go_ret2
        exact ⟨by rw [HE2.out]; rfl, hbel.trans (hb2.mono hbel.size)⟩
      · have HE2 := Lib.hid (HR.out.trans (pu_other HE.out (fun c => he ((str_eq _ _).2 c ▸ HT.out))))
        have e1 : (t.toList == s.toList) = false := (Lib.bytes_beq_false_iff _ _).2 he
        clear he
        go_wp2_with (go_at_call 8; refine c2.mono ?_; rintro e w2 ⟨rfl, hb2⟩)
        go_ret2
        exact ⟨by rw [HE2.out]; rfl, hbel.trans (hb2.mono hbel.size)⟩
end Go.Proofs.YtjcfdkmlkhgfiaaDoor
