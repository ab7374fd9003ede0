/- The draw of a line of fields; no condition beyond the length of the code. -/
import Derived.Test.YtjcfdkmlkhgfiaaDoorDrawText
import Derived.Test.YtjcfdkmlkhgfiaaDoorStrS
namespace Go.Proofs.YtjcfdkmlkhgfiaaDoor
open Go.ChangeShapes Go.WideShapes Go.ChangeAt Go.RowKit Go.Deep Go.Joins
set_option maxRecDepth 100000

theorem spec_l01Pick {W0 w : World} {G n c m d : Nat} {A B : Option Addr} {bs : List Int} {xs : List ByteArray} (hc : Cur W0 w G A n c bs) (hr : Reads w 1 B m (strs xs)) (hm : 1 ≤ m) (hm2 : m ≤ 1048576) (hB : ∀ b o, B = some ⟨b, o, none⟩ → b ≠ G) :
    Calls Tryd.prog 29 #[.pointer (some ⟨G, 0, none⟩), .slice B m d] w fun e w' => ∃ x, x ∈ xs ∧ e = .returned (.string x) ∧ Cur W0 w' G A n c bs := by
  have HC := Lib.hid hc
  clear hc
  go_enter Tryd.func29, Tryd.ntmps29
  go_wp2_with fail
  refine (spec_l01Below HC.out (by omega) (by omega)).mono ?_
  rintro e w1 ⟨v, v0, v1, rfl, hc1, hg1⟩
  have HC1 := Lib.hid hc1
  obtain ⟨k, rfl⟩ := Int.eq_ofNat_of_zero_le v0
  have hk : k < m := by omega
  obtain ⟨b, o, x, rfl, hbB, hx, c0⟩ := (hr.grown hg1 (fun b o e h => hB b o e (by injection h))).str hk
  have HX := Lib.hid (List.mem_of_getElem? hx)
  have lk : (k : Int) < (m : Int) := by omega
  clear hc1 hg1 hx
  go_wp2
  go_ret
  exact ⟨x, HX.out, rfl, HC1.out⟩

def DrawnLine (w : World) (e : Ending) (w' : World) : Prop :=
  ∃ s : ByteArray, s.size ≤ 1000 ∧ e = .returned (.string s) ∧ Below w.heap.size w w'

set_option maxHeartbeats 8000000 in
theorem spec_DrawSplitFields {w : World} {n c : Nat} {A : Option Addr} {bs : List Int} (hr : Reads w 1 A n (u8s bs)) (hb : ∀ x ∈ bs, 0 ≤ x ∧ x ≤ 255) (hn : n ≤ 1048576) :
    Calls Tryd.prog 14 #[.slice A n c] w (DrawnLine w) := by
  go_enter Tryd.func14, Tryd.ntmps14
  go_wp2_with fail
  refine (spec_l01New hr hb hn).mono ?_
  rintro e w1 ⟨G, rfl, hc1, hG, hb1⟩
  have HC1 := Lib.hid hc1
  clear hc1 hb1
  go_wp2_with fail
  refine (spec_l01Below (N := 9) HC1.out (by omega) (by omega)).mono ?_
  rintro e w2 ⟨q, q0, q1, rfl, hc2, hg2⟩
  have HC2 := Lib.hid hc2
  clear hc2 hg2
  go_wp2_with fail
  refine (spec_l01Once HC2.out (by omega) (by omega)).mono ?_
  rintro e w3 ⟨b, rfl, hc3, hg3⟩
  have HC3 := Lib.hid hc3
  clear hc3 hg3
  cases b with
  | true =>
    go_wp2_with fail
    refine (spec_l01Below (N := 2) HC3.out (by omega) (by omega)).mono ?_
    rintro e w4 ⟨r, r0, r1, rfl, hc4, hg4⟩
    obtain ⟨N, hN⟩ : ∃ N : Nat, 24 + r = (N : Int) := ⟨(24 + r).toNat, by omega⟩
    have hN25 : N ≤ 25 := by omega
    have HC4 := Lib.hid hc4
    clear hc4 hg4 r0 r1
    go_wp2
    clear hN
    go_loopw [5, 6] (fun sv iv w' => ∃ (i : Nat) (s : ByteArray), iv = .int .i64 i ∧ i ≤ N ∧ sv = .string s ∧ s.size ≤ 8 * i ∧ Cur w w' G A n c bs) (fun _ iv _ => N - (intOf iv).toNat)
    case atStart => exact ⟨0, ⟨#[]⟩, rfl, by omega, rfl, by show (#[] : Array UInt8).size ≤ _; simp, HC4.out⟩
    case round =>
      obtain ⟨i, s, rfl, hi, rfl, hs, hcur⟩ := hrel
      have HS := Lib.hid hs
      have HCI := Lib.hid hcur
      have hs3 : s.size ≤ 200 := by omega
      clear hs hcur
      by_cases hlt : i < N
      · have li : (i : Int) < (N : Int) := by omega
        rcases Nat.eq_zero_or_pos i with h0 | h0
        · subst h0
          go_wp2_with fail
          refine (spec_l01Once HCI.out (by omega) (by omega)).mono ?_
          rintro e w8 ⟨b8, rfl, hc8, hg8⟩
          have HC8 := Lib.hid hc8
          clear hc8 hg8
          cases b8 with
          | true =>
            go_wp2_with fail
            refine (spec_l01Below (N := 2) HC8.out (by omega) (by omega)).mono ?_
            rintro e w3 ⟨x, x0, x1, rfl, hc3, hg3⟩
            have HC3 := Lib.hid hc3
            clear hc3 hg3
            go_wp2_with fail
            refine (spec_l01Below (N := 3) HC3.out (by omega) (by omega)).mono ?_
            rintro e w4 ⟨y, y0, y1, rfl, hc4, hg4⟩
            have HC4 := Lib.hid hc4
            clear hc4 hg4
            obtain ⟨p, hp, hp2⟩ : ∃ p : Nat, x * y = (p : Int) ∧ p ≤ 2 := by
              rcases (show x = 0 ∨ x = 1 by omega) with rfl | rfl
              · exact ⟨0, by simp, by omega⟩
              · exact ⟨y.toNat, by simp; omega, by omega⟩
            have r1 : IntKind.i64.wrap (x * y) = (p : Int) := by rw [hp]; exact IntWalk.i64_in _ (by omega)
            have r2 : x * y = (p : Int) := hp
            clear hp
            go_wp2_with fail
            refine (spec_l01Long (n := 1 + p) (b := 32) rfl (by omega)).mono ?_
            rintro e w5 ⟨rfl, hb5⟩
            have hc5 := HC4.out.below hb5
            have HC5 := Lib.hid hc5
            obtain ⟨T, hTd⟩ : ∃ T : ByteArray, T = ⟨(repB (1 + p) 32).toArray⟩ := ⟨_, rfl⟩
            rw [← hTd]
            have hTs : T.size ≤ 3 := by
              rw [hTd]
              show (repB (1 + p) 32).toArray.size ≤ 3
              simp [repB]
              omega
            have hsz : (s ++ T).size ≤ 3 := by
              rw [ByteArray.size_append]
              have := HS.out
              omega
            have HSZ := Lib.hid hsz
            clear hb5 hc5 r1 r2 hsz hTd
            go_wp2
            go_loopw [5, 7] (fun sv kv w' => ∃ (k : Nat) (t : ByteArray), kv = .int .i64 k ∧ k ≤ 5 ∧ sv = .string t ∧ t.size ≤ 3 + k ∧ Cur w w' G A n c bs) (fun _ kv _ => 5 - (intOf kv).toNat)
            case atStart => exact ⟨0, _, rfl, by omega, rfl, by have := HSZ.out; omega, HC5.out⟩
            case round =>
              obtain ⟨k, t, rfl, hk, rfl, ht, hcu⟩ := hrel
              have HCU := Lib.hid hcu
              have HTT := Lib.hid ht
              have ht3 : t.size ≤ 300 := by omega
              clear hcu ht
              go_wp2_with fail
              refine (spec_l01Below (N := 5) HCU.out (by omega) (by omega)).mono ?_
              rintro e w6 ⟨v, v0, v1, rfl, hc6, hg6⟩
              have HC6 := Lib.hid hc6
              clear hc6 hg6
              by_cases hkv : (k : Int) ≤ v
              · have g1 : decide ((k : Int) ≤ v) = true := decide_eq_true hkv
                go_wp2_with fail
                refine (spec_l01Below (N := 94) HC6.out (by omega) (by omega)).mono ?_
                rintro e w7 ⟨u, u0, u1, rfl, hc7, hg7⟩
                obtain ⟨b, hb⟩ : ∃ b, b = UInt8.ofNat (33 + u).toNat := ⟨_, rfl⟩
                have t1 : IntKind.u8.wrap (33 + u) = 33 + u := by rw [IntKind.wrap_u8]; omega
                have hrow : (w7.alloc (.cells #[.int .u8 (33 + u)] 5)).ownsRow w7.heap.size 5 1 (.slice (some ⟨w7.heap.size, 0, none⟩) 1 1) 1 (bys [b]) := by
                  have hbv : [Value.int .u8 (33 + u)] = bys [b] := by rw [hb]; exact byte1 (by omega) (by omega)
                  exact (Row.new w7 5 [.int .u8 (33 + u)]).own (base := w7.heap.size) (size := 1) (n := 1) (xs := bys [b]) (Nat.le_refl _) (Nat.le_refl 1) (by unfold maxLen; omega) rfl (by rw [hbv]; rfl)
                have HC := conv_back hrow
                have HC7 := Lib.hid (hc7.alloc (.cells #[.int .u8 (33 + u)] 5))
                clear hc7 hg7 hrow hb
                go_wp2
                go_roundw
                case rel => exact ⟨k + 1, _, by go_num, by omega, rfl, by rw [ByteArray.size_append]; have := HTT.out; have e1 : (⟨[b].toArray⟩ : ByteArray).size = 1 := rfl; first | omega | (simp only [e1] at *; omega) | (show t.size + 1 ≤ _; omega), HC7.out⟩
                case measure => simp [intOf]; omega
              · have g1 : decide ((k : Int) ≤ v) = false := decide_eq_false hkv
                go_wp2
                go_roundw
                case rel => exact ⟨0 + 1, t, by go_num, by omega, rfl, by have := HTT.out; omega, HC6.out⟩
                case measure => simp [intOf]; omega
          | false =>
            go_wp2
            go_loopw [5, 7] (fun sv kv w' => ∃ (k : Nat) (t : ByteArray), kv = .int .i64 k ∧ k ≤ 5 ∧ sv = .string t ∧ t.size ≤ 3 + k ∧ Cur w w' G A n c bs) (fun _ kv _ => 5 - (intOf kv).toNat)
            case atStart => exact ⟨0, _, rfl, by omega, rfl, by have := HS.out; omega, HC8.out⟩
            case round =>
              obtain ⟨k, t, rfl, hk, rfl, ht, hcu⟩ := hrel
              have HCU := Lib.hid hcu
              have HTT := Lib.hid ht
              have ht3 : t.size ≤ 300 := by omega
              clear hcu ht
              go_wp2_with fail
              refine (spec_l01Below (N := 5) HCU.out (by omega) (by omega)).mono ?_
              rintro e w6 ⟨v, v0, v1, rfl, hc6, hg6⟩
              have HC6 := Lib.hid hc6
              clear hc6 hg6
              by_cases hkv : (k : Int) ≤ v
              · have g1 : decide ((k : Int) ≤ v) = true := decide_eq_true hkv
                go_wp2_with fail
                refine (spec_l01Below (N := 94) HC6.out (by omega) (by omega)).mono ?_
                rintro e w7 ⟨u, u0, u1, rfl, hc7, hg7⟩
                obtain ⟨b, hb⟩ : ∃ b, b = UInt8.ofNat (33 + u).toNat := ⟨_, rfl⟩
                have t1 : IntKind.u8.wrap (33 + u) = 33 + u := by rw [IntKind.wrap_u8]; omega
                have hrow : (w7.alloc (.cells #[.int .u8 (33 + u)] 5)).ownsRow w7.heap.size 5 1 (.slice (some ⟨w7.heap.size, 0, none⟩) 1 1) 1 (bys [b]) := by
                  have hbv : [Value.int .u8 (33 + u)] = bys [b] := by rw [hb]; exact byte1 (by omega) (by omega)
                  exact (Row.new w7 5 [.int .u8 (33 + u)]).own (base := w7.heap.size) (size := 1) (n := 1) (xs := bys [b]) (Nat.le_refl _) (Nat.le_refl 1) (by unfold maxLen; omega) rfl (by rw [hbv]; rfl)
                have HC := conv_back hrow
                have HC7 := Lib.hid (hc7.alloc (.cells #[.int .u8 (33 + u)] 5))
                clear hc7 hg7 hrow hb
                go_wp2
                go_roundw
                case rel => exact ⟨k + 1, _, by go_num, by omega, rfl, by rw [ByteArray.size_append]; have := HTT.out; have e1 : (⟨[b].toArray⟩ : ByteArray).size = 1 := rfl; first | omega | (simp only [e1] at *; omega) | (show t.size + 1 ≤ _; omega), HC7.out⟩
                case measure => simp [intOf]; omega
              · have g1 : decide ((k : Int) ≤ v) = false := decide_eq_false hkv
                go_wp2
                go_roundw
                case rel => exact ⟨0 + 1, t, by go_num, by omega, rfl, by have := HTT.out; omega, HC6.out⟩
                case measure => simp [intOf]; omega
        · have gi : (0 : Int) < (i : Int) := by omega
          have gi2 : decide ((0 : Int) < (i : Int)) = true := decide_eq_true gi
          go_wp2_with fail
          refine (spec_l01Below (N := 2) HCI.out (by omega) (by omega)).mono ?_
          rintro e w3 ⟨x, x0, x1, rfl, hc3, hg3⟩
          have HC3 := Lib.hid hc3
          clear hc3 hg3
          go_wp2_with fail
          refine (spec_l01Below (N := 3) HC3.out (by omega) (by omega)).mono ?_
          rintro e w4 ⟨y, y0, y1, rfl, hc4, hg4⟩
          have HC4 := Lib.hid hc4
          clear hc4 hg4
          obtain ⟨p, hp, hp2⟩ : ∃ p : Nat, x * y = (p : Int) ∧ p ≤ 2 := by
            rcases (show x = 0 ∨ x = 1 by omega) with rfl | rfl
            · exact ⟨0, by simp, by omega⟩
            · exact ⟨y.toNat, by simp; omega, by omega⟩
          have r1 : IntKind.i64.wrap (x * y) = (p : Int) := by rw [hp]; exact IntWalk.i64_in _ (by omega)
          have r2 : x * y = (p : Int) := hp
          clear hp
          go_wp2_with fail
          refine (spec_l01Long (n := 1 + p) (b := 32) rfl (by omega)).mono ?_
          rintro e w5 ⟨rfl, hb5⟩
          have hc5 := HC4.out.below hb5
          have HC5 := Lib.hid hc5
          obtain ⟨T, hTd⟩ : ∃ T : ByteArray, T = ⟨(repB (1 + p) 32).toArray⟩ := ⟨_, rfl⟩
          rw [← hTd]
          have hTs : T.size ≤ 3 := by
            rw [hTd]
            show (repB (1 + p) 32).toArray.size ≤ 3
            simp [repB]
            omega
          have hsz : (s ++ T).size ≤ 8 * i + 3 := by
            rw [ByteArray.size_append]
            have := HS.out
            omega
          have HSZ := Lib.hid hsz
          clear hb5 hc5 r1 r2 hsz hTd
          go_wp2
          go_loopw [5, 7] (fun sv kv w' => ∃ (k : Nat) (t : ByteArray), kv = .int .i64 k ∧ k ≤ 5 ∧ sv = .string t ∧ t.size ≤ (8 * i + 3) + k ∧ Cur w w' G A n c bs) (fun _ kv _ => 5 - (intOf kv).toNat)
          case atStart => exact ⟨0, _, rfl, by omega, rfl, by have := HSZ.out; omega, HC5.out⟩
          case round =>
            obtain ⟨k, t, rfl, hk, rfl, ht, hcu⟩ := hrel
            have HCU := Lib.hid hcu
            have HTT := Lib.hid ht
            have ht3 : t.size ≤ 300 := by omega
            clear hcu ht
            go_wp2_with fail
            refine (spec_l01Below (N := 5) HCU.out (by omega) (by omega)).mono ?_
            rintro e w6 ⟨v, v0, v1, rfl, hc6, hg6⟩
            have HC6 := Lib.hid hc6
            clear hc6 hg6
            by_cases hkv : (k : Int) ≤ v
            · have g1 : decide ((k : Int) ≤ v) = true := decide_eq_true hkv
              go_wp2_with fail
              refine (spec_l01Below (N := 94) HC6.out (by omega) (by omega)).mono ?_
              rintro e w7 ⟨u, u0, u1, rfl, hc7, hg7⟩
              obtain ⟨b, hb⟩ : ∃ b, b = UInt8.ofNat (33 + u).toNat := ⟨_, rfl⟩
              have t1 : IntKind.u8.wrap (33 + u) = 33 + u := by rw [IntKind.wrap_u8]; omega
              have hrow : (w7.alloc (.cells #[.int .u8 (33 + u)] 5)).ownsRow w7.heap.size 5 1 (.slice (some ⟨w7.heap.size, 0, none⟩) 1 1) 1 (bys [b]) := by
                have hbv : [Value.int .u8 (33 + u)] = bys [b] := by rw [hb]; exact byte1 (by omega) (by omega)
                exact (Row.new w7 5 [.int .u8 (33 + u)]).own (base := w7.heap.size) (size := 1) (n := 1) (xs := bys [b]) (Nat.le_refl _) (Nat.le_refl 1) (by unfold maxLen; omega) rfl (by rw [hbv]; rfl)
              have HC := conv_back hrow
              have HC7 := Lib.hid (hc7.alloc (.cells #[.int .u8 (33 + u)] 5))
              clear hc7 hg7 hrow hb
              go_wp2
              go_roundw
              case rel => exact ⟨k + 1, _, by go_num, by omega, rfl, by rw [ByteArray.size_append]; have := HTT.out; have e1 : (⟨[b].toArray⟩ : ByteArray).size = 1 := rfl; first | omega | (simp only [e1] at *; omega) | (show t.size + 1 ≤ _; omega), HC7.out⟩
              case measure => simp [intOf]; omega
            · have g1 : decide ((k : Int) ≤ v) = false := decide_eq_false hkv
              go_wp2
              go_roundw
              case rel => exact ⟨i + 1, t, by go_num, by omega, rfl, by have := HTT.out; omega, HC6.out⟩
              case measure => simp [intOf]; omega
      · obtain rfl : i = N := by omega
        have hs200 : s.size ≤ 200 := by have := HS.out; omega
        go_wp2_with fail
        refine (spec_l01Below (N := 12) HCI.out (by omega) (by omega)).mono ?_
        rintro e w9 ⟨z, z0, z1, rfl, hc9, hg9⟩
        have HC9 := Lib.hid hc9
        have zG := hc9.lt
        clear hc9 hg9
        by_cases hz0 : z = 0
        · subst hz0
          have hrow := (Row.new w9 9 (strs [⟨#[32]⟩, ⟨#[32, 32]⟩, ⟨#[9]⟩, ⟨#[10]⟩, ⟨#[127]⟩, ⟨#[233]⟩])).reads (size := 1) (n := 6) (xs := strs [⟨#[32]⟩, ⟨#[32, 32]⟩, ⟨#[9]⟩, ⟨#[10]⟩, ⟨#[127]⟩, ⟨#[233]⟩]) rfl rfl
          have HC10 := Lib.hid (HC9.out.alloc (.cells (strs [⟨#[32]⟩, ⟨#[32, 32]⟩, ⟨#[9]⟩, ⟨#[10]⟩, ⟨#[127]⟩, ⟨#[233]⟩]).toArray 9))
          go_wp2_with fail
          refine (spec_l01Pick HC10.out hrow (by omega) (by omega) (fun b o e => by injection e with e; injection e with e _; omega)).mono ?_
          rintro e w10 ⟨x, hx, rfl, hc10⟩
          have hxs : x.size ≤ 2 := by
            simp only [List.mem_cons, List.not_mem_nil, or_false] at hx
            rcases hx with rfl | rfl | rfl | rfl | rfl | rfl <;> decide
          have hB := hc10.base
          have hsz : (s ++ x).size ≤ 1000 := by rw [ByteArray.size_append]; omega
          have HSZ := Lib.hid hsz
          clear hrow hx hc10 hsz
          go_wp2
          go_ret
          exact ⟨_, HSZ.out, rfl, hB⟩
        · have e0 : (z == 0) = false := by simp [hz0]
          by_cases hz1 : z = 1
          · subst hz1
            have ls : (s.size : Int) < 600 := by omega
            clear hz0 e0
            go_wp2_with fail
            refine (spec_l01Below (N := 2) HC9.out (by omega) (by omega)).mono ?_
            rintro e w10 ⟨v, v0, v1, rfl, hc10, hg10⟩
            obtain ⟨L, hL⟩ : ∃ L : Nat, (L : Int) = 600 - (s.size : Int) + v := ⟨(600 - (s.size : Int) + v).toNat, by omega⟩
            have hB := hc10.base
            have hL6 : L ≤ 601 := by omega
            have HLL := Lib.hid hL
            have hlong : ∀ W, Calls Tryd.prog 25 #[.int .i64 (600 - (s.size : Int) + v), .int .u8 32] W fun e w' => e = .returned (.string ⟨(repB L 32).toArray⟩) ∧ Below W.heap.size W w' := fun W => by rw [← hL]; exact spec_l01Long rfl (by omega)
            clear hc10 hg10 hL
            go_wp2_with fail
            refine (hlong _).mono ?_
            rintro e w11 ⟨rfl, hb11⟩
            obtain ⟨T, hTd⟩ : ∃ T : ByteArray, T = ⟨(repB L 32).toArray⟩ := ⟨_, rfl⟩
            rw [← hTd]
            have hTs : T.size ≤ 601 := by
              rw [hTd]
              show (repB L 32).toArray.size ≤ 601
              simp [repB]
              omega
            have hsz : (s ++ T).size ≤ 1000 := by
              rw [ByteArray.size_append]
              omega
            have HSZ := Lib.hid hsz
            have hB2 := hB.trans (hb11.mono hB.size)
            clear hsz hb11 hTd
            go_wp2
            go_ret
            exact ⟨_, HSZ.out, rfl, hB2⟩
          · have e1 : (z == 1) = false := by simp [hz1]
            have hB := HC9.out.base
            clear hz0 hz1
            go_wp2
            go_ret
            exact ⟨s, by omega, rfl, hB⟩
  | false =>
    obtain ⟨N, rfl⟩ := Int.eq_ofNat_of_zero_le q0
    have hN25 : N ≤ 25 := by omega
    have HC4 := HC3
    go_wp2
    go_loopw [5, 6] (fun sv iv w' => ∃ (i : Nat) (s : ByteArray), iv = .int .i64 i ∧ i ≤ N ∧ sv = .string s ∧ s.size ≤ 8 * i ∧ Cur w w' G A n c bs) (fun _ iv _ => N - (intOf iv).toNat)
    case atStart => exact ⟨0, ⟨#[]⟩, rfl, by omega, rfl, by show (#[] : Array UInt8).size ≤ _; simp, HC4.out⟩
    case round =>
      obtain ⟨i, s, rfl, hi, rfl, hs, hcur⟩ := hrel
      have HS := Lib.hid hs
      have HCI := Lib.hid hcur
      have hs3 : s.size ≤ 200 := by omega
      clear hs hcur
      by_cases hlt : i < N
      · have li : (i : Int) < (N : Int) := by omega
        rcases Nat.eq_zero_or_pos i with h0 | h0
        · subst h0
          go_wp2_with fail
          refine (spec_l01Once HCI.out (by omega) (by omega)).mono ?_
          rintro e w8 ⟨b8, rfl, hc8, hg8⟩
          have HC8 := Lib.hid hc8
          clear hc8 hg8
          cases b8 with
          | true =>
            go_wp2_with fail
            refine (spec_l01Below (N := 2) HC8.out (by omega) (by omega)).mono ?_
            rintro e w3 ⟨x, x0, x1, rfl, hc3, hg3⟩
            have HC3 := Lib.hid hc3
            clear hc3 hg3
            go_wp2_with fail
            refine (spec_l01Below (N := 3) HC3.out (by omega) (by omega)).mono ?_
            rintro e w4 ⟨y, y0, y1, rfl, hc4, hg4⟩
            have HC4 := Lib.hid hc4
            clear hc4 hg4
            obtain ⟨p, hp, hp2⟩ : ∃ p : Nat, x * y = (p : Int) ∧ p ≤ 2 := by
              rcases (show x = 0 ∨ x = 1 by omega) with rfl | rfl
              · exact ⟨0, by simp, by omega⟩
              · exact ⟨y.toNat, by simp; omega, by omega⟩
            have r1 : IntKind.i64.wrap (x * y) = (p : Int) := by rw [hp]; exact IntWalk.i64_in _ (by omega)
            have r2 : x * y = (p : Int) := hp
            clear hp
            go_wp2_with fail
            refine (spec_l01Long (n := 1 + p) (b := 32) rfl (by omega)).mono ?_
            rintro e w5 ⟨rfl, hb5⟩
            have hc5 := HC4.out.below hb5
            have HC5 := Lib.hid hc5
            obtain ⟨T, hTd⟩ : ∃ T : ByteArray, T = ⟨(repB (1 + p) 32).toArray⟩ := ⟨_, rfl⟩
            rw [← hTd]
            have hTs : T.size ≤ 3 := by
              rw [hTd]
              show (repB (1 + p) 32).toArray.size ≤ 3
              simp [repB]
              omega
            have hsz : (s ++ T).size ≤ 3 := by
              rw [ByteArray.size_append]
              have := HS.out
              omega
            have HSZ := Lib.hid hsz
            clear hb5 hc5 r1 r2 hsz hTd
            go_wp2
            go_loopw [5, 7] (fun sv kv w' => ∃ (k : Nat) (t : ByteArray), kv = .int .i64 k ∧ k ≤ 5 ∧ sv = .string t ∧ t.size ≤ 3 + k ∧ Cur w w' G A n c bs) (fun _ kv _ => 5 - (intOf kv).toNat)
            case atStart => exact ⟨0, _, rfl, by omega, rfl, by have := HSZ.out; omega, HC5.out⟩
            case round =>
              obtain ⟨k, t, rfl, hk, rfl, ht, hcu⟩ := hrel
              have HCU := Lib.hid hcu
              have HTT := Lib.hid ht
              have ht3 : t.size ≤ 300 := by omega
              clear hcu ht
              go_wp2_with fail
              refine (spec_l01Below (N := 5) HCU.out (by omega) (by omega)).mono ?_
              rintro e w6 ⟨v, v0, v1, rfl, hc6, hg6⟩
              have HC6 := Lib.hid hc6
              clear hc6 hg6
              by_cases hkv : (k : Int) ≤ v
              · have g1 : decide ((k : Int) ≤ v) = true := decide_eq_true hkv
                go_wp2_with fail
                refine (spec_l01Below (N := 94) HC6.out (by omega) (by omega)).mono ?_
                rintro e w7 ⟨u, u0, u1, rfl, hc7, hg7⟩
                obtain ⟨b, hb⟩ : ∃ b, b = UInt8.ofNat (33 + u).toNat := ⟨_, rfl⟩
                have t1 : IntKind.u8.wrap (33 + u) = 33 + u := by rw [IntKind.wrap_u8]; omega
                have hrow : (w7.alloc (.cells #[.int .u8 (33 + u)] 5)).ownsRow w7.heap.size 5 1 (.slice (some ⟨w7.heap.size, 0, none⟩) 1 1) 1 (bys [b]) := by
                  have hbv : [Value.int .u8 (33 + u)] = bys [b] := by rw [hb]; exact byte1 (by omega) (by omega)
                  exact (Row.new w7 5 [.int .u8 (33 + u)]).own (base := w7.heap.size) (size := 1) (n := 1) (xs := bys [b]) (Nat.le_refl _) (Nat.le_refl 1) (by unfold maxLen; omega) rfl (by rw [hbv]; rfl)
                have HC := conv_back hrow
                have HC7 := Lib.hid (hc7.alloc (.cells #[.int .u8 (33 + u)] 5))
                clear hc7 hg7 hrow hb
                go_wp2
                go_roundw
                case rel => exact ⟨k + 1, _, by go_num, by omega, rfl, by rw [ByteArray.size_append]; have := HTT.out; have e1 : (⟨[b].toArray⟩ : ByteArray).size = 1 := rfl; first | omega | (simp only [e1] at *; omega) | (show t.size + 1 ≤ _; omega), HC7.out⟩
                case measure => simp [intOf]; omega
              · have g1 : decide ((k : Int) ≤ v) = false := decide_eq_false hkv
                go_wp2
                go_roundw
                case rel => exact ⟨0 + 1, t, by go_num, by omega, rfl, by have := HTT.out; omega, HC6.out⟩
                case measure => simp [intOf]; omega
          | false =>
            go_wp2
            go_loopw [5, 7] (fun sv kv w' => ∃ (k : Nat) (t : ByteArray), kv = .int .i64 k ∧ k ≤ 5 ∧ sv = .string t ∧ t.size ≤ 3 + k ∧ Cur w w' G A n c bs) (fun _ kv _ => 5 - (intOf kv).toNat)
            case atStart => exact ⟨0, _, rfl, by omega, rfl, by have := HS.out; omega, HC8.out⟩
            case round =>
              obtain ⟨k, t, rfl, hk, rfl, ht, hcu⟩ := hrel
              have HCU := Lib.hid hcu
              have HTT := Lib.hid ht
              have ht3 : t.size ≤ 300 := by omega
              clear hcu ht
              go_wp2_with fail
              refine (spec_l01Below (N := 5) HCU.out (by omega) (by omega)).mono ?_
              rintro e w6 ⟨v, v0, v1, rfl, hc6, hg6⟩
              have HC6 := Lib.hid hc6
              clear hc6 hg6
              by_cases hkv : (k : Int) ≤ v
              · have g1 : decide ((k : Int) ≤ v) = true := decide_eq_true hkv
                go_wp2_with fail
                refine (spec_l01Below (N := 94) HC6.out (by omega) (by omega)).mono ?_
                rintro e w7 ⟨u, u0, u1, rfl, hc7, hg7⟩
                obtain ⟨b, hb⟩ : ∃ b, b = UInt8.ofNat (33 + u).toNat := ⟨_, rfl⟩
                have t1 : IntKind.u8.wrap (33 + u) = 33 + u := by rw [IntKind.wrap_u8]; omega
                have hrow : (w7.alloc (.cells #[.int .u8 (33 + u)] 5)).ownsRow w7.heap.size 5 1 (.slice (some ⟨w7.heap.size, 0, none⟩) 1 1) 1 (bys [b]) := by
                  have hbv : [Value.int .u8 (33 + u)] = bys [b] := by rw [hb]; exact byte1 (by omega) (by omega)
                  exact (Row.new w7 5 [.int .u8 (33 + u)]).own (base := w7.heap.size) (size := 1) (n := 1) (xs := bys [b]) (Nat.le_refl _) (Nat.le_refl 1) (by unfold maxLen; omega) rfl (by rw [hbv]; rfl)
                have HC := conv_back hrow
                have HC7 := Lib.hid (hc7.alloc (.cells #[.int .u8 (33 + u)] 5))
                clear hc7 hg7 hrow hb
                go_wp2
                go_roundw
                case rel => exact ⟨k + 1, _, by go_num, by omega, rfl, by rw [ByteArray.size_append]; have := HTT.out; have e1 : (⟨[b].toArray⟩ : ByteArray).size = 1 := rfl; first | omega | (simp only [e1] at *; omega) | (show t.size + 1 ≤ _; omega), HC7.out⟩
                case measure => simp [intOf]; omega
              · have g1 : decide ((k : Int) ≤ v) = false := decide_eq_false hkv
                go_wp2
                go_roundw
                case rel => exact ⟨0 + 1, t, by go_num, by omega, rfl, by have := HTT.out; omega, HC6.out⟩
                case measure => simp [intOf]; omega
        · have gi : (0 : Int) < (i : Int) := by omega
          have gi2 : decide ((0 : Int) < (i : Int)) = true := decide_eq_true gi
          go_wp2_with fail
          refine (spec_l01Below (N := 2) HCI.out (by omega) (by omega)).mono ?_
          rintro e w3 ⟨x, x0, x1, rfl, hc3, hg3⟩
          have HC3 := Lib.hid hc3
          clear hc3 hg3
          go_wp2_with fail
          refine (spec_l01Below (N := 3) HC3.out (by omega) (by omega)).mono ?_
          rintro e w4 ⟨y, y0, y1, rfl, hc4, hg4⟩
          have HC4 := Lib.hid hc4
          clear hc4 hg4
          obtain ⟨p, hp, hp2⟩ : ∃ p : Nat, x * y = (p : Int) ∧ p ≤ 2 := by
            rcases (show x = 0 ∨ x = 1 by omega) with rfl | rfl
            · exact ⟨0, by simp, by omega⟩
            · exact ⟨y.toNat, by simp; omega, by omega⟩
          have r1 : IntKind.i64.wrap (x * y) = (p : Int) := by rw [hp]; exact IntWalk.i64_in _ (by omega)
          have r2 : x * y = (p : Int) := hp
          clear hp
          go_wp2_with fail
          refine (spec_l01Long (n := 1 + p) (b := 32) rfl (by omega)).mono ?_
          rintro e w5 ⟨rfl, hb5⟩
          have hc5 := HC4.out.below hb5
          have HC5 := Lib.hid hc5
          obtain ⟨T, hTd⟩ : ∃ T : ByteArray, T = ⟨(repB (1 + p) 32).toArray⟩ := ⟨_, rfl⟩
          rw [← hTd]
          have hTs : T.size ≤ 3 := by
            rw [hTd]
            show (repB (1 + p) 32).toArray.size ≤ 3
            simp [repB]
            omega
          have hsz : (s ++ T).size ≤ 8 * i + 3 := by
            rw [ByteArray.size_append]
            have := HS.out
            omega
          have HSZ := Lib.hid hsz
          clear hb5 hc5 r1 r2 hsz hTd
          go_wp2
          go_loopw [5, 7] (fun sv kv w' => ∃ (k : Nat) (t : ByteArray), kv = .int .i64 k ∧ k ≤ 5 ∧ sv = .string t ∧ t.size ≤ (8 * i + 3) + k ∧ Cur w w' G A n c bs) (fun _ kv _ => 5 - (intOf kv).toNat)
          case atStart => exact ⟨0, _, rfl, by omega, rfl, by have := HSZ.out; omega, HC5.out⟩
          case round =>
            obtain ⟨k, t, rfl, hk, rfl, ht, hcu⟩ := hrel
            have HCU := Lib.hid hcu
            have HTT := Lib.hid ht
            have ht3 : t.size ≤ 300 := by omega
            clear hcu ht
            go_wp2_with fail
            refine (spec_l01Below (N := 5) HCU.out (by omega) (by omega)).mono ?_
            rintro e w6 ⟨v, v0, v1, rfl, hc6, hg6⟩
            have HC6 := Lib.hid hc6
            clear hc6 hg6
            by_cases hkv : (k : Int) ≤ v
            · have g1 : decide ((k : Int) ≤ v) = true := decide_eq_true hkv
              go_wp2_with fail
              refine (spec_l01Below (N := 94) HC6.out (by omega) (by omega)).mono ?_
              rintro e w7 ⟨u, u0, u1, rfl, hc7, hg7⟩
              obtain ⟨b, hb⟩ : ∃ b, b = UInt8.ofNat (33 + u).toNat := ⟨_, rfl⟩
              have t1 : IntKind.u8.wrap (33 + u) = 33 + u := by rw [IntKind.wrap_u8]; omega
              have hrow : (w7.alloc (.cells #[.int .u8 (33 + u)] 5)).ownsRow w7.heap.size 5 1 (.slice (some ⟨w7.heap.size, 0, none⟩) 1 1) 1 (bys [b]) := by
                have hbv : [Value.int .u8 (33 + u)] = bys [b] := by rw [hb]; exact byte1 (by omega) (by omega)
                exact (Row.new w7 5 [.int .u8 (33 + u)]).own (base := w7.heap.size) (size := 1) (n := 1) (xs := bys [b]) (Nat.le_refl _) (Nat.le_refl 1) (by unfold maxLen; omega) rfl (by rw [hbv]; rfl)
              have HC := conv_back hrow
              have HC7 := Lib.hid (hc7.alloc (.cells #[.int .u8 (33 + u)] 5))
              clear hc7 hg7 hrow hb
              go_wp2
              go_roundw
              case rel => exact ⟨k + 1, _, by go_num, by omega, rfl, by rw [ByteArray.size_append]; have := HTT.out; have e1 : (⟨[b].toArray⟩ : ByteArray).size = 1 := rfl; first | omega | (simp only [e1] at *; omega) | (show t.size + 1 ≤ _; omega), HC7.out⟩
              case measure => simp [intOf]; omega
            · have g1 : decide ((k : Int) ≤ v) = false := decide_eq_false hkv
              go_wp2
              go_roundw
              case rel => exact ⟨i + 1, t, by go_num, by omega, rfl, by have := HTT.out; omega, HC6.out⟩
              case measure => simp [intOf]; omega
      · obtain rfl : i = N := by omega
        have hs200 : s.size ≤ 200 := by have := HS.out; omega
        go_wp2_with fail
        refine (spec_l01Below (N := 12) HCI.out (by omega) (by omega)).mono ?_
        rintro e w9 ⟨z, z0, z1, rfl, hc9, hg9⟩
        have HC9 := Lib.hid hc9
        have zG := hc9.lt
        clear hc9 hg9
        by_cases hz0 : z = 0
        · subst hz0
          have hrow := (Row.new w9 9 (strs [⟨#[32]⟩, ⟨#[32, 32]⟩, ⟨#[9]⟩, ⟨#[10]⟩, ⟨#[127]⟩, ⟨#[233]⟩])).reads (size := 1) (n := 6) (xs := strs [⟨#[32]⟩, ⟨#[32, 32]⟩, ⟨#[9]⟩, ⟨#[10]⟩, ⟨#[127]⟩, ⟨#[233]⟩]) rfl rfl
          have HC10 := Lib.hid (HC9.out.alloc (.cells (strs [⟨#[32]⟩, ⟨#[32, 32]⟩, ⟨#[9]⟩, ⟨#[10]⟩, ⟨#[127]⟩, ⟨#[233]⟩]).toArray 9))
          go_wp2_with fail
          refine (spec_l01Pick HC10.out hrow (by omega) (by omega) (fun b o e => by injection e with e; injection e with e _; omega)).mono ?_
          rintro e w10 ⟨x, hx, rfl, hc10⟩
          have hxs : x.size ≤ 2 := by
            simp only [List.mem_cons, List.not_mem_nil, or_false] at hx
            rcases hx with rfl | rfl | rfl | rfl | rfl | rfl <;> decide
          have hB := hc10.base
          have hsz : (s ++ x).size ≤ 1000 := by rw [ByteArray.size_append]; omega
          have HSZ := Lib.hid hsz
          clear hrow hx hc10 hsz
          go_wp2
          go_ret
          exact ⟨_, HSZ.out, rfl, hB⟩
        · have e0 : (z == 0) = false := by simp [hz0]
          by_cases hz1 : z = 1
          · subst hz1
            have ls : (s.size : Int) < 600 := by omega
            clear hz0 e0
            go_wp2_with fail
            refine (spec_l01Below (N := 2) HC9.out (by omega) (by omega)).mono ?_
            rintro e w10 ⟨v, v0, v1, rfl, hc10, hg10⟩
            obtain ⟨L, hL⟩ : ∃ L : Nat, (L : Int) = 600 - (s.size : Int) + v := ⟨(600 - (s.size : Int) + v).toNat, by omega⟩
            have hB := hc10.base
            have hL6 : L ≤ 601 := by omega
            have HLL := Lib.hid hL
            have hlong : ∀ W, Calls Tryd.prog 25 #[.int .i64 (600 - (s.size : Int) + v), .int .u8 32] W fun e w' => e = .returned (.string ⟨(repB L 32).toArray⟩) ∧ Below W.heap.size W w' := fun W => by rw [← hL]; exact spec_l01Long rfl (by omega)
            clear hc10 hg10 hL
            go_wp2_with fail
            refine (hlong _).mono ?_
            rintro e w11 ⟨rfl, hb11⟩
            obtain ⟨T, hTd⟩ : ∃ T : ByteArray, T = ⟨(repB L 32).toArray⟩ := ⟨_, rfl⟩
            rw [← hTd]
            have hTs : T.size ≤ 601 := by
              rw [hTd]
              show (repB L 32).toArray.size ≤ 601
              simp [repB]
              omega
            have hsz : (s ++ T).size ≤ 1000 := by
              rw [ByteArray.size_append]
              omega
            have HSZ := Lib.hid hsz
            have hB2 := hB.trans (hb11.mono hB.size)
            clear hsz hb11 hTd
            go_wp2
            go_ret
            exact ⟨_, HSZ.out, rfl, hB2⟩
          · have e1 : (z == 1) = false := by simp [hz1]
            have hB := HC9.out.base
            clear hz0 hz1
            go_wp2
            go_ret
            exact ⟨s, by omega, rfl, hB⟩
end Go.Proofs.YtjcfdkmlkhgfiaaDoor
