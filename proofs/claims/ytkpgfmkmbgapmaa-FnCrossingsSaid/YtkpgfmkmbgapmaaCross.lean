/- Contracts of the helpers that copy, compare, mark and hold crossings; no condition beyond lengths. -/
import Derived.Test.YtkpgfmkmbgapmaaKit
namespace Go.Proofs.Ytkpgfmkmbgapmaa
open Go.ChangeShapes Go.WideShapes Go.ChangeAt Go.RowKit Go.Deep Go.Joins
set_option maxRecDepth 100000

structure Cr where
  at_ : Int
  front : Bool
def Cr.cs (x : Cr) : List Value := [.int .i64 x.at_, .bool x.front]
def crs (ls : List Cr) : List Value := ls.flatMap Cr.cs
theorem crs_length (ls : List Cr) : (crs ls).length = ls.length * 2 := by
  induction ls with
  | nil => rfl
  | cons x xs ih => simp only [crs, List.flatMap_cons, List.length_append, List.length_cons] at ih ⊢; rw [ih]; simp [Cr.cs]; omega
theorem crs_append (xs ys : List Cr) : crs (xs ++ ys) = crs xs ++ crs ys := by simp [crs]
theorem crs_cons (x : Cr) (xs : List Cr) : crs (x :: xs) = .int .i64 x.at_ :: .bool x.front :: crs xs := rfl
theorem crs_snoc {ls : List Cr} {k : Nat} {x : Cr} (h : ls[k]? = some x) : crs (ls.take (k + 1)) = crs (ls.take k) ++ [.int .i64 x.at_, .bool x.front] := by
  rw [take_snoc h, crs_append]; rfl
theorem crs_get (ls : List Cr) (k : Nat) (hk : k < ls.length) (j : Nat) (hj : j < 2) : (crs ls)[k * 2 + j]? = (ls[k]).cs[j]? := by
  induction ls generalizing k with
  | nil => simp at hk
  | cons x xs ih =>
    cases k with
    | zero =>
      simp only [crs, List.flatMap_cons]
      rw [List.getElem?_append_left (by simp [Cr.cs]; omega)]
      simp
    | succ k =>
      have := ih k (by simpa using hk)
      simp only [crs, List.flatMap_cons] at this ⊢
      rw [List.getElem?_append_right (by simp [Cr.cs]; omega), show (k + 1) * 2 + j - (Cr.cs x).length = k * 2 + j from by simp [Cr.cs]; omega, this]
      simp
theorem Reads.crlen {w : World} {A : Option Addr} {n : Nat} {ls : List Cr} (h : Reads w 2 A n (crs ls)) : ls.length = n := by
  have := h.1
  rw [crs_length] at this
  omega
theorem Reads.cr {w : World} {A : Option Addr} {n : Nat} {ls : List Cr} (h : Reads w 2 A n (crs ls)) {k : Nat} (hk : k < n) :
    ∃ b o x, A = some ⟨b, o, none⟩ ∧ b < w.heap.size ∧ ls[k]? = some x ∧ w.cell? ⟨b, o + k * 2, none⟩ = some (.int .i64 x.at_) ∧ w.cell? ⟨b, o + k * 2 + 1, none⟩ = some (.bool x.front) := by
  obtain ⟨b, o, e, hb, hc⟩ := h.2 (by omega)
  have hl := h.crlen
  have hkl : k < ls.length := by omega
  have g := crs_get ls k hkl
  refine ⟨b, o, ls[k], e, hb, List.getElem?_eq_getElem hkl, ?_, ?_⟩
  · exact hc (k * 2) _ (by have := g 0 (by omega); simpa [Cr.cs] using this)
  · have := hc (k * 2 + 1) _ (by have := g 1 (by omega); simpa [Cr.cs] using this); rwa [← Nat.add_assoc] at this

theorem row2 {w : World} {g : Nat} {t : TypeId} {pre : List Value} {r0 r1 : Value} {rest : List Value} (h : Row w g t (pre ++ r0 :: r1 :: rest)) {m : Nat} (hm : pre.length = m) :
    w.cell? ⟨g, m, none⟩ = some r0 ∧ w.cell? ⟨g, m + 1, none⟩ = some r1 ∧ w.frozen? ⟨g, m, none⟩ = false ∧ w.frozen? ⟨g, m + 1, none⟩ = false := by
  subst hm
  refine ⟨h.cell_ (by simp), h.cell_ ?_, h.frozen _, h.frozen _⟩
  rw [List.getElem?_append_right (by omega)]; simp
theorem row2_set {w : World} {g : Nat} {t : TypeId} {pre pre' : List Value} {r0 r1 u0 u1 : Value} {rest : List Value} (h : Row w g t (pre ++ r0 :: r1 :: rest)) {m : Nat} (hm : pre.length = m) (hp : pre' = pre ++ [u0, u1]) :
    Row ((w.setCell ⟨g, m, none⟩ u0).setCell ⟨g, m + 1, none⟩ u1) g t (pre' ++ rest) := by
  subst hm hp
  have h1 := h.set pre.length u0
  rw [set_append_cons _ _ _ _ rfl, List.append_cons] at h1
  have h2 := h1.set (pre.length + 1) u1
  rw [set_append_cons _ _ _ _ (by simp)] at h2
  simpa using h2

theorem toCross_any (a : Int) (b : Bool) (w : World) :
    Calls Try.prog 40 #[.agg #[.int .i64 a, .bool b]] w fun e w' => e = .returned (.agg #[.int .i64 a, .bool b]) ∧ Below w.heap.size w w' := by
  go_enter Try.func40, Try.ntmps40
  go_wp2
  go_returns
  exact ⟨rfl, by go_grown⟩

theorem info_cross : (Try.prog.info? 49).map (fun i => (i.zero, i.size, i.bytes)) = some (some (.agg #[.int .i64 0, .bool false]), 2, 16) := by kernel_rfl

theorem toCrossS_any (A : Option Addr) (n c : Nat) (ls : List Cr) (w : World) (hr : Reads w 2 A n (crs ls)) (hn : n ≤ 1048576) :
    Calls Try.prog 13 #[.slice A n c] w fun e w' => ∃ g, e = .returned (.slice (some ⟨g, 0, none⟩) n n) ∧ w'.ownsRow w.heap.size 49 2 (.slice (some ⟨g, 0, none⟩) n n) n (crs ls) ∧ Below w.heap.size w w' := by
  obtain ⟨i0, hi, hz0, hz1, hz2⟩ := info_parts info_cross
  have hmk := fun W => run_make_rowN (P := Try.prog) 25 49 i0 _ Try.underlying25 hi hz0 .i64 .i64 n n (Nat.le_refl _) (by rw [hz2]; omega) (by omega) W
  rw [hz1] at hmk
  clear hi hz0 hz1 hz2
  go_enter Try.func13, Try.ntmps13
  go_wp2
  clear hmk
  go_loopw [4] (fun i wr => ∃ (k : Nat) (rest : List Value), k ≤ n ∧ i = .int .i64 k ∧ rest.length = (n - k) * 2 ∧ Row wr w.heap.size 49 (crs (ls.take k) ++ rest) ∧ Below w.heap.size w wr) (fun i _ => n - (intOf i).toNat)
  case atStart => exact ⟨0, _, by omega, rfl, by rw [made_length]; rfl, Row.made _ _ _ _, by go_grown⟩
  case round =>
    obtain ⟨k, rest, hk, rfl, hrest, hrow, hbel⟩ := hrel
    by_cases hlt : k < n
    · obtain ⟨b, o, x, rfl, hbB, hx, c0, c1⟩ := (hr.below hbel).cr hlt
      obtain ⟨r0, r1, rest, rfl⟩ : ∃ r0 r1 r, rest = r0 :: r1 :: r := by
        match rest, hrest with
        | r0 :: r1 :: r, _ => exact ⟨r0, r1, r, rfl⟩
        | [], h => simp at h; omega
        | [_], h => simp at h; omega
      have HX := Lib.hid hx; clear hx
      have HR := Lib.hid hrow; clear hrow
      have HL := Lib.hid hrest; clear hrest
      go_wp2_with (go_at_call 40; refine (toCross_any _ _ _).mono ?_; rintro e w' ⟨rfl, hb1⟩; obtain ⟨d0, d1, f0, f1⟩ := row2 (HR.out.below hb1) (m := k * 2) (by rw [crs_length]; have := take_len HX.out; omega))
      go_roundw
      case rel => exact ⟨k + 1, rest, by omega, by go_num, by have := HL.out; simp at this; omega, row2_set (HR.out.below hb1) (by rw [crs_length, take_len HX.out]) (crs_snoc HX.out), ((hbel.trans (hb1.mono hbel.size)).setCell (Nat.le_refl _) _).setCell (Nat.le_refl _) _⟩
      case measure => simp [intOf]; omega
    · go_wp2
      go_ret
      obtain rfl : k = n := by omega
      have hl := hr.crlen
      have hr0 : rest = [] := List.eq_nil_of_length_eq_zero (by omega)
      subst hr0
      rw [List.take_of_length_le (by omega), List.append_nil] at hrow
      exact ⟨_, rfl, hrow.own (Nat.le_refl _) (Nat.le_refl _) (by unfold maxLen; omega) hr.1 (List.take_of_length_le (by rw [hr.1]; exact Nat.le_refl _)), hbel⟩

theorem szCrossS_t (A : Option Addr) (n c : Nat) (left : Int) (w : World) (h0 : left ≤ 1048576) (h : (n : Int) ≤ left) :
    Calls Try.prog 11 #[.slice A n c, .int .i64 left] w fun e w' => e = .returned (.int .i64 (left - n)) ∧ w = w' := by
  go_enter Try.func11, Try.ntmps11
  go_wp2
  go_ret
  exact ⟨rfl, rfl⟩

theorem szCrossS_f (A : Option Addr) (n c : Nat) (left : Int) (w : World) (h0 : left ≤ 1048576) (h1 : 0 ≤ left) (hm : n ≤ 9223372036854775807) (h : left < n) :
    Calls Try.prog 11 #[.slice A n c, .int .i64 left] w fun e w' => e = .returned (.int .i64 (-1)) ∧ w = w' := by
  go_enter Try.func11, Try.ntmps11
  go_wp2
  go_ret
  exact ⟨rfl, rfl⟩

theorem eqCross_t (a : Int) (b : Bool) (w : World) :
    Calls Try.prog 42 #[.agg #[.int .i64 a, .bool b], .agg #[.int .i64 a, .bool b]] w fun e w' => e = .returned (.bool true) ∧ Below w.heap.size w w' := by
  cases b <;>
  · go_enter Try.func42, Try.ntmps42
    go_wp2
    go_ret
    exact ⟨rfl, by go_grown⟩

theorem eqCrossS_t (A B : Option Addr) (n c d : Nat) (ls : List Cr) (w : World) (ha : Reads w 2 A n (crs ls)) (hb : Reads w 2 B n (crs ls)) (hn : n ≤ 9223372036854775807) :
    Calls Try.prog 15 #[.slice A n c, .slice B n d] w fun e w' => e = .returned (.bool true) ∧ Below w.heap.size w w' := by
  go_enter Try.func15, Try.ntmps15
  go_wp2
  go_loopw [5] (fun i wr => ∃ k : Nat, k ≤ n ∧ i = .int .i64 k ∧ Below w.heap.size w wr) (fun i _ => n - (intOf i).toNat)
  case atStart => exact ⟨0, Nat.zero_le _, rfl, Below.refl _ _⟩
  case round =>
    obtain ⟨k, hk, rfl, hbel⟩ := hrel
    by_cases hlt : k < n
    · obtain ⟨b, o, x, rfl, hbB, hx, c0, c1⟩ := (ha.below hbel).cr hlt
      obtain ⟨b', o', x', rfl, hbB', hx', d0, d1⟩ := (hb.below hbel).cr hlt
      obtain rfl : x = x' := by rw [hx] at hx'; exact Option.some.inj hx'
      clear hx hx'
      have l1 : (k : Int) < (n : Int) := by omega
      go_wp2
      go_still_tail 8, (by kernel_rfl)
      go_wp2_with (go_at_call 42; refine (eqCross_t _ _ _).mono ?_; rintro e w' ⟨rfl, hb1⟩)
      go_roundw
      case rel => exact ⟨k + 1, by omega, by go_num, (below_drewN hbel _).trans (hb1.mono hbel.size)⟩
      case measure => simp [intOf]; omega
    · go_wp2
      go_ret
      exact ⟨rfl, hbel⟩
theorem eqCrossS_b {A B : Option Addr} {n m c d : Nat} {ls : List Cr} {w : World} (ha : Reads w 2 A n (crs ls)) (hb : Reads w 2 B m (crs ls)) (hn : n ≤ 1048576) :
    Calls Try.prog 15 #[.slice A n c, .slice B m d] w fun e w' => e = .returned (.bool true) ∧ Below w.heap.size w w' := by
  have e1 := ha.crlen
  have e2 := hb.crlen
  obtain rfl : n = m := by omega
  exact eqCrossS_t A B n c d ls w ha hb (by omega)

def markCrs (k : Int) (n : Nat) : List Cr := (List.range n).map fun i : Nat => ⟨k + 2 * (i : Int), (k + 2 * (i : Int) + 1) % 3 == 0⟩
theorem markCrs_length (k : Int) (n : Nat) : (markCrs k n).length = n := by simp [markCrs]
theorem markCrs_get (k : Int) (n i : Nat) (h : i < n) : (markCrs k n)[i]? = some ⟨k + 2 * (i : Int), (k + 2 * (i : Int) + 1) % 3 == 0⟩ := by simp [markCrs, List.getElem?_map, List.getElem?_range h]
theorem markCrs_snoc (k : Int) (n : Nat) : markCrs k (n + 1) = markCrs k n ++ [⟨k + 2 * (n : Int), (k + 2 * (n : Int) + 1) % 3 == 0⟩] := by simp [markCrs, List.range_succ]

theorem markCrossS_any (base : Nat) (A : Option Addr) (n c : Nat) (ls : List Cr) (k : Int) (w : World) (ho : w.ownsRow base 49 2 (.slice A n c) n (crs ls)) (hn : n ≤ 1048576) (hk0 : 0 ≤ k) (hk : k ≤ 1099511627776) :
    Calls Try.prog 18 #[.slice A n c, .int .i64 k] w fun e w' => e = .returned (.int .i64 (k + 2 * n)) ∧ w'.ownsRow base 49 2 (.slice A n c) n (crs (markCrs k n)) ∧ w.grownBy w' (Value.slice A n c).ownBlock := by
  have hlen : ls.length = n := by have := ho.1; rw [crs_length] at this; omega
  go_enter Try.func18, Try.ntmps18
  go_wp2
  go_loopw [1, 5] (fun q i wr => ∃ j : Nat, j ≤ n ∧ i = .int .i64 j ∧ q = .int .i64 (k + 2 * j) ∧ wr.ownsRow base 49 2 (.slice A n c) n (crs (markCrs k j) ++ crs (ls.drop j)) ∧ w.grownBy wr (Value.slice A n c).ownBlock) (fun _ i _ => n - (intOf i).toNat)
  case atStart => exact ⟨0, Nat.zero_le _, rfl, by simp, by simpa [markCrs, crs] using ho, World.grownBy.refl w _⟩
  case round =>
    obtain ⟨j, hj, rfl, rfl, hrow, hg⟩ := hrel
    by_cases hlt : j < n
    · have hx : ls[j]? = some (ls[j]'(by omega)) := List.getElem?_eq_getElem (by omega)
      generalize ls[j]'(by omega) = x at hx
      rw [drop_cons hx, crs_cons] at hrow
      have hl : (crs (markCrs k j)).length = j * 2 := by rw [crs_length, markCrs_length]
      obtain ⟨g, rfl, hbg, hgl, c0, f0⟩ := own_at hrow (m := j * 2) hl.symm
      have h1 := own_set hrow (m := j * 2) hl.symm (.int .i64 (k + 2 * j))
      rw [List.append_cons] at h1
      obtain ⟨g', e', _, _, c1, f1⟩ := own_at h1 (m := j * 2 + 1) (by simp [hl])
      injection e' with e'; injection e' with e' _; subst e'
      have h2 := own_set h1 (m := j * 2 + 1) (by simp [hl]) (.bool ((k + 2 * j + 1) % 3 == 0))
      have HR := Lib.hid h2
      have HG := Lib.hid (grown_setCell (grown_setCell hg (p := ⟨g, j * 2, none⟩) (.inl rfl) (.int .i64 (k + 2 * j))) (p := ⟨g, j * 2 + 1, none⟩) (.inl rfl) (.bool ((k + 2 * j + 1) % 3 == 0)))
      have tm : Int.tmod (k + 2 * j + 1) 3 = (k + 2 * j + 1) % 3 := Int.tmod_eq_emod_of_nonneg (by omega)
      clear hx hrow hg ho hlen hl h1 h2
      go_wp2
      go_roundw
      case rel => exact ⟨j + 1, by omega, by go_num, by go_num, by rw [markCrs_snoc, crs_append]; simpa [crs, Cr.cs] using HR.out, HG.out⟩
      case measure => simp [intOf]; omega
    · go_wp2
      go_ret
      obtain rfl : j = n := by omega
      exact ⟨rfl, by rw [List.drop_eq_nil_of_le (by omega)] at hrow; simpa [crs] using hrow, hg⟩

theorem heldCrossS_any (A : Option Addr) (n c : Nat) (k : Int) (w : World) (hr : Reads w 2 A n (crs (markCrs k n))) (hn : n ≤ 1048576) (hk0 : 0 ≤ k) (hk : k ≤ 1099511627776) :
    Calls Try.prog 19 #[.slice A n c, .int .i64 k] w fun e w' => e = .returned (.int .i64 (k + 2 * n)) ∧ w = w' := by
  go_enter Try.func19, Try.ntmps19
  go_wp2
  go_loop [1, 5] (fun q i => ∃ j : Nat, j ≤ n ∧ i = .int .i64 j ∧ q = .int .i64 (k + 2 * j)) (fun _ i => n - (intOf i).toNat)
  case atStart => exact ⟨0, Nat.zero_le _, rfl, by simp⟩
  case round =>
    obtain ⟨j, hj, rfl, rfl⟩ := hrel
    by_cases hlt : j < n
    · obtain ⟨b, o, x, rfl, hbB, hx, c0, c1⟩ := hr.cr hlt
      rw [markCrs_get k n j hlt] at hx
      obtain rfl := Option.some.inj hx
      clear hx
      have tm : Int.tmod (k + 2 * j + 1) 3 = (k + 2 * j + 1) % 3 := Int.tmod_eq_emod_of_nonneg (by omega)
      cases hbb : ((k + 2 * (j : Int) + 1) % 3 == 0) <;> simp only [hbb] at c1
      all_goals
        go_wp2
        go_round
        case rel => exact ⟨j + 1, by omega, by go_num, by go_num⟩
        case measure => simp [intOf]; omega
    · go_wp2
      go_ret
      obtain rfl : j = n := by omega
      exact ⟨rfl, rfl⟩
end Go.Proofs.Ytkpgfmkmbgapmaa
