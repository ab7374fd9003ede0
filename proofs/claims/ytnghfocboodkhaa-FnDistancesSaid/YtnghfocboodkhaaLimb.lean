/- Contracts of the helpers that copy, compare and mark limbs and bodies; no condition beyond lengths. -/
import Derived.Test.YtnghfocboodkhaaKit
import Derived.Test.YtnghfocboodkhaaBd2
namespace Go.Proofs.Ytnghfocboodkhaa
open Go.ChangeShapes Go.WideShapes Go.ChangeAt Go.RowKit Go.Deep Go.Joins
set_option maxRecDepth 100000

def Lb.v (x : Lb) : Value := .agg #[.int .i64 x.a, .int .i64 x.b, .int .i64 x.l]
def Lb.cs (x : Lb) : List Value := [.int .i64 x.a, .int .i64 x.b, .int .i64 x.l]
def lbs (ls : List Lb) : List Value := ls.flatMap Lb.cs

theorem lbs_length (ls : List Lb) : (lbs ls).length = ls.length * 3 := by
  induction ls with
  | nil => rfl
  | cons x xs ih => simp only [lbs, List.flatMap_cons, List.length_append, List.length_cons] at ih ⊢; rw [ih]; simp [Lb.cs]; omega
theorem lbs_get (ls : List Lb) (k : Nat) (hk : k < ls.length) (j : Nat) (hj : j < 3) : (lbs ls)[k * 3 + j]? = (ls[k]).cs[j]? := by
  induction ls generalizing k with
  | nil => simp at hk
  | cons x xs ih =>
    cases k with
    | zero =>
      simp only [lbs, List.flatMap_cons]
      rw [List.getElem?_append_left (by simp [Lb.cs]; omega)]
      simp
    | succ k =>
      have := ih k (by simpa using hk)
      simp only [lbs, List.flatMap_cons] at this ⊢
      rw [List.getElem?_append_right (by simp [Lb.cs]; omega), show (k + 1) * 3 + j - (Lb.cs x).length = k * 3 + j from by simp [Lb.cs]; omega, this]
      simp

theorem Reads.lb {w : World} {A : Option Addr} {n : Nat} {ls : List Lb} (h : Reads w 3 A n (lbs ls)) {k : Nat} (hk : k < n) :
    ∃ b o x, A = some ⟨b, o, none⟩ ∧ b < w.heap.size ∧ ls[k]? = some x ∧ w.cell? ⟨b, o + k * 3, none⟩ = some (.int .i64 x.a) ∧ w.cell? ⟨b, o + k * 3 + 1, none⟩ = some (.int .i64 x.b) ∧ w.cell? ⟨b, o + k * 3 + 2, none⟩ = some (.int .i64 x.l) := by
  obtain ⟨b, o, e, hb, hc⟩ := h.2 (by omega)
  have hl : ls.length = n := by have := h.1; rw [lbs_length] at this; omega
  have hkl : k < ls.length := by omega
  have g := lbs_get ls k hkl
  refine ⟨b, o, ls[k], e, hb, List.getElem?_eq_getElem hkl, ?_, ?_, ?_⟩
  · exact hc (k * 3) _ (by have := g 0 (by omega); simpa [Lb.cs] using this)
  · have := hc (k * 3 + 1) _ (by have := g 1 (by omega); simpa [Lb.cs] using this); rwa [← Nat.add_assoc] at this
  · have := hc (k * 3 + 2) _ (by have := g 2 (by omega); simpa [Lb.cs] using this); rwa [← Nat.add_assoc] at this

theorem row3 {w : World} {g : Nat} {t : TypeId} {pre : List Value} {r0 r1 r2 : Value} {rest : List Value} (h : Row w g t (pre ++ r0 :: r1 :: r2 :: rest)) {m : Nat} (hm : pre.length = m) :
    w.cell? ⟨g, m, none⟩ = some r0 ∧ w.cell? ⟨g, m + 1, none⟩ = some r1 ∧ w.cell? ⟨g, m + 2, none⟩ = some r2 ∧ w.frozen? ⟨g, m, none⟩ = false ∧ w.frozen? ⟨g, m + 1, none⟩ = false ∧ w.frozen? ⟨g, m + 2, none⟩ = false := by
  subst hm
  refine ⟨h.cell_ (by simp), h.cell_ ?_, h.cell_ ?_, h.frozen _, h.frozen _, h.frozen _⟩
  · rw [List.getElem?_append_right (by omega)]; simp
  · rw [List.getElem?_append_right (by omega)]; simp
theorem row3_set {w : World} {g : Nat} {t : TypeId} {pre pre' : List Value} {r0 r1 r2 u0 u1 u2 : Value} {rest : List Value} (h : Row w g t (pre ++ r0 :: r1 :: r2 :: rest)) {m : Nat} (hm : pre.length = m) (hp : pre' = pre ++ [u0, u1, u2]) :
    Row (((w.setCell ⟨g, m, none⟩ u0).setCell ⟨g, m + 1, none⟩ u1).setCell ⟨g, m + 2, none⟩ u2) g t (pre' ++ rest) := by
  subst hm hp
  have h1 := h.set pre.length u0
  rw [set_append_cons _ _ _ _ rfl, List.append_cons] at h1
  have h2 := h1.set (pre.length + 1) u1
  rw [set_append_cons _ _ _ _ (by simp), List.append_cons] at h2
  have h3 := h2.set (pre.length + 2) u2
  rw [set_append_cons _ _ _ _ (by simp)] at h3
  simpa using h3
theorem lbs_append (xs ys : List Lb) : lbs (xs ++ ys) = lbs xs ++ lbs ys := by simp [lbs]
theorem lbs_snoc {ls : List Lb} {k : Nat} {x : Lb} (h : ls[k]? = some x) : lbs (ls.take (k + 1)) = lbs (ls.take k) ++ [.int .i64 x.a, .int .i64 x.b, .int .i64 x.l] := by
  rw [take_snoc h, lbs_append]; rfl

theorem toLimb_any (a b c : Int) (w : World) :
    Calls Try.prog 67 #[.agg #[.int .i64 a, .int .i64 b, .int .i64 c]] w fun e w' => e = .returned (.agg #[.int .i64 a, .int .i64 b, .int .i64 c]) ∧ Below w.heap.size w w' := by
  go_enter Try.func67, Try.ntmps67
  go_wp2
  go_returns
  exact ⟨rfl, by go_grown⟩

theorem info_limb : (Try.prog.info? 52).map (fun i => (i.zero, i.size, i.bytes)) = some (some (.agg #[.int .i64 0, .int .i64 0, .int .i64 0]), 3, 24) := by kernel_rfl

theorem toLimbS_any (A : Option Addr) (n c : Nat) (ls : List Lb) (w : World) (hr : Reads w 3 A n (lbs ls)) (hn : n ≤ 1048576) :
    Calls Try.prog 53 #[.slice A n c] w fun e w' => ∃ g, e = .returned (.slice (some ⟨g, 0, none⟩) n n) ∧ w'.ownsRow w.heap.size 52 3 (.slice (some ⟨g, 0, none⟩) n n) n (lbs ls) ∧ Below w.heap.size w w' := by
  obtain ⟨i0, hi, hz0, hz1, hz2⟩ := info_parts info_limb
  have hmk := fun W => run_make_rowN (P := Try.prog) 22 52 i0 _ Try.underlying22 hi hz0 .i64 .i64 n n (Nat.le_refl _) (by rw [hz2]; omega) (by omega) W
  rw [hz1] at hmk
  clear hi hz0 hz1 hz2
  go_enter Try.func53, Try.ntmps53
  go_wp2
  clear hmk
  go_loopw [4] (fun i wr => ∃ (k : Nat) (rest : List Value), k ≤ n ∧ i = .int .i64 k ∧ rest.length = (n - k) * 3 ∧ Row wr w.heap.size 52 (lbs (ls.take k) ++ rest) ∧ Below w.heap.size w wr) (fun i _ => n - (intOf i).toNat)
  case atStart => exact ⟨0, _, by omega, rfl, by rw [made_length]; rfl, Row.made _ _ _ _, by go_grown⟩
  case round =>
    obtain ⟨k, rest, hk, rfl, hrest, hrow, hbel⟩ := hrel
    by_cases hlt : k < n
    · obtain ⟨b, o, x, rfl, hbB, hx, c0, c1, c2⟩ := (hr.below hbel).lb hlt
      obtain ⟨r0, r1, r2, rest, rfl⟩ : ∃ r0 r1 r2 r, rest = r0 :: r1 :: r2 :: r := by
        match rest, hrest with
        | r0 :: r1 :: r2 :: r, _ => exact ⟨r0, r1, r2, r, rfl⟩
        | [], h => simp at h; omega
        | [_], h => simp at h; omega
        | [_, _], h => simp at h; omega
      have HX := Lib.hid hx; clear hx
      have HR := Lib.hid hrow; clear hrow
      have HL := Lib.hid hrest; clear hrest
      go_wp2_with (go_at_call 67; refine (toLimb_any _ _ _ _).mono ?_; rintro e w' ⟨rfl, hb1⟩; obtain ⟨d0, d1, d2, f0, f1, f2⟩ := row3 (HR.out.below hb1) (m := k * 3) (by rw [lbs_length]; have := take_len HX.out; omega))
      go_roundw
      case rel => exact ⟨k + 1, rest, by omega, by go_num, by have := HL.out; simp at this; omega, row3_set (HR.out.below hb1) (by rw [lbs_length, take_len HX.out]) (lbs_snoc HX.out), (((hbel.trans (hb1.mono hbel.size)).setCell (Nat.le_refl _) _).setCell (Nat.le_refl _) _).setCell (Nat.le_refl _) _⟩
      case measure => simp [intOf]; omega
    · go_wp2
      go_ret
      obtain rfl : k = n := by omega
      have hl : ls.length = k := by have := hr.1; rw [lbs_length] at this; omega
      have hr0 : rest = [] := List.eq_nil_of_length_eq_zero (by omega)
      subst hr0
      rw [List.take_of_length_le (by omega), List.append_nil] at hrow
      exact ⟨_, rfl, hrow.own (Nat.le_refl _) (Nat.le_refl _) (by unfold maxLen; omega) hr.1 (List.take_of_length_le (by rw [hr.1]; exact Nat.le_refl _)), hbel⟩

/-- A body, as the functions read it. -/
structure Bd where
  n : Int
  ls : List Lb
theorem toBody_any (j : Int) (A : Option Addr) (n c : Nat) (ls : List Lb) (w : World) (hr : Reads w 3 A n (lbs ls)) (hn : n ≤ 1048576) :
    Calls Try.prog 22 #[.agg #[.int .i64 j, .slice A n c]] w fun e w' =>
      ∃ g, e = .returned (.agg #[.int .i64 j, .slice (some ⟨g, 0, none⟩) n n]) ∧ w'.ownsRow w.heap.size 52 3 (.slice (some ⟨g, 0, none⟩) n n) n (lbs ls) ∧ Below w.heap.size w w' := by
  go_enter Try.func22, Try.ntmps22
  go_wp2_with (go_at_call 53; refine (toLimbS_any _ _ _ _ _ (hr.below (by go_grown)) hn).mono ?_; rintro e w' ⟨g, rfl, hown, hb⟩; obtain ⟨hc, hf⟩ := bcell hb)
  refine bodyPost_ret (v := .agg #[.int .i64 j, .slice (some ⟨g, 0, none⟩) n n]) (by simp [results, Try.results22, go_sem, hc]) rfl ⟨g, rfl, ?_, ?_⟩
  · exact ownsRow_le (ownsRow_setCell_below (ownsRow_setCell_below (ownsRow_setCell_below hown (by simp) _) (by simp) _) (by simp) _) (by simp; omega)
  · exact ((((by go_grown : Below w.heap.size w _).trans (hb.mono (by simp; omega))).setCell (by simp; omega) _).setCell (by simp) _).setCell (by simp) _

theorem szLimbS_t (A : Option Addr) (n c : Nat) (left : Int) (w : World) (h0 : left ≤ 1048576) (h : (n : Int) ≤ left) :
    Calls Try.prog 51 #[.slice A n c, .int .i64 left] w fun e w' => e = .returned (.int .i64 (left - n)) ∧ w = w' := by
  go_enter Try.func51, Try.ntmps51
  go_wp2
  go_ret
  exact ⟨rfl, rfl⟩

theorem szLimbS_f (A : Option Addr) (n c : Nat) (left : Int) (w : World) (h0 : left ≤ 1048576) (h1 : 0 ≤ left) (hm : n ≤ 9223372036854775807) (h : left < n) :
    Calls Try.prog 51 #[.slice A n c, .int .i64 left] w fun e w' => e = .returned (.int .i64 (-1)) ∧ w = w' := by
  go_enter Try.func51, Try.ntmps51
  go_wp2
  go_ret
  exact ⟨rfl, rfl⟩

theorem szBody_t (j : Int) (A : Option Addr) (n c : Nat) (left : Int) (w : World) (h0 : left ≤ 1048576) (h : (n : Int) ≤ left) :
    Calls Try.prog 20 #[.agg #[.int .i64 j, .slice A n c], .int .i64 left] w fun e w' => e = .returned (.int .i64 (left - n)) ∧ Below w.heap.size w w' := by
  go_enter Try.func20, Try.ntmps20
  go_wp2_with (go_at_call 51; refine (szLimbS_t _ _ _ _ _ h0 h).mono ?_; rintro e w' ⟨rfl, rfl⟩)
  go_ret
  exact ⟨rfl, by go_grown⟩

theorem szBody_f (j : Int) (A : Option Addr) (n c : Nat) (left : Int) (w : World) (h0 : left ≤ 1048576) (h1 : 0 ≤ left) (hm : n ≤ 9223372036854775807) (h : left < n) :
    Calls Try.prog 20 #[.agg #[.int .i64 j, .slice A n c], .int .i64 left] w fun e w' => e = .returned (.int .i64 (-1)) ∧ Below w.heap.size w w' := by
  go_enter Try.func20, Try.ntmps20
  go_wp2_with (go_at_call 51; refine (szLimbS_f _ _ _ _ _ h0 h1 hm h).mono ?_; rintro e w' ⟨rfl, rfl⟩)
  go_ret
  exact ⟨rfl, by go_grown⟩

theorem eqLimb_t (a b c : Int) (w : World) :
    Calls Try.prog 66 #[.agg #[.int .i64 a, .int .i64 b, .int .i64 c], .agg #[.int .i64 a, .int .i64 b, .int .i64 c]] w fun e w' => e = .returned (.bool true) ∧ Below w.heap.size w w' := by
  go_enter Try.func66, Try.ntmps66
  go_wp2
  go_ret
  exact ⟨rfl, by go_grown⟩

theorem eqLimbS_t (A B : Option Addr) (n c d : Nat) (ls : List Lb) (w : World) (ha : Reads w 3 A n (lbs ls)) (hb : Reads w 3 B n (lbs ls)) (hn : n ≤ 9223372036854775807) :
    Calls Try.prog 48 #[.slice A n c, .slice B n d] w fun e w' => e = .returned (.bool true) ∧ Below w.heap.size w w' := by
  go_enter Try.func48, Try.ntmps48
  go_wp2
  go_loopw [5] (fun i wr => ∃ k : Nat, k ≤ n ∧ i = .int .i64 k ∧ Below w.heap.size w wr) (fun i _ => n - (intOf i).toNat)
  case atStart => exact ⟨0, Nat.zero_le _, rfl, Below.refl _ _⟩
  case round =>
    obtain ⟨k, hk, rfl, hbel⟩ := hrel
    by_cases hlt : k < n
    · obtain ⟨b, o, x, rfl, hbB, hx, c0, c1, c2⟩ := (ha.below hbel).lb hlt
      obtain ⟨b', o', x', rfl, hbB', hx', d0, d1, d2⟩ := (hb.below hbel).lb hlt
      obtain rfl : x = x' := by rw [hx] at hx'; exact Option.some.inj hx'
      clear hx hx'
      have l1 : (k : Int) < (n : Int) := by omega
      go_wp2
      go_still_tail 8, (by kernel_rfl)
      go_wp2_with (go_at_call 66; refine (eqLimb_t _ _ _ _).mono ?_; rintro e w' ⟨rfl, hb1⟩)
      go_roundw
      case rel => exact ⟨k + 1, by omega, by go_num, (below_drewN hbel _).trans (hb1.mono hbel.size)⟩
      case measure => simp [intOf]; omega
    · go_wp2
      go_ret
      exact ⟨rfl, hbel⟩

theorem eqBody_t (j : Int) (A B : Option Addr) (n c d : Nat) (ls : List Lb) (w : World) (ha : Reads w 3 A n (lbs ls)) (hb : Reads w 3 B n (lbs ls)) (hn : n ≤ 9223372036854775807) :
    Calls Try.prog 17 #[.agg #[.int .i64 j, .slice A n c], .agg #[.int .i64 j, .slice B n d]] w fun e w' => e = .returned (.bool true) ∧ Below w.heap.size w w' := by
  go_enter Try.func17, Try.ntmps17
  go_wp2_with (go_at_call 48; refine (eqLimbS_t _ _ _ _ _ _ _ (ha.below (by go_grown)) (hb.below (by go_grown)) hn).mono ?_; rintro e w' ⟨rfl, hb1⟩)
  go_ret
  exact ⟨rfl, (by go_grown : Below w.heap.size w _).trans (hb1.mono (by simp; omega))⟩

def markLbs (k : Int) (n : Nat) : List Lb := (List.range n).map fun i : Nat => ⟨k + 3 * (i : Int), k + 3 * (i : Int) + 1, k + 3 * (i : Int) + 1 + 1⟩
theorem markLbs_length (k : Int) (n : Nat) : (markLbs k n).length = n := by simp [markLbs]
theorem markLbs_get (k : Int) (n i : Nat) (h : i < n) : (markLbs k n)[i]? = some ⟨k + 3 * (i : Int), k + 3 * (i : Int) + 1, k + 3 * (i : Int) + 1 + 1⟩ := by simp [markLbs, List.getElem?_map, List.getElem?_range h]
theorem markLbs_snoc (k : Int) (n : Nat) : markLbs k (n + 1) = markLbs k n ++ [⟨k + 3 * (n : Int), k + 3 * (n : Int) + 1, k + 3 * (n : Int) + 1 + 1⟩] := by simp [markLbs, List.range_succ]
theorem lbs_cons (x : Lb) (xs : List Lb) : lbs (x :: xs) = .int .i64 x.a :: .int .i64 x.b :: .int .i64 x.l :: lbs xs := rfl

theorem markLimbS_any (base : Nat) (A : Option Addr) (n c : Nat) (ls : List Lb) (k : Int) (w : World) (ho : w.ownsRow base 52 3 (.slice A n c) n (lbs ls)) (hn : n ≤ 1048576) (hk0 : 0 ≤ k) (hk : k ≤ 1099511627776) :
    Calls Try.prog 49 #[.slice A n c, .int .i64 k] w fun e w' => e = .returned (.int .i64 (k + 3 * n)) ∧ w'.ownsRow base 52 3 (.slice A n c) n (lbs (markLbs k n)) ∧ w.grownBy w' (Value.slice A n c).ownBlock := by
  have hlen : ls.length = n := by have := ho.1; rw [lbs_length] at this; omega
  go_enter Try.func49, Try.ntmps49
  go_wp2
  go_loopw [1, 5] (fun q i wr => ∃ j : Nat, j ≤ n ∧ i = .int .i64 j ∧ q = .int .i64 (k + 3 * j) ∧ wr.ownsRow base 52 3 (.slice A n c) n (lbs (markLbs k j) ++ lbs (ls.drop j)) ∧ w.grownBy wr (Value.slice A n c).ownBlock) (fun _ i _ => n - (intOf i).toNat)
  case atStart => exact ⟨0, Nat.zero_le _, rfl, by simp, by simpa [markLbs, lbs] using ho, World.grownBy.refl w _⟩
  case round =>
    obtain ⟨j, hj, rfl, rfl, hrow, hg⟩ := hrel
    by_cases hlt : j < n
    · have hx : ls[j]? = some (ls[j]'(by omega)) := List.getElem?_eq_getElem (by omega)
      generalize ls[j]'(by omega) = x at hx
      rw [drop_cons hx, lbs_cons] at hrow
      have hl : (lbs (markLbs k j)).length = j * 3 := by rw [lbs_length, markLbs_length]
      obtain ⟨g, rfl, hbg, hgl, c0, f0⟩ := own_at hrow (m := j * 3) hl.symm
      have h1 := own_set hrow (m := j * 3) hl.symm (.int .i64 (k + 3 * j))
      rw [List.append_cons] at h1
      obtain ⟨g', e', _, _, c1, f1⟩ := own_at h1 (m := j * 3 + 1) (by simp [hl])
      injection e' with e'; injection e' with e' _; subst e'
      have h2 := own_set h1 (m := j * 3 + 1) (by simp [hl]) (.int .i64 (k + 3 * j + 1))
      rw [List.append_cons] at h2
      obtain ⟨g', e', _, _, c2, f2⟩ := own_at h2 (m := j * 3 + 2) (by simp [hl])
      injection e' with e'; injection e' with e' _; subst e'
      have h3 := own_set h2 (m := j * 3 + 2) (by simp [hl]) (.int .i64 (k + 3 * j + 1 + 1))
      have HR := Lib.hid h3
      have HG := Lib.hid (grown_setCell (grown_setCell (grown_setCell hg (p := ⟨g, j * 3, none⟩) (.inl rfl) (.int .i64 (k + 3 * j))) (p := ⟨g, j * 3 + 1, none⟩) (.inl rfl) (.int .i64 (k + 3 * j + 1))) (p := ⟨g, j * 3 + 2, none⟩) (.inl rfl) (.int .i64 (k + 3 * j + 1 + 1)))
      clear hx hrow hg ho hlen hl h1 h2 h3
      go_wp2
      go_roundw
      case rel => exact ⟨j + 1, by omega, by go_num, by go_num, by rw [markLbs_snoc, lbs_append]; simpa [lbs, Lb.cs] using HR.out, HG.out⟩
      case measure => simp [intOf]; omega
    · go_wp2
      go_ret
      obtain rfl : j = n := by omega
      exact ⟨rfl, by rw [List.drop_eq_nil_of_le (by omega)] at hrow; simpa [lbs] using hrow, hg⟩

theorem markBody_any (base : Nat) (j : Int) (A : Option Addr) (n c : Nat) (ls : List Lb) (k : Int) (w : World) (ho : w.ownsRow base 52 3 (.slice A n c) n (lbs ls)) (hn : n ≤ 1048576) (hk0 : 0 ≤ k) (hk : k ≤ 1099511627776) :
    Calls Try.prog 18 #[.agg #[.int .i64 j, .slice A n c], .int .i64 k] w fun e w' => e = .returned (.int .i64 (k + 3 * n)) ∧ w'.ownsRow base 52 3 (.slice A n c) n (lbs (markLbs k n)) ∧ w.grownBy w' (Value.slice A n c).ownBlock := by
  go_enter Try.func18, Try.ntmps18
  go_wp2_with (go_at_call 49; refine (markLimbS_any base _ _ _ ls _ _ (ho.alloc _) hn hk0 hk).mono ?_; rintro e w' ⟨rfl, hown, hg⟩)
  go_ret
  exact ⟨rfl, hown, grown_trans (World.grownBy_alloc w _ _) hg⟩

theorem heldLimbS_any (A : Option Addr) (n c : Nat) (k : Int) (w : World) (hr : Reads w 3 A n (lbs (markLbs k n))) (hn : n ≤ 1048576) (hk0 : 0 ≤ k) (hk : k ≤ 1099511627776) :
    Calls Try.prog 50 #[.slice A n c, .int .i64 k] w fun e w' => e = .returned (.int .i64 (k + 3 * n)) ∧ w = w' := by
  go_enter Try.func50, Try.ntmps50
  go_wp2
  go_loop [1, 5] (fun q i => ∃ j : Nat, j ≤ n ∧ i = .int .i64 j ∧ q = .int .i64 (k + 3 * j)) (fun _ i => n - (intOf i).toNat)
  case atStart => exact ⟨0, Nat.zero_le _, rfl, by simp⟩
  case round =>
    obtain ⟨j, hj, rfl, rfl⟩ := hrel
    by_cases hlt : j < n
    · obtain ⟨b, o, x, rfl, hbB, hx, c0, c1, c2⟩ := hr.lb hlt
      rw [markLbs_get k n j hlt] at hx
      obtain rfl := Option.some.inj hx
      clear hx
      go_wp2
      go_round
      case rel => exact ⟨j + 1, by omega, by go_num, by go_num⟩
      case measure => simp [intOf]; omega
    · go_wp2
      go_ret
      obtain rfl : j = n := by omega
      exact ⟨rfl, rfl⟩

theorem heldBody_any (j : Int) (A : Option Addr) (n c : Nat) (k : Int) (w : World) (hr : Reads w 3 A n (lbs (markLbs k n))) (hn : n ≤ 1048576) (hk0 : 0 ≤ k) (hk : k ≤ 1099511627776) :
    Calls Try.prog 19 #[.agg #[.int .i64 j, .slice A n c], .int .i64 k] w fun e w' => e = .returned (.int .i64 (k + 3 * n)) ∧ Below w.heap.size w w' := by
  go_enter Try.func19, Try.ntmps19
  go_wp2_with (go_at_call 50; refine (heldLimbS_any _ _ _ _ _ (hr.below (by go_grown)) hn hk0 hk).mono ?_; rintro e w' ⟨rfl, rfl⟩)
  go_ret
  exact ⟨rfl, by go_grown⟩

theorem reads_lbs {w : World} {b o n : Nat} {ls : List Lb} (hl : ls.length = n) (hb : 0 < n → b < w.heap.size)
    (h : ∀ i x, ls[i]? = some x → w.cell? ⟨b, o + (i * 3 + 0), none⟩ = some (.int .i64 x.a) ∧ w.cell? ⟨b, o + (i * 3 + 1), none⟩ = some (.int .i64 x.b) ∧ w.cell? ⟨b, o + (i * 3 + 2), none⟩ = some (.int .i64 x.l)) :
    Reads w 3 (some ⟨b, o, none⟩) n (lbs ls) := by
  refine ⟨by rw [lbs_length, hl], fun hn => ⟨b, o, rfl, hb hn, fun j u hu => ?_⟩⟩
  have hj : j < ls.length * 3 := by have := (List.getElem?_eq_some_iff.1 hu).1; rwa [lbs_length] at this
  have hk : j / 3 < ls.length := by omega
  have hr : j % 3 < 3 := Nat.mod_lt _ (by omega)
  have e : j = j / 3 * 3 + j % 3 := by omega
  rw [e, lbs_get ls _ hk _ hr] at hu
  obtain ⟨h0, h1, h2⟩ := h (j / 3) _ (List.getElem?_eq_getElem hk)
  rw [e]
  have : j % 3 = 0 ∨ j % 3 = 1 ∨ j % 3 = 2 := by omega
  rcases this with e' | e' | e' <;> rw [e'] at hu ⊢ <;> simp only [Lb.cs, List.getElem?_cons_zero, List.getElem?_cons_succ, Option.some.injEq] at hu <;> subst hu <;> assumption

section
variable {H : Type} {enc : TypeId × Value → H} {w : World} {base : Nat}
theorem open_limbS {t e te : TypeId} {fs : Array Field} {fuel : Nat} {cs : List Value} {x : DataW H × List MemPlace} (ht : Try.prog.underlying t = some (.slice e)) (he : Try.prog.underlying e = some (.struct fs))
    (hone : oneCellFields Try.prog fs = true) (hC : Try.prog.cellsOf e = 3) (hfs : fs.toList.map (·.type) = [te, te, te]) (hte : Try.prog.underlying te = some (.int .i64)) (h : DataW.trod enc Try.prog w base (fun _ => true) true fuel t cs = some x) :
    ∃ (A : Option Addr) (n c : Nat) (ls : List Lb), cs = [.slice A n c] ∧ Reads w 3 A n (lbs ls) ∧ n ≤ 9223372036854775807 := by
  have hsz : fs.size = 3 := by have := congrArg List.length hfs; simpa using this
  rcases open_slice_fields ht he hone (by rw [hC, hsz]) h with ⟨hcs, _⟩ | ⟨a, len, cap, m, Dt, Pl, hcs, _, hl, hm, hmm, _, hi⟩
  · exact ⟨none, 0, 0, [], hcs, Reads.none_, by omega⟩
  · simp only [if_true] at hmm
    subst hmm
    have field : ∀ i, i < len → ∀ j, j < 3 → ∃ z : Int, w.cell? (a.add (i * 3 + j)) = some (.int .i64 z) := by
      intro i hil j hj
      obtain ⟨ys, n, _, _, _, hf⟩ := hi i (by omega)
      have hg : fs[j]? = some (fs[j]'(by omega)) := Array.getElem?_eq_getElem (by omega)
      obtain ⟨v, y, hcell, _, htr⟩ := hf j _ hg
      have hty : (fs[j]'(by omega)).type = te := by
        have h1 : (fs.toList.map (·.type))[j]? = some ((fs[j]'(by omega)).type) := by rw [List.getElem?_map, Array.getElem?_toList, hg]; rfl
        rw [hfs] at h1
        match j, hj, h1 with
        | 0, _, h1 => simpa using h1.symm
        | 1, _, h1 => simpa using h1.symm
        | 2, _, h1 => simpa using h1.symm
      rw [hty] at htr
      obtain ⟨z, hz, _, _⟩ := DataW.trod_int hte htr
      rw [hsz] at hcell
      injection hz with hz _
      subst hz
      exact ⟨z, hcell⟩
    have pick : ∀ i, i < len → ∃ x : Lb, w.cell? (a.add (i * 3 + 0)) = some (.int .i64 x.a) ∧ w.cell? (a.add (i * 3 + 1)) = some (.int .i64 x.b) ∧ w.cell? (a.add (i * 3 + 2)) = some (.int .i64 x.l) := by
      intro i hil
      obtain ⟨z0, h0⟩ := field i hil 0 (by omega)
      obtain ⟨z1, h1⟩ := field i hil 1 (by omega)
      obtain ⟨z2, h2⟩ := field i hil 2 (by omega)
      exact ⟨⟨z0, z1, z2⟩, h0, h1, h2⟩
    obtain ⟨ls, hlen, hq⟩ := choice_list pick
    refine ⟨some a, len, _, ls, hcs, ?_, by unfold maxLen at hm; omega⟩
    rcases Nat.eq_zero_or_pos len with h0 | h0
    · subst h0
      have : ls = [] := List.eq_nil_of_length_eq_zero hlen
      subst this
      exact ⟨by simp [lbs], fun h => absurd h (by omega)⟩
    · obtain ⟨z, hz⟩ := field 0 h0 0 (by omega)
      obtain ⟨b, o, rfl, _⟩ := addr_plain hz ⟨_, hz⟩
      refine reads_lbs hlen (fun _ => ?_) (fun i x hx => ?_)
      · rw [Go.WideShapes.add_plain] at hz
        exact World.block_lt_of_cell? _ _ hz
      · have := hq i x hx
        simpa only [Go.WideShapes.add_plain] using this

theorem cells_lawLimb : Try.prog.cellsOf 67 = 3 := by kernel_rfl
theorem cells_lawBody : Try.prog.cellsOf 31 = 2 := by kernel_rfl
theorem open_body {r : Reach} {b0 : Nat} {v : Value} {d : DataW H} {p : List MemPlace} (hv : Value.okWide Try.prog w r b0 31 v) (h : DataW.Trod enc Try.prog w base (fun _ => true) true 31 v d p) :
    ∃ (j : Int) (A : Option Addr) (n c : Nat) (ls : List Lb), v = .agg #[.int .i64 j, .slice A n c] ∧ (Lit.int .i64 j).wf = true ∧ Reads w 3 A n (lbs ls) ∧ n ≤ 9223372036854775807 := by
  obtain ⟨c0, c1, y0, y1, m, rfl, _, _, hy0, hy1⟩ := open_agg2 Try.underlying31 (by kernel_rfl) cells_lawBody hv h
  obtain ⟨j, e0, _, wj⟩ := DataW.trod_int Try.underlying3 hy0
  injection e0 with e0 _
  subst e0
  obtain ⟨A, n, c, ls, e1, hr, hm⟩ := open_limbS (te := 3) Try.underlying29 Try.underlying67 (by kernel_rfl) cells_lawLimb rfl Try.underlying3 hy1
  injection e1 with e1 _
  subst e1
  exact ⟨j, A, n, c, ls, rfl, wj, hr, hm⟩
end
end Go.Proofs.Ytnghfocboodkhaa
