/- Contracts of the helpers that copy, compare and mark cords and controls; no condition beyond lengths. -/
import Derived.Test.YtbgdnlcjliaigaaLimb
import Derived.Test.YtbgdnlcjliaigaaInts
namespace Go.Proofs.Ytbgdnlcjliaigaa
open Go.ChangeShapes Go.WideShapes Go.ChangeAt Go.RowKit Go.Deep Go.Joins
set_option maxRecDepth 100000

theorem toCord_any (a b c : Int) (w : World) :
    Calls Try.prog 78 #[.agg #[.int .i64 a, .int .i64 b, .int .i64 c]] w fun e w' => e = .returned (.agg #[.int .i64 a, .int .i64 b, .int .i64 c]) ∧ Below w.heap.size w w' := by
  go_enter Try.func78, Try.ntmps78
  go_wp2
  go_returns
  exact ⟨rfl, by go_grown⟩

theorem info_cord : (Try.prog.info? 80).map (fun i => (i.zero, i.size, i.bytes)) = some (some (.agg #[.int .i64 0, .int .i64 0, .int .i64 0]), 3, 24) := by kernel_rfl

theorem toCordS_any (A : Option Addr) (n c : Nat) (ls : List Lb) (w : World) (hr : Reads w 3 A n (lbs ls)) (hn : n ≤ 1048576) :
    Calls Try.prog 64 #[.slice A n c] w fun e w' => ∃ g, e = .returned (.slice (some ⟨g, 0, none⟩) n n) ∧ w'.ownsRow w.heap.size 80 3 (.slice (some ⟨g, 0, none⟩) n n) n (lbs ls) ∧ Below w.heap.size w w' := by
  obtain ⟨i0, hi, hz0, hz1, hz2⟩ := info_parts info_cord
  have hmk := fun W => run_make_rowN (P := Try.prog) 52 80 i0 _ Try.underlying52 hi hz0 .i64 .i64 n n (Nat.le_refl _) (by rw [hz2]; omega) (by omega) W
  rw [hz1] at hmk
  clear hi hz0 hz1 hz2
  go_enter Try.func64, Try.ntmps64
  go_wp2
  clear hmk
  go_loopw [4] (fun i wr => ∃ (k : Nat) (rest : List Value), k ≤ n ∧ i = .int .i64 k ∧ rest.length = (n - k) * 3 ∧ Row wr w.heap.size 80 (lbs (ls.take k) ++ rest) ∧ Below w.heap.size w wr) (fun i _ => n - (intOf i).toNat)
  case atStart => exact ⟨0, _, by omega, rfl, by rw [made_length]; rfl, Row.made _ _ _ _, by go_grown⟩
  case round =>
    obtain ⟨k, rest, hk, rfl, hrest, hrow, hbel⟩ := hrel
    by_cases hlt : k < n
    · obtain ⟨b, o, x, rfl, hbB, hx, c0, c1, c2⟩ := (hr.below hbel).lb hlt
      obtain ⟨r0, r1, r2, rest, rfl⟩ : ∃ r0 r1 r2 r, rest = r0 :: r1 :: r2 :: r := by
        match rest, hrest with
        | r0 :: r1 :: r2 :: r, _ => exact ⟨r0, r1, r2, r, rfl⟩
        | [], h => simp at h; omega
        | [_], h => simp at h; omega
        | [_, _], h => simp at h; omega
      have HX := Lib.hid hx; clear hx
      have HR := Lib.hid hrow; clear hrow
      have HL := Lib.hid hrest; clear hrest
      go_wp2_with (go_at_call 78; refine (toCord_any _ _ _ _).mono ?_; rintro e w' ⟨rfl, hb1⟩; obtain ⟨d0, d1, d2, f0, f1, f2⟩ := row3 (HR.out.below hb1) (m := k * 3) (by rw [lbs_length]; have := take_len HX.out; omega))
      go_roundw
      case rel => exact ⟨k + 1, rest, by omega, by go_num, by have := HL.out; simp at this; omega, row3_set (HR.out.below hb1) (by rw [lbs_length, take_len HX.out]) (lbs_snoc HX.out), (((hbel.trans (hb1.mono hbel.size)).setCell (Nat.le_refl _) _).setCell (Nat.le_refl _) _).setCell (Nat.le_refl _) _⟩
      case measure => simp [intOf]; omega
    · go_wp2
      go_ret
      obtain rfl : k = n := by omega
      have hl : ls.length = k := by have := hr.1; rw [lbs_length] at this; omega
      have hr0 : rest = [] := List.eq_nil_of_length_eq_zero (by omega)
      subst hr0
      rw [List.take_of_length_le (by omega), List.append_nil] at hrow
      exact ⟨_, rfl, hrow.own (Nat.le_refl _) (Nat.le_refl _) (by unfold maxLen; omega) hr.1 (List.take_of_length_le (by rw [hr.1]; exact Nat.le_refl _)), hbel⟩

theorem szCordS_t (A : Option Addr) (n c : Nat) (left : Int) (w : World) (h0 : left ≤ 1048576) (h : (n : Int) ≤ left) :
    Calls Try.prog 63 #[.slice A n c, .int .i64 left] w fun e w' => e = .returned (.int .i64 (left - n)) ∧ w = w' := by
  go_enter Try.func63, Try.ntmps63
  go_wp2
  go_ret
  exact ⟨rfl, rfl⟩

theorem szCordS_f (A : Option Addr) (n c : Nat) (left : Int) (w : World) (h0 : left ≤ 1048576) (h1 : 0 ≤ left) (hm : n ≤ 9223372036854775807) (h : left < n) :
    Calls Try.prog 63 #[.slice A n c, .int .i64 left] w fun e w' => e = .returned (.int .i64 (-1)) ∧ w = w' := by
  go_enter Try.func63, Try.ntmps63
  go_wp2
  go_ret
  exact ⟨rfl, rfl⟩

theorem eqCord_t (a b c : Int) (w : World) :
    Calls Try.prog 79 #[.agg #[.int .i64 a, .int .i64 b, .int .i64 c], .agg #[.int .i64 a, .int .i64 b, .int .i64 c]] w fun e w' => e = .returned (.bool true) ∧ Below w.heap.size w w' := by
  go_enter Try.func79, Try.ntmps79
  go_wp2
  go_ret
  exact ⟨rfl, by go_grown⟩

theorem eqCordS_t (A B : Option Addr) (n c d : Nat) (ls : List Lb) (w : World) (ha : Reads w 3 A n (lbs ls)) (hb : Reads w 3 B n (lbs ls)) (hn : n ≤ 9223372036854775807) :
    Calls Try.prog 66 #[.slice A n c, .slice B n d] w fun e w' => e = .returned (.bool true) ∧ Below w.heap.size w w' := by
  go_enter Try.func66, Try.ntmps66
  go_wp2
  go_loopw [5] (fun i wr => ∃ k : Nat, k ≤ n ∧ i = .int .i64 k ∧ Below w.heap.size w wr) (fun i _ => n - (intOf i).toNat)
  case atStart => exact ⟨0, Nat.zero_le _, rfl, Below.refl _ _⟩
  case round =>
    obtain ⟨k, hk, rfl, hbel⟩ := hrel
    by_cases hlt : k < n
    · obtain ⟨b, o, x, rfl, hbB, hx, c0, c1, c2⟩ := (ha.below hbel).lb hlt
      obtain ⟨b', o', x', rfl, hbB', hx', d0, d1, d2⟩ := (hb.below hbel).lb hlt
      obtain rfl : x = x' := by rw [hx] at hx'; exact Option.some.inj hx'
      clear hx hx'
      have l1 : (k : Int) < (n : Int) := by omega
      go_wp2
      go_still_tail 8, (by kernel_rfl)
      go_wp2_with (go_at_call 79; refine (eqCord_t _ _ _ _).mono ?_; rintro e w' ⟨rfl, hb1⟩)
      go_roundw
      case rel => exact ⟨k + 1, by omega, by go_num, (below_drewN hbel _).trans (hb1.mono hbel.size)⟩
      case measure => simp [intOf]; omega
    · go_wp2
      go_ret
      exact ⟨rfl, hbel⟩

theorem markCordS_any (base : Nat) (A : Option Addr) (n c : Nat) (ls : List Lb) (k : Int) (w : World) (ho : w.ownsRow base 80 3 (.slice A n c) n (lbs ls)) (hn : n ≤ 1048576) (hk0 : 0 ≤ k) (hk : k ≤ 1099511627776) :
    Calls Try.prog 67 #[.slice A n c, .int .i64 k] w fun e w' => e = .returned (.int .i64 (k + 3 * n)) ∧ w'.ownsRow base 80 3 (.slice A n c) n (lbs (markLbs k n)) ∧ w.grownBy w' (Value.slice A n c).ownBlock := by
  have hlen : ls.length = n := by have := ho.1; rw [lbs_length] at this; omega
  go_enter Try.func67, Try.ntmps67
  go_wp2
  go_loopw [1, 5] (fun q i wr => ∃ j : Nat, j ≤ n ∧ i = .int .i64 j ∧ q = .int .i64 (k + 3 * j) ∧ wr.ownsRow base 80 3 (.slice A n c) n (lbs (markLbs k j) ++ lbs (ls.drop j)) ∧ w.grownBy wr (Value.slice A n c).ownBlock) (fun _ i _ => n - (intOf i).toNat)
  case atStart => exact ⟨0, Nat.zero_le _, rfl, by simp, by simpa [markLbs, lbs] using ho, World.grownBy.refl w _⟩
  case round =>
    obtain ⟨j, hj, rfl, rfl, hrow, hg⟩ := hrel
    by_cases hlt : j < n
    · have hx : ls[j]? = some (ls[j]'(by omega)) := List.getElem?_eq_getElem (by omega)
      generalize ls[j]'(by omega) = x at hx
      rw [drop_cons hx, lbs_cons] at hrow
      have hl : (lbs (markLbs k j)).length = j * 3 := by rw [lbs_length, markLbs_length]
      obtain ⟨g, rfl, hbg, hgl, c0, f0⟩ := own_at hrow (m := j * 3) hl.symm
      have h1 := own_set hrow (m := j * 3) hl.symm (.int .i64 (k + 3 * j))
      rw [List.append_cons] at h1
      obtain ⟨g', e', _, _, c1, f1⟩ := own_at h1 (m := j * 3 + 1) (by simp [hl])
      injection e' with e'; injection e' with e' _; subst e'
      have h2 := own_set h1 (m := j * 3 + 1) (by simp [hl]) (.int .i64 (k + 3 * j + 1))
      rw [List.append_cons] at h2
      obtain ⟨g', e', _, _, c2, f2⟩ := own_at h2 (m := j * 3 + 2) (by simp [hl])
      injection e' with e'; injection e' with e' _; subst e'
      have h3 := own_set h2 (m := j * 3 + 2) (by simp [hl]) (.int .i64 (k + 3 * j + 1 + 1))
      have HR := Lib.hid h3
      have HG := Lib.hid (grown_setCell (grown_setCell (grown_setCell hg (p := ⟨g, j * 3, none⟩) (.inl rfl) (.int .i64 (k + 3 * j))) (p := ⟨g, j * 3 + 1, none⟩) (.inl rfl) (.int .i64 (k + 3 * j + 1))) (p := ⟨g, j * 3 + 2, none⟩) (.inl rfl) (.int .i64 (k + 3 * j + 1 + 1)))
      clear hx hrow hg ho hlen hl h1 h2 h3
      go_wp2
      go_roundw
      case rel => exact ⟨j + 1, by omega, by go_num, by go_num, by rw [markLbs_snoc, lbs_append]; simpa [lbs, Lb.cs] using HR.out, HG.out⟩
      case measure => simp [intOf]; omega
    · go_wp2
      go_ret
      obtain rfl : j = n := by omega
      exact ⟨rfl, by rw [List.drop_eq_nil_of_le (by omega)] at hrow; simpa [lbs] using hrow, hg⟩

theorem toControl_any {h : Int} {A B : Option Addr} {n c m d : Nat} {xs : List Int} {cs : List Lb} {w : World} (hr : Reads w 1 A n (ints xs)) (hn : n ≤ 1048576) (hs : Reads w 3 B m (lbs cs)) (hm : m ≤ 1048576) :
    Calls Try.prog 38 #[.agg #[.int .i64 h, .slice A n c, .slice B m d]] w fun e w' =>
      ∃ g1 g2 z, e = .returned (.agg #[.int .i64 h, .slice (some ⟨g1, 0, none⟩) n n, .slice (some ⟨g2, 0, none⟩) m m]) ∧ w'.ownsRow w.heap.size 3 1 (.slice (some ⟨g1, 0, none⟩) n n) n (ints xs) ∧ Blk (some ⟨g1, 0, none⟩) w.heap.size z ∧ z ≤ w'.heap.size ∧ w'.ownsRow z 80 3 (.slice (some ⟨g2, 0, none⟩) m m) m (lbs cs) ∧ Below w.heap.size w w' := by
  go_enter Try.func38, Try.ntmps38
  go_wp2_with (first | (go_at_call 16; refine (toIntS_any _ _ _ _ _ (hr.below (by go_grown)) hn).mono ?_; rintro e w1 ⟨g1, rfl, hown1, hb1⟩; obtain ⟨hc1, hf1⟩ := bcell hb1; have hB1 : Below w.heap.size w w1 := (by go_grown : Below w.heap.size w _).trans (hb1.mono (by simp; omega)); have hz1 : w.heap.size + 1 + 1 < w1.heap.size := (by have := hb1.size; simp at this; omega); have hz1a : w.heap.size + 1 < w1.heap.size := (by omega); have hz1b : w.heap.size < w1.heap.size := (by omega)) | (go_at_call 64; refine (toCordS_any _ _ _ _ _ (hs.below (hB1.setCell (by simp; omega) _)) hm).mono ?_; rintro e w2 ⟨g2, rfl, hown2, hb2⟩; obtain ⟨hc2, hf2⟩ := bcell hb2; have hz2 : w1.heap.size ≤ w2.heap.size := (by have := hb2.size; simpa [World.setCell] using this)))
  have hsz : (w1.setCell ⟨w.heap.size + 1 + 1, 1, none⟩ (.slice (some ⟨g1, 0, none⟩) n n)).heap.size = w1.heap.size := by simp [World.setCell]
  have b1 := own_blk hown1
  simp at b1
  have hk1 := own_below (ownsRow_setCell_below hown1 (a := ⟨w.heap.size + 1 + 1, 1, none⟩) (by simp) (.slice (some ⟨g1, 0, none⟩) n n)) hb2
  have hB2 : Below w.heap.size w w2 := (hB1.setCell (p := ⟨w.heap.size + 1 + 1, 1, none⟩) (by simp; omega) (.slice (some ⟨g1, 0, none⟩) n n)).trans (hb2.mono (by rw [hsz]; omega))
  refine bodyPost_ret (v := .agg #[.int .i64 h, .slice (some ⟨g1, 0, none⟩) n n, .slice (some ⟨g2, 0, none⟩) m m]) (by simp [results, Try.results38, go_sem, hc1, hc2, hz1, hz1a, hz1b]) rfl ⟨g1, g2, w1.heap.size, rfl, ?_, ?_, ?_, ?_, ?_⟩
  · exact ownsRow_le (ownsRow_setCell_below (ownsRow_setCell_below (ownsRow_setCell_below (ownsRow_setCell_below hk1 (by first | (simp; done) | (simp; omega)) _) (by first | (simp; done) | (simp; omega)) _) (by first | (simp; done) | (simp; omega)) _) (by first | (simp; done) | (simp; omega)) _) (by first | (simp; done) | (simp; omega))
  · exact fun a ha => by have := b1 a ha; omega
  · simp [World.setCell]; omega
  · exact ownsRow_le (ownsRow_setCell_below (ownsRow_setCell_below (ownsRow_setCell_below (ownsRow_setCell_below hown2 (by rw [hsz]; omega) _) (by rw [hsz]; omega) _) (by rw [hsz]; omega) _) (by rw [hsz]; omega) _) (by rw [hsz]; exact Nat.le_refl _)
  · exact ((((hB2.setCell (by first | (simp; done) | (simp; omega)) _).setCell (by first | (simp; done) | (simp; omega)) _).setCell (by first | (simp; done) | (simp; omega)) _).setCell (by first | (simp; done) | (simp; omega)) _)

theorem szControl_t (h : Int) (A B : Option Addr) (n c m d : Nat) (left : Int) (w : World) (h0 : left ≤ 1048576) (hl : (n : Int) + (m : Int) ≤ left) :
    Calls Try.prog 36 #[.agg #[.int .i64 h, .slice A n c, .slice B m d], .int .i64 left] w fun e w' => e = .returned (.int .i64 (left - n - m)) ∧ Below w.heap.size w w' := by
  go_enter Try.func36, Try.ntmps36
  go_wp2_with (first | (go_at_call 62; refine (szIntS_t _ _ _ _ _ h0 (by omega)).mono ?_; rintro e w' ⟨rfl, rfl⟩) | (go_at_call 63; refine (szCordS_t _ _ _ _ _ (by omega) (by omega)).mono ?_; rintro e w' ⟨rfl, rfl⟩))
  go_ret
  exact ⟨rfl, by go_grown⟩

theorem szControl_f (h : Int) (A B : Option Addr) (n c m d : Nat) (left : Int) (w : World) (h0 : left ≤ 1048576) (h1 : 0 ≤ left) (hn : n ≤ 9223372036854775807) (hm : m ≤ 9223372036854775807) (hl : left < (n : Int) + (m : Int)) :
    Calls Try.prog 36 #[.agg #[.int .i64 h, .slice A n c, .slice B m d], .int .i64 left] w fun e w' => e = .returned (.int .i64 (-1)) ∧ Below w.heap.size w w' := by
  by_cases hc : left < (n : Int)
  · go_enter Try.func36, Try.ntmps36
    go_wp2_with (go_at_call 62; refine (szIntS_f _ _ _ _ _ h0 h1 hn hc).mono ?_; rintro e w' ⟨rfl, rfl⟩)
    go_ret
    exact ⟨rfl, by go_grown⟩
  · have hc1 : (n : Int) ≤ left := by omega
    clear hc
    go_enter Try.func36, Try.ntmps36
    go_wp2_with (first | (go_at_call 62; refine (szIntS_t _ _ _ _ _ h0 (by omega)).mono ?_; rintro e w' ⟨rfl, rfl⟩) | (go_at_call 63; refine (szCordS_f _ _ _ _ _ (by omega) (by omega) hm (by omega)).mono ?_; rintro e w' ⟨rfl, rfl⟩))
    go_ret
    exact ⟨rfl, by go_grown⟩

theorem eqControl_t {h : Int} {A B A' B' : Option Addr} {n c m d c' d' : Nat} {xs : List Int} {cs : List Lb} {w : World} (ha : Reads w 1 A n (ints xs)) (ha' : Reads w 1 A' n (ints xs)) (hn : n ≤ 1048576) (hb : Reads w 3 B m (lbs cs)) (hb' : Reads w 3 B' m (lbs cs)) (hm : m ≤ 1048576) :
    Calls Try.prog 40 #[.agg #[.int .i64 h, .slice A n c, .slice B m d], .agg #[.int .i64 h, .slice A' n c', .slice B' m d']] w fun e w' => e = .returned (.bool true) ∧ Below w.heap.size w w' := by
  have hx := (Row.new w 54 [.int .i64 h, .slice A n c, .slice B m d]).alloc (.cells #[.int .i64 h, .slice A' n c', .slice B' m d'] 54)
  have hy := Row.new (w.alloc (.cells #[.int .i64 h, .slice A n c, .slice B m d] 54)) 54 [.int .i64 h, .slice A' n c', .slice B' m d']
  have hg0 : Below w.heap.size w ((w.alloc (.cells #[.int .i64 h, .slice A n c, .slice B m d] 54)).alloc (.cells #[.int .i64 h, .slice A' n c', .slice B' m d'] 54)) := by go_grown
  go_enter Try.func40, Try.ntmps40
  go_wp2_with fail
  refine (eqIntS_b (ha.below (by go_grown)) (ha'.below (by go_grown)) hn).mono ?_
  rintro e w1 ⟨rfl, hb1⟩
  have hx1 := hx.below hb1
  have hy1 := hy.below hb1
  have q2 := hx1.cell_ (i := 2) rfl
  have r2 := hy1.cell_ (i := 2) rfl
  simp at r2
  have hB := hg0.trans (hb1.mono (by simp; omega))
  clear hx hy hx1 hy1 hg0 hb1
  go_wp2_with fail
  refine (eqCordS_t _ _ _ _ _ _ _ (hb.below hB) (hb'.below hB) (by omega)).mono ?_
  rintro e w2 ⟨rfl, hb2⟩
  go_wp2
  go_ret
  exact ⟨rfl, hB.trans (hb2.mono hB.size)⟩

theorem markControl_any {base base2 : Nat} {h : Int} {A B : Option Addr} {n c m d z1 : Nat} {xs : List Int} {cs : List Lb} {k : Int} {w : World} (ho : w.ownsRow base 3 1 (.slice A n c) n (ints xs)) (hA : Blk A base z1) (hn : n ≤ 1048576) (hp : w.ownsRow base2 80 3 (.slice B m d) m (lbs cs)) (hz : z1 ≤ base2) (hm : m ≤ 1048576) (hk0 : 0 ≤ k) (hk : k ≤ 1048576) :
    Calls Try.prog 43 #[.agg #[.int .i64 h, .slice A n c, .slice B m d], .int .i64 k] w fun e w' => ∃ wm, e = .returned (.int .i64 (k + n + 3 * m)) ∧ w.grownBy wm (Value.slice A n c).ownBlock ∧ wm.grownBy w' (Value.slice B m d).ownBlock := by
  have hx := Row.new w 54 [.int .i64 h, .slice A n c, .slice B m d]
  have hB' := own_blk hp
  have hA' : Blk A base (w.heap.size) := fun a ha => ⟨(hA a ha).1, (own_blk ho a ha).2⟩
  go_enter Try.func43, Try.ntmps43
  go_wp2_with fail
  refine (markIntS_any base _ _ _ xs _ _ (ho.alloc _) hn hk0 (by omega)).mono ?_
  rintro e w1 ⟨rfl, hown, hg⟩
  have hg1 : w.grownBy w1 (Value.slice A n c).ownBlock := grown_trans (World.grownBy_alloc w _ _) hg
  have hx1 := row_apart hx hg hA' (by omega)
  have hp1 := own_apart (hp.alloc _) hg hA hB' (by omega)
  have q2 := hx1.cell_ (i := 2) rfl
  clear hx hown hg ho hp
  go_wp2_with fail
  refine (markCordS_any base2 _ _ _ cs _ _ hp1 hm (by omega) (by omega)).mono ?_
  rintro e w2 ⟨rfl, hown2, hg2⟩
  go_wp2
  go_ret
  exact ⟨w1, rfl, hg1, hg2⟩

theorem cells_lawCord : Try.prog.cellsOf 99 = 3 := by kernel_rfl
theorem cells_lawControl : Try.prog.cellsOf 49 = 3 := by kernel_rfl
theorem cells_int_ : Try.prog.cellsOf 3 = 1 := by kernel_rfl
theorem open_intF {H : Type} {enc : TypeId × Value → H} {w : World} {base : Nat} {fuel : Nat} {v : Value} {x : DataW H × List MemPlace} (h : DataW.trod enc Try.prog w base (fun _ => true) true fuel 25 [v] = some x) :
    ∃ (A : Option Addr) (n c : Nat) (xs : List Int), v = .slice A n c ∧ Reads w 1 A n (ints xs) ∧ n ≤ 9223372036854775807 := by
  rcases open_ints Try.underlying25 Try.underlying3 cells_int_ h with ⟨hcs, hx⟩ | ⟨a, len', cap', zs, hcs, _, hl, hm, hz, hx, hcell, hwz⟩
  · injection hcs with hcs _
    exact ⟨none, 0, 0, [], hcs, Reads.none_, by omega⟩
  · injection hcs with hcs _
    simp only [if_true] at hz
    refine ⟨some a, len', cap', zs.take len', hcs, ⟨by simp [ints, hz]; omega, fun hn => ?_⟩, by unfold maxLen at hm; omega⟩
    obtain ⟨b, o, rfl, hat⟩ := ints_at hcell (by omega)
    refine ⟨b, o, rfl, World.block_lt_of_cell? _ _ (hat 0 (by omega)), fun j u hu => ?_⟩
    rw [ints_get] at hu
    cases hq : (zs.take len')[j]? with
    | none => rw [hq] at hu; cases hu
    | some z =>
      rw [hq] at hu
      have hu' : Value.int .i64 z = u := by simpa using hu
      subst hu'
      have hj : j < len' := by have := (List.getElem?_eq_some_iff.1 hq).1; simp at this; omega
      have hz' : zs.getD j 0 = z := by rw [List.getElem?_take_of_lt hj] at hq; simp [List.getD, hq]
      rw [← hz']
      exact hat j (by omega)
theorem open_control {H : Type} {enc : TypeId × Value → H} {w : World} {base : Nat} {r : Reach} {b0 : Nat} {v : Value} {d : DataW H} {p : List MemPlace} (hv : Value.okWide Try.prog w r b0 49 v) (h : DataW.Trod enc Try.prog w base (fun _ => true) true 49 v d p) :
    ∃ (j : Int) (A : Option Addr) (n c : Nat) (ar : List Int) (B : Option Addr) (q e : Nat) (ls : List Lb), v = .agg #[.int .i64 j, .slice A n c, .slice B q e] ∧ (Lit.int .i64 j).wf = true ∧ Reads w 1 A n (ints ar) ∧ n ≤ 9223372036854775807 ∧ Reads w 3 B q (lbs ls) ∧ q ≤ 9223372036854775807 := by
  obtain ⟨c0, c1, c2, y0, y1, y2, m, rfl, _, _, hy0, hy1, hy2⟩ := open_agg3 Try.underlying49 (by kernel_rfl) cells_lawControl hv h
  obtain ⟨j, e0, _, wj⟩ := DataW.trod_int Try.underlying3 hy0
  injection e0 with e0 _
  subst e0
  obtain ⟨A, n, c, ar, rfl, hra, hma⟩ := open_intF hy1
  obtain ⟨B, q, e, ls, e1, hr, hm⟩ := open_limbS (te := 3) Try.underlying47 Try.underlying99 (by kernel_rfl) cells_lawCord rfl Try.underlying3 hy2
  injection e1 with e1 _
  subst e1
  exact ⟨j, A, n, c, ar, B, q, e, ls, rfl, wj, hra, hma, hr, hm⟩
end Go.Proofs.Ytbgdnlcjliaigaa
