/- Contracts of HangPose of both sides; no condition beyond the slices' lengths. -/
import Derived.Test.YtbgdnlcjliaigaaPulls
import Derived.Test.YtbgdnlcjliaigaaDistOf
namespace Go.Proofs.Ytbgdnlcjliaigaa
open Go.ChangeShapes Go.WideShapes Go.ChangeAt Go.RowKit Go.Deep Go.Joins
set_option maxRecDepth 100000

theorem own_far {w : World} {base n c g o : Nat} {e : TypeId} {size : Nat} {A : Option Addr} {xs : List Value} {lo hi : Nat} (h : w.ownsRow base e size (.slice A n c) n xs) (hA : Blk A lo hi) (hg : g < lo) (u : Value) :
    (w.setCell ⟨g, o, none⟩ u).ownsRow base e size (.slice A n c) n xs :=
  own_grown h (grown_setCell (World.grownBy.refl w (some g)) (.inl rfl) u) (fun g' hA' hc => by
    subst hA'
    have := (hA _ rfl).1
    have e : g = g' := by injection hc
    simp only at this
    omega)
def hangTo (N : Nat) (ls : List Lb) (ps : List Int) (j : Nat) : Nat → Int
  | 0 => -2000
  | i + 1 => match ps[i]? with
    | some p => if 0 ≤ p then max (hangTo N ls ps j i) (p - dist N ls i j) else hangTo N ls ps j i
    | none => hangTo N ls ps j i
theorem hangTo_yes {N : Nat} {ls : List Lb} {ps : List Int} {j i : Nat} {p : Int} (hp : ps[i]? = some p) (h0 : 0 ≤ p) : hangTo N ls ps j (i + 1) = max (hangTo N ls ps j i) (p - dist N ls i j) := by simp [hangTo, hp, h0]
theorem hangTo_no {N : Nat} {ls : List Lb} {ps : List Int} {j i : Nat} {p : Int} (hp : ps[i]? = some p) (h0 : p < 0) : hangTo N ls ps j (i + 1) = hangTo N ls ps j i := by
  have : ¬ 0 ≤ p := by omega
  simp [hangTo, hp, this]
theorem hangTo_bd {N : Nat} {ls : List Lb} {ps : List Int} {j : Nat} (t : Tree N ls) (hj : j < N) (hin : inAll ps (-1) 500 = true) : ∀ i, i ≤ N → -2000 ≤ hangTo N ls ps j i ∧ hangTo N ls ps j i ≤ 500 := by
  intro i
  induction i with
  | zero => intro _; simp [hangTo]
  | succ i ih =>
    intro hi
    have h1 := ih (by omega)
    cases hp : ps[i]? with
    | none => simpa [hangTo, hp] using h1
    | some p =>
      have h2 := inAll_at hin hp
      have h3 := t.all (s := i) (by omega) j hj
      by_cases h0 : 0 ≤ p
      · rw [hangTo_yes hp h0]; omega
      · rw [hangTo_no hp (by omega)]; exact h1
theorem hangTo_first {N : Nat} {ls : List Lb} {ps : List Int} {j : Nat} : ∀ i, someS (ps.take i) = false → hangTo N ls ps j i = -2000 := by
  intro i
  induction i with
  | zero => intro _; rfl
  | succ i ih =>
    intro h
    cases hp : ps[i]? with
    | none =>
      have e : ps.take (i + 1) = ps.take i := by
        have := List.getElem?_eq_none_iff.1 hp
        rw [List.take_of_length_le (by omega), List.take_of_length_le (by omega)]
      rw [e] at h
      simpa [hangTo, hp] using ih h
    | some p =>
      rw [take_snoc hp, someS_snoc, Bool.or_eq_false_iff] at h
      have h0 : p < 0 := by have := of_decide_eq_false h.2; omega
      rw [hangTo_no hp h0]
      exact ih h.1
def hangF (N : Nat) (ls : List Lb) (ps : List Int) (j : Nat) : Int := hangTo N ls ps j N
def hangPose (n : Int) (ls : List Lb) (ps : List Int) : List Int := if pullsOk n ls ps then tab (hangF n.toNat ls ps) n.toNat else []
theorem hangPose_yes {N : Nat} {ls : List Lb} {ps : List Int} (h : pullsOk (N : Int) ls ps = true) : hangPose N ls ps = tab (hangF N ls ps) N := by simp [hangPose, h]
theorem hangPose_no {n : Int} {ls : List Lb} {ps : List Int} (h : pullsOk n ls ps = false) : hangPose n ls ps = [] := by simp [hangPose, h]
/-- Where the search for the best stands. -/
structure HangSt (N : Nat) (ls : List Lb) (ps : List Int) (j i : Nat) (has : Bool) (best : Int) : Prop where
  has_ : has = someS (ps.take i)
  val : has = true → best = hangTo N ls ps j i
  lo : -1100 ≤ best
  hi : best ≤ 500
theorem HangSt.start (N : Nat) (ls : List Lb) (ps : List Int) (j : Nat) : HangSt N ls ps j 0 false 0 := ⟨rfl, nofun, by omega, by omega⟩
theorem HangSt.skip {N : Nat} {ls : List Lb} {ps : List Int} {j i : Nat} {has : Bool} {best p : Int} (s : HangSt N ls ps j i has best) (hp : ps[i]? = some p) (h0 : p < 0) : HangSt N ls ps j (i + 1) has best := by
  have : decide (0 ≤ p) = false := decide_eq_false (by omega)
  exact ⟨by rw [take_snoc hp, someS_snoc, this, Bool.or_false]; exact s.has_, fun h => by rw [hangTo_no hp h0]; exact s.val h, s.lo, s.hi⟩
theorem HangSt.first {N : Nat} {ls : List Lb} {ps : List Int} {j i : Nat} {best p d : Int} (s : HangSt N ls ps j i false best) (hp : ps[i]? = some p) (h0 : 0 ≤ p) (h5 : p ≤ 500) (hd : d = dist N ls i j) (d0 : 0 ≤ d) (d1 : d ≤ 1100) : HangSt N ls ps j (i + 1) true (p - d) := by
  have : decide (0 ≤ p) = true := decide_eq_true h0
  have hf := hangTo_first (N := N) (ls := ls) (j := j) i s.has_.symm
  exact ⟨by rw [take_snoc hp, someS_snoc, this, Bool.or_true], fun _ => by rw [hangTo_yes hp h0, hf, ← hd]; omega, by omega, by omega⟩
theorem HangSt.next {N : Nat} {ls : List Lb} {ps : List Int} {j i : Nat} {best p d : Int} (s : HangSt N ls ps j i true best) (hp : ps[i]? = some p) (h0 : 0 ≤ p) (h5 : p ≤ 500) (hd : d = dist N ls i j) (d0 : 0 ≤ d) (d1 : d ≤ 1100) : HangSt N ls ps j (i + 1) true (max best (p - d)) := by
  have hd0 : decide (0 ≤ p) = true := decide_eq_true h0
  have hv := s.val rfl
  have s1 := s.hi
  have s2 := s.lo
  exact ⟨by rw [take_snoc hp, someS_snoc, hd0, Bool.or_true], fun _ => by rw [hangTo_yes hp h0, ← hv, ← hd], by omega, by omega⟩
theorem own_put {w : World} {base n c g j : Nat} {e : TypeId} {f : Nat → Int} (h : w.ownsRow base e 1 (.slice (some ⟨g, 0, none⟩) n c) n (ints (tab f n))) (hj : j < n) (v : Int) {f' : Nat → Int} (hf : ∀ i, i < n → f' i = upd f j v i) :
    (w.setCell ⟨g, j, none⟩ (.int .i64 v)).ownsRow base e 1 (.slice (some ⟨g, 0, none⟩) n c) n (ints (tab f' n)) := by
  have hx : (tab f n)[j]? = some (f j) := tab_get f n j hj
  have s1 : tab f n = (tab f n).take j ++ f j :: (tab f n).drop (j + 1) := by rw [← drop_cons hx, List.take_append_drop]
  have t1 : ((tab f n).take j).length = j := take_len hx
  have e2 : tab f' n = (tab f n).take j ++ v :: (tab f n).drop (j + 1) := by
    rw [tab_congr hf, ← tab_set]
    conv => lhs; rw [s1]
    rw [set_append_cons _ _ _ _ t1.symm]
  rw [e2]
  rw [s1] at h
  have i1 : ∀ y : Int, ints ((tab f n).take j ++ y :: (tab f n).drop (j + 1)) = ints ((tab f n).take j) ++ .int .i64 y :: ints ((tab f n).drop (j + 1)) := by intro y; simp [ints]
  rw [i1] at h ⊢
  exact own_set h (by rw [ints_length, t1]) _

set_option maxHeartbeats 4000000 in
theorem impl_HangPose {n : Int} {A B : Option Addr} {m c q d : Nat} {ls : List Lb} {ps : List Int} {w : World} (hr : Reads w 3 A m (lbs ls)) (hm : m ≤ 1048576) (hp : Reads w 1 B q (ints ps)) (hq : q ≤ 1048576) :
    Calls Try.prog 25 #[.agg #[.int .i64 n, .slice A m c], .slice B q d] w fun e w' => ∃ A' n' c', e = .returned (.slice A' n' c') ∧ w'.ownsRow w.heap.size 3 1 (.slice A' n' c') n' (ints (hangPose n ls ps)) ∧ n' ≤ 1048576 ∧ Below w.heap.size w w' := by
  have hlp := hp.len
  have hx := Row.new w 30 [.int .i64 n, .slice A m c]
  cases hb : pullsOk n ls ps with
  | false =>
    have E := Lib.hid hb
    have S := Lib.hid (hangPose_no hb)
    clear hb
    go_enter Try.func25, Try.ntmps25
    go_wp2_with fail
    refine (impl_PullsOk (hr.below (by go_grown)) hm (hp.below (by go_grown)) hq).mono ?_
    rintro e w1 ⟨rfl, hb1⟩
    rw [E.out]
    go_wp2
    go_ret
    exact ⟨none, 0, 0, rfl, by rw [S.out]; exact World.ownsRow_nil _ _ _ _, by omega, (by go_grown : Below w.heap.size w _).trans (hb1.mono (by simp))⟩
  | true =>
    have hf := pullsFacts hb
    obtain ⟨b1, b2, b3, t⟩ := tree_of hf.body
    obtain ⟨N, rfl⟩ := Int.eq_ofNat_of_zero_le (show 0 ≤ n by omega)
    rw [Int.toNat_natCast] at t
    have T := Lib.hid t
    have I := Lib.hid hf.rng
    have SM := Lib.hid hf.some_
    obtain rfl : q = N := by have := hf.len; omega
    have E := Lib.hid hb
    have S := Lib.hid (hangPose_yes hb)
    obtain ⟨i0, hi, hz0, hz1, hz2⟩ := info_parts info_int
    clear hb hf t
    go_enter Try.func25, Try.ntmps25
    go_wp2_with fail
    refine (impl_PullsOk (hr.below (by go_grown)) hm (hp.below (by go_grown)) hq).mono ?_
    rintro e w1 ⟨rfl, hb1⟩
    rw [E.out]
    have hx1 := hx.below hb1
    have q0 := hx1.cell_ (i := 0) rfl
    have hB : Below w.heap.size w w1 := (by go_grown : Below w.heap.size w _).trans (hb1.mono (by simp))
    have ho := ownsRow_le (own_empty w1 3 1) hB.size
    have z0 := hx1.lt
    clear hb1 hx
    go_wp2
    clear q0
    go_loopw [5, 19] (fun v i wr => ∃ (j : Nat) (A' : Option Addr) (c' : Nat), j ≤ q ∧ i = .int .i64 j ∧ v = .slice A' j c' ∧ wr.ownsRow w1.heap.size 3 1 (.slice A' j c') j (ints (tab (hangF q ls ps) j)) ∧ Row wr w.heap.size 30 [.int .i64 (q : Int), .slice A m c] ∧ Below w1.heap.size w1 wr) (fun _ i _ => q - (intOf i).toNat)
    case atStart => exact ⟨0, _, 0, by omega, rfl, rfl, own_empty w1 3 1, hx1.alloc _, by go_grown⟩
    case round =>
      clear hx1 ho
      obtain ⟨j, A', c', hj, rfl, rfl, hown, hbx, hbel⟩ := hrel
      have hbw := hB.trans (hbel.mono hB.size)
      by_cases hlt : j < q
      · have q0 := hbx.cell_ (i := 0) rfl
        have q1 := hbx.cell_ (i := 1) rfl
        go_wp2_with fail
        refine (impl_distances (S := j) (hr.below hbw) T.out.ok (by omega) hm rfl hlt).mono ?_
        rintro e w2 ⟨g2, rfl, ho2, hb2⟩
        have hown2 := own_below hown hb2
        have hbx2 := hbx.below hb2
        have hbel2 := hbel.trans (hb2.mono hbel.size)
        have hbw2 := hbw.trans (hb2.mono hbw.size)
        clear hown hbx hb2 hbel hbw q0 q1
        go_wp2
        go_loop [8, 9, 27] (fun v h i => ∃ (k : Nat) (has : Bool) (best : Int), k ≤ q ∧ i = .int .i64 k ∧ h = .bool has ∧ v = .int .i64 best ∧ HangSt q ls ps j k has best) (fun _ _ i => q - (intOf i).toNat)
        case atStart => exact ⟨0, false, 0, by omega, rfl, rfl, rfl, HangSt.start _ _ _ _⟩
        case round =>
          obtain ⟨k, has, best, hk, rfl, rfl, rfl, hst⟩ := hrel
          have ST := Lib.hid hst
          have s1 := hst.lo
          have s2 := hst.hi
          clear hst
          by_cases hkq : k < q
          · obtain ⟨b, o, p, rfl, hbB, hpk, c0⟩ := (hp.below hbw2).int hkq
            have HP := Lib.hid hpk
            obtain ⟨p1, p2⟩ := inAll_at I.out hpk
            have cd := own_int ho2 (tab_get (dist q ls j) q k hkq)
            have HD := Lib.hid (T.out.symm hlt hkq)
            have d0 := T.out.all hlt k hkq
            have d1 := T.out.bound hlt k
            have lk : (k : Int) < (q : Int) := by omega
            clear hpk
            generalize dist q ls j k = dd at *
            by_cases hpm : p = -1
            · have e1 : (p == -1) = true := by simp [hpm]
              have e2 : (p != -1) = false := by simp [hpm]
              have SN := Lib.hid (ST.out.skip HP.out (by omega))
              clear hpm
              go_wp2
              go_round
              case rel => exact ⟨k + 1, has, best, by omega, by go_num, rfl, rfl, SN.out⟩
              case measure => simp [intOf]; omega
            · have e1 : (p == -1) = false := by simp [hpm]
              have e2 : (p != -1) = true := by simp [hpm]
              have p0 : 0 ≤ p := by omega
              clear hpm
              cases has with
              | false =>
                have SN := Lib.hid (ST.out.first HP.out p0 p2 HD.out d0 d1)
                go_wp2
                go_round
                case rel => exact ⟨k + 1, true, p - dd, by omega, by go_num, rfl, rfl, SN.out⟩
                case measure => simp [intOf]; omega
              | true =>
                have SN := Lib.hid (ST.out.next HP.out p0 p2 HD.out d0 d1)
                by_cases hbt : best < p - dd
                · have HM := Lib.hid (show max best (p - dd) = p - dd by omega)
                  go_wp2
                  go_round
                  case rel => exact ⟨k + 1, true, p - dd, by omega, by go_num, rfl, rfl, HM.out ▸ SN.out⟩
                  case measure => simp [intOf]; omega
                · have HM := Lib.hid (show max best (p - dd) = best by omega)
                  go_wp2
                  go_round
                  case rel => exact ⟨k + 1, true, best, by omega, by go_num, rfl, rfl, HM.out ▸ SN.out⟩
                  case measure => simp [intOf]; omega
          · obtain rfl : k = q := by omega
            have HV : Hid (best = hangF k ls ps j) := Lib.hid (ST.out.val (by rw [ST.out.has_, List.take_of_length_le (by omega)]; exact SM.out))
            have bA := own_blk hown2
            have zw := hbel2.size
            clear ho2
            go_wp2_with (at_builtin; refine wp_app rfl _ _ 25 rfl w1.heap.size 3 i0 (.int .i64 0) 1 8 Try.underlying25 hi hz0 hz1 hz2 rfl (by decide) rfl hown2 [.int .i64 best] rfl (by simp [Value.oneCell']) rfl (by simp) (by unfold maxLen; omega) (by omega) (by omega) ?_; intro A3 c3 w3 hown3 hg3)
            go_roundw
            case rel => exact ⟨j + 1, A3, c3, by omega, by go_num, rfl, by rw [tab_snoc, ints_append, ← HV.out]; exact hown3, row_apart hbx2 hg3 bA (by omega), bel_apart hbel2 hg3 bA (Nat.le_refl _)⟩
            case measure => simp [intOf]; omega
      · obtain rfl : j = q := by omega
        go_wp2
        go_ret
        exact ⟨A', j, c', rfl, by rw [S.out]; exact ownsRow_le hown hB.size, by omega, hbw⟩
end Go.Proofs.Ytbgdnlcjliaigaa
