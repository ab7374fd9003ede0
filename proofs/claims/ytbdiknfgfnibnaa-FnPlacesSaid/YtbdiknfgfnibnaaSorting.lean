/- Contracts of SortingSwaps of both sides; no condition beyond the slice's length. -/
import Derived.Test.YtbdiknfgfnibnaaInvLaw
import Derived.Test.YtbdiknfgfnibnaaSwapS
namespace Go.Proofs.Ytbdiknfgfnibnaa
open Go.ChangeShapes Go.WideShapes Go.ChangeAt Go.RowKit Go.Deep Go.Joins
set_option maxRecDepth 100000

theorem own_far {w : World} {base n c g o : Nat} {e : TypeId} {size : Nat} {A : Option Addr} {xs : List Value} {lo hi : Nat} (h : w.ownsRow base e size (.slice A n c) n xs) (hA : Blk A lo hi) (hg : g < lo) (u : Value) :
    (w.setCell ⟨g, o, none⟩ u).ownsRow base e size (.slice A n c) n xs :=
  own_grown h (grown_setCell (World.grownBy.refl w (some g)) (.inl rfl) u) (fun g' hA' hc => by
    subst hA'
    have := (hA _ rfl).1
    have e : g = g' := by injection hc
    simp only at this
    omega)
def sortM : Value → Value → Nat
  | .bool true, .slice _ n _ => 2 * (64 - n) + 1
  | .bool false, .slice _ n _ => 2 * (64 - n)
  | _, _ => 0
def lenM : Value → Nat
  | .slice _ n _ => 64 - n
  | _ => 0
theorem UpTo.mono {xs : List Int} {k j : Nat} (h : UpTo xs k) (hj : j ≤ k) : UpTo xs j := fun i x y hi hx hy => h i x y (by omega) hx hy
theorem UpTo.one (xs : List Int) : UpTo xs 1 := fun i x y hi => absurd hi (by omega)
theorem ints_snoc (xs : List Int) (x : Int) : ints (xs ++ [x]) = ints xs ++ [.int .i64 x] := by simp [ints]
theorem swapAt_at {xs : List Int} {j : Nat} (ho : orderOk xs = true) (hj : j + 1 < xs.length) : swapAt xs (j : Int) = swapN xs j := by
  rw [swapAt_yes (swapOk_yes ho (by omega) (by omega)), Int.toNat_natCast]
theorem info_so : (Try.prog.info? 3).map (fun i => (i.zero, i.size, i.bytes)) = some (some (.int .i64 0), 1, 8) := by kernel_rfl

set_option maxHeartbeats 4000000 in
theorem impl_SortingSwaps {A : Option Addr} {m c : Nat} {xs : List Int} {w : World} (hr : Reads w 1 A m (ints xs)) (hm : m ≤ 1048576) :
    Calls Try.prog 25 #[.slice A m c] w fun e w' => ∃ A' n' c', e = .returned (.slice A' n' c') ∧ w'.ownsRow w.heap.size 3 1 (.slice A' n' c') n' (ints (sortingSwaps xs)) ∧ n' ≤ 1048576 ∧ Below w.heap.size w w' := by
  have hl := hr.len
  cases hok : orderOk xs with
  | false =>
    have E := Lib.hid hok
    have S := Lib.hid (sortingSwaps_no hok)
    clear hok
    go_enter Try.func25, Try.ntmps25
    go_wp2_with fail
    refine (impl_OrderOk hr hm).mono ?_
    rintro e w1 ⟨rfl, hb1⟩
    rw [E.out]
    go_wp2
    go_ret
    exact ⟨none, 0, 0, rfl, by rw [S.out]; exact World.ownsRow_nil _ _ _ _, by omega, hb1⟩
  | true =>
    obtain ⟨h1, h7⟩ := orderOk_short hok
    rw [hl] at h1 h7
    have hF := inv_short hok
    have ST := Lib.hid (SortSt.start hok)
    have E := Lib.hid hok
    clear hok
    obtain ⟨i0, hi, hz0, hz1, hz2⟩ := info_parts info_so
    go_enter Try.func25, Try.ntmps25
    go_wp2_with fail
    refine (impl_OrderOk hr hm).mono ?_
    rintro e w1 ⟨rfl, hb1⟩
    rw [E.out]
    go_wp2_with fail
    refine (impl_copyOf (hr.below hb1) hm).mono ?_
    rintro e w2 ⟨A2, n2, c2, rfl, hown2, hn2, hb2⟩
    obtain rfl : n2 = m := by have := own_len hown2; omega
    replace hown2 := ownsRow_le hown2 hb1.size
    obtain ⟨g, rfl, hbg, hgl⟩ := own_form hown2 (by omega)
    have hB := hb1.trans (hb2.mono hb1.size)
    have ho := own_empty w2 3 1
    replace hown2 := own_below hown2 (by go_grown : Below w2.heap.size w2 (w2.alloc (.cells #[] 3)))
    have hB' := hB.trans ((by go_grown : Below w2.heap.size w2 (w2.alloc (.cells #[] 3))).mono hB.size)
    have zB := hB.size
    have bG : Blk (some ⟨g, 0, none⟩) w.heap.size w2.heap.size := fun a ha => by cases ha; exact ⟨hbg, hgl⟩
    clear hb1 hb2 hB
    go_wp2
    go_loopw [4, 5] (fun v ag wr => ∃ (f : Nat) (A' : Option Addr) (n' c' : Nat) (now out : List Int) (b : Bool), ag = .bool b ∧ v = .slice A' n' c' ∧ SortSt xs out now f ∧ (b = false → UpTo now n2) ∧ wr.ownsRow w.heap.size 3 1 (.slice (some ⟨g, 0, none⟩) n2 c2) n2 (ints now) ∧ wr.ownsRow w2.heap.size 3 1 (.slice A' n' c') n' (ints out) ∧ w2.heap.size ≤ wr.heap.size ∧ Below w.heap.size w wr) (fun v ag _ => sortM ag v)
    case atStart => exact ⟨_, _, 0, 0, xs, [], true, rfl, rfl, ST.out, by simp, hown2, ho, by simp, hB'⟩
    case round =>
      clear hown2 ho hB' ST
      obtain ⟨f, A', n', c', now, out, b, rfl, rfl, hst, hup, hown, hout, zW, hbel⟩ := hrel
      have hno := Nat.le_of_eq (own_len hout)
      have hsum := Nat.le_of_eq hst.sum
      have hln := Nat.le_of_eq hst.len.symm
      have ST := Lib.hid hst
      have HU := Lib.hid hup
      clear hst hup
      cases b with
      | false =>
        have SE := Lib.hid (ST.out.stop (by rw [ST.out.len, hl]; exact HU.out rfl))
        go_wp2
        go_ret
        exact ⟨A', n', c', rfl, by rw [SE.out]; exact ownsRow_le hout zB, by omega, hbel⟩
      | true =>
        go_wp2
        go_loopw [4, 5, 6] (fun v ag i wr => ∃ (k f : Nat) (A' : Option Addr) (n'' c' : Nat) (now out : List Int) (b : Bool), i = .int .i64 k ∧ k ≤ n2 ∧ ag = .bool b ∧ v = .slice A' n'' c' ∧ SortSt xs out now f ∧ (b = false → n'' = n' ∧ UpTo now (k + 1)) ∧ (b = true → n'' = n' + 1) ∧ wr.ownsRow w.heap.size 3 1 (.slice (some ⟨g, 0, none⟩) n2 c2) n2 (ints now) ∧ wr.ownsRow w2.heap.size 3 1 (.slice A' n'' c') n'' (ints out) ∧ w2.heap.size ≤ wr.heap.size ∧ Below w.heap.size w wr) (fun _ _ i _ => n2 - (intOf i).toNat)
        case atStart => exact ⟨0, f, A', n', c', now, out, false, rfl, by omega, rfl, rfl, ST.out, fun _ => ⟨rfl, UpTo.one _⟩, by simp, hown, hout, zW, hbel⟩
        case round =>
          clear hown hout hbel ST HU hno hsum hln zW
          obtain ⟨k, f, A', n'', c', now, out, b, rfl, hk, rfl, rfl, hst, hbf, hbt, hown, hout, zW, hbel⟩ := hrel
          have hno := Nat.le_of_eq (own_len hout)
          have hsum := Nat.le_of_eq hst.sum
          have hln := Nat.le_of_eq hst.len.symm
          have ST := Lib.hid hst
          clear hst
          cases b with
          | true =>
            have hn := Nat.le_of_eq (hbt rfl).symm
            clear hbf hbt
            by_cases hlt : k + 1 < n2
            all_goals
              go_wp2
              go_roundw
              case rel => exact ⟨f, A', n'', c', now, out, true, rfl, rfl, ST.out, by simp, hown, hout, zW, hbel⟩
              case measure => simp [sortM]; omega
          | false =>
            obtain ⟨hn, hup⟩ := hbf rfl
            have HU := Lib.hid hup
            clear hbf hbt hup
            subst hn
            by_cases hlt : k + 1 < n2
            · have ha : now[k]? = some (now[k]'(by omega)) := List.getElem?_eq_getElem (by omega)
              have hb : now[k + 1]? = some (now[k + 1]'(by omega)) := List.getElem?_eq_getElem (by omega)
              generalize now[k]'(by omega) = a at ha
              generalize now[k + 1]'(by omega) = z at hb
              have hne := orderOk_ne ST.out.ok (Nat.lt_succ_self k) ha hb
              have c0 := own_int hown ha
              have c1 := own_int hown hb
              have f0 := own_frozen hown (show k < now.length by omega)
              have f1 := own_frozen hown (show k + 1 < now.length by omega)
              have l1 : (k : Int) < (n2 : Int) := by omega
              have l2 : (k : Int) + 1 < (n2 : Int) := by omega
              have kn : k < n2 := by omega
              by_cases hza : z < a
              · have HOW := Lib.hid hown
                have HO := Lib.hid hout
                have bO := own_blk hout
                have HB := Lib.hid hbel
                have HA := Lib.hid ha
                have HZ := Lib.hid hb
                obtain ⟨f', rfl⟩ := ST.out.pos ha hb hza
                have SN := Lib.hid (ST.out.next HU.out ha hb hza)
                have hn65 : n'' + 1 ≤ 64 := by omega
                clear ha hb hown hne HU ST hout hbel hno hsum hln
                go_wp2
                go_quiet (fail)
                go_wp2
                go_region
                go_wp2_with (at_builtin; refine wp_app rfl _ _ 22 rfl w2.heap.size 3 i0 (.int .i64 0) 1 8 Try.underlying22 hi hz0 hz1 hz2 rfl (by decide) rfl (own_far (own_far (own_drewN HO.out _) bO hgl _) bO hgl _) [.int .i64 (k : Int)] rfl (by simp [Value.oneCell']) rfl (by simp) (by unfold maxLen; omega) (by omega) (by simp; omega) ?_; intro A3 c3 w3 hout3 hg3)
                have hown3 := own_apart (own_swap (own_drewN HOW.out _) HA.out HZ.out) hg3 bO bG (.inr (Nat.le_refl _))
                have hbel3 := bel_apart (((below_drewN HB.out _).setCell (p := ⟨g, k, none⟩) hbg _).setCell (p := ⟨g, k + 1, none⟩) hbg _) hg3 bO zB
                have z3 := hg3.size
                go_roundw
                case rel => exact ⟨k + 1, f', A3, n'' + 1, c3, swapN now k, out ++ [(k : Int)], true, by go_num, by omega, rfl, rfl, SN.out, by simp, fun _ => rfl, hown3, by rw [ints_snoc]; exact hout3, by simp at z3; omega, hbel3⟩
                case measure => simp [intOf]; omega
              · have HA := Lib.hid (HU.out.next ha hb (by omega))
                clear ha hb hne HU
                go_wp2
                go_quiet (fail)
                go_wp2
                go_roundw
                case rel => exact ⟨k + 1, f, A', n'', c', now, out, false, by go_num, by omega, rfl, rfl, ST.out, fun _ => ⟨rfl, HA.out⟩, by simp, own_drewN hown _, own_drewN hout _, zW, below_drewN hbel _⟩
                case measure => simp [intOf]; omega
            · have HV := Lib.hid (HU.out.mono (show n2 ≤ k + 1 by omega))
              go_wp2
              go_roundw
              case rel => exact ⟨f, A', n'', c', now, out, false, rfl, rfl, ST.out, fun _ => HV.out, hown, hout, zW, hbel⟩
              case measure => simp [sortM]

set_option maxHeartbeats 4000000 in
theorem spec_SortingSwaps {A : Option Addr} {m c : Nat} {xs : List Int} {w : World} (hr : Reads w 1 A m (ints xs)) (hm : m ≤ 1048576) :
    Calls Try.prog 24 #[.slice A m c] w fun e w' => ∃ A' n' c', e = .returned (.slice A' n' c') ∧ w'.ownsRow w.heap.size 3 1 (.slice A' n' c') n' (ints (sortingSwaps xs)) ∧ n' ≤ 1048576 ∧ Below w.heap.size w w' := by
  have hl := hr.len
  obtain ⟨i0, hi, hz0, hz1, hz2⟩ := info_parts info_so
  have hq := own_empty w 3 1
  have ho : ((w.alloc (.cells #[] 3)).alloc (.cells #[] 3)).ownsRow (w.heap.size + 1) 3 1 (.slice (some ⟨w.heap.size + 1, 0, none⟩) 0 0) 0 [] := by simpa using own_empty (w.alloc (.cells #[] 3)) 3 1
  have hr0 := ((hr.below (by go_grown : Below w.heap.size w (w.alloc (.cells #[] 3)))).below (by go_grown : Below (w.alloc (.cells #[] 3)).heap.size (w.alloc (.cells #[] 3)) ((w.alloc (.cells #[] 3)).alloc (.cells #[] 3))))
  have hq1 := own_below hq (by go_grown : Below (w.alloc (.cells #[] 3)).heap.size (w.alloc (.cells #[] 3)) ((w.alloc (.cells #[] 3)).alloc (.cells #[] 3)))
  have bq := own_blk hq
  go_enter Try.func24, Try.ntmps24
  go_wp2_with (at_builtin; refine wp_appn rfl _ _ 22 rfl (w.heap.size + 1) 3 i0 (.int .i64 0) 1 8 Try.underlying22 hi hz0 hz1 hz2 rfl (by decide) rfl ho rfl hr0 (ints_one xs) (by unfold maxLen; omega) (by omega) (by simp) ?_; intro A2 c2 w2 hown2 hg2)
  have hB := bel_apart (by go_grown : Below w.heap.size w ((w.alloc (.cells #[] 3)).alloc (.cells #[] 3))) hg2 (own_blk ho) (by simp)
  replace hq1 := own_apart hq1 hg2 (own_blk ho) bq (.inr (by simp))
  have zW := hg2.size
  replace hown2 := ownsRow_le (base' := w.heap.size) hown2 (by simp)
  rw [Nat.zero_add, List.nil_append] at hown2
  clear ho hr0 hq bq hg2
  cases hok : orderOk xs with
  | false =>
    have CI := Lib.hid (countInv_no hok)
    have S := Lib.hid (sortingSwaps_no hok)
    clear hok
    go_loopw [3, 4] (fun v u wr => v = .slice (some ⟨w.heap.size, 0, none⟩) 0 0 ∧ u = .slice A2 m c2 ∧ wr = w2) (fun _ _ _ => 0)
    case atStart => exact ⟨rfl, by simp, rfl⟩
    case round =>
      obtain ⟨rfl, rfl, rfl⟩ := hrel
      go_wp2_with fail
      refine (spec_CountInversions (Reads.of_own hown2) hm).mono ?_
      rintro e w3 ⟨rfl, hb3⟩
      rw [CI.out]
      go_wp2
      go_ret
      exact ⟨_, 0, 0, rfl, by rw [S.out]; exact own_below hq1 hb3, by omega, hB.trans (hb3.mono hB.size)⟩
  | true =>
    have hF := inv_short hok
    have ST := Lib.hid (SortSt.start hok)
    clear hok
    go_loopw [3, 4] (fun v u wr => ∃ (f : Nat) (A' An : Option Addr) (n' c' cn : Nat) (now out : List Int), v = .slice A' n' c' ∧ u = .slice An m cn ∧ SortSt xs out now f ∧ wr.ownsRow w.heap.size 3 1 (.slice An m cn) m (ints now) ∧ wr.ownsRow w.heap.size 3 1 (.slice A' n' c') n' (ints out) ∧ Below w.heap.size w wr) (fun v _ _ => lenM v)
    case atStart => exact ⟨_, _, A2, 0, 0, c2, xs, [], rfl, by simp, ST.out, hown2, hq1, hB⟩
    case round =>
      clear hown2 hq1 hB ST zW
      obtain ⟨f, A', An, n', c', cn, now, out, rfl, rfl, hst, hown, hout, hbel⟩ := hrel
      have hno := Nat.le_of_eq (own_len hout)
      have hsum := Nat.le_of_eq hst.sum
      have CI := Lib.hid ((countInv_inv hst.ok).trans hst.inv)
      have ST := Lib.hid hst
      have hlm := Nat.le_of_eq (own_len hown)
      clear hst
      go_wp2_with fail
      refine (spec_CountInversions (Reads.of_own hown) hm).mono ?_
      rintro e w3 ⟨rfl, hb3⟩
      rw [CI.out]
      have hown3 := own_below hown hb3
      have hout3 := own_below hout hb3
      have hbel3 := hbel.trans (hb3.mono hbel.size)
      have zw3 := hb3.size
      clear hown hout hbel hb3
      rcases f with _ | f
      · have SD := Lib.hid ST.out.done
        go_wp2
        go_ret
        exact ⟨A', n', c', rfl, by rw [SD.out]; exact hout3, by omega, hbel3⟩
      · have hpos : (0 : Int) < ((f + 1 : Nat) : Int) := by omega
        obtain ⟨d, a, b, hup, ha, hb, hab⟩ := drop_there ST.out.ok (by rw [ST.out.inv]; exact hpos)
        have hd := (List.getElem?_eq_some_iff.1 hb).1
        have hdm : d + 1 < m := by have := ST.out.len; omega
        have HU := Lib.hid hup
        have HA := Lib.hid ha
        have HZ := Lib.hid hb
        have SN := Lib.hid (ST.out.next hup ha hb hab)
        have SW := Lib.hid (swapAt_at ST.out.ok (by omega : d + 1 < now.length))
        clear hup ha hb hlm hd
        have CP : decide ((0 : Int) < ((f + 1 : Nat) : Int)) = true := decide_eq_true hpos
        go_wp2
        clear CP
        go_loopw [5] (fun i wr => ∃ k q : Nat, k ≤ d ∧ i = .int .i64 k ∧ wr = w3.drewN q) (fun i _ => d - (intOf i).toNat)
        case atStart => exact ⟨0, 0, by omega, rfl, rfl⟩
        case round =>
          obtain ⟨k, q, hk, rfl, rfl⟩ := hrel
          have hkm : k + 1 < m := by omega
          obtain ⟨g, rfl, hbg, hgl⟩ := own_form hown3 (by omega)
          by_cases hlt : k < d
          · have hkl : k + 1 < now.length := Nat.lt_of_lt_of_le (by omega) (Nat.le_of_lt (List.getElem?_eq_some_iff.1 HZ.out).1)
            have hx : now[k]? = some (now[k]'(by omega)) := List.getElem?_eq_getElem (by omega)
            have hy : now[k + 1]? = some (now[k + 1]'hkl) := List.getElem?_eq_getElem hkl
            generalize now[k]'(by omega) = x at hx
            generalize now[k + 1]'hkl = y at hy
            have hxy := HU.out k x y (by omega) hx hy
            have c0 := own_int hown3 hx
            have c1 := own_int hown3 hy
            have l1 : (k : Int) < (m : Int) := by omega
            have l2 : (k : Int) + 1 < (m : Int) := by omega
            have k1 : k < m := by omega
            clear hx hy hkl
            go_wp2
            go_quiet (fail)
            go_wp2
            go_roundw
            case rel => exact ⟨k + 1, _, by omega, by go_num, rfl⟩
            case measure => simp [intOf]; omega
          · obtain rfl : k = d := by omega
            have c0 := own_int hown3 HA.out
            have c1 := own_int hown3 HZ.out
            have l1 : (k : Int) < (m : Int) := by omega
            have l2 : (k : Int) + 1 < (m : Int) := by omega
            have k1 : k < m := by omega
            have hnab : ¬ a < b := by omega
            go_wp2
            go_quiet (fail)
            go_wp2_with fail
            refine (spec_SwapAt (k := (k : Int)) (Reads.of_own (own_drewN hown3 _)) hm).mono ?_
            rintro e w4 ⟨A4, n4, c4, rfl, hown4, hn4, hb4⟩
            rw [SW.out] at hown4
            obtain rfl : m = n4 := by have e1 := own_len hown4; rw [swapN_len] at e1; have e2 := own_len hown3; omega
            have hout4 := own_below (own_drewN hout3 _) hb4
            have hbel4 := (below_drewN hbel3 _).trans (hb4.mono hbel3.size)
            have bO := own_blk hout3
            have bN := own_blk hown4
            have zw4 := hbel4.size
            have zw30 := hbel3.size
            have hn65 : n' + 1 ≤ 64 := by omega
            clear hown3 hout3 hbel3 hb4 hno hsum
            go_wp2_with (at_builtin; refine wp_app rfl _ _ 22 rfl w.heap.size 3 i0 (.int .i64 0) 1 8 Try.underlying22 hi hz0 hz1 hz2 rfl (by decide) rfl hout4 [.int .i64 (k : Int)] rfl (by simp [Value.oneCell']) rfl (by simp) (by unfold maxLen; omega) (by omega) (by omega) ?_; intro A5 c5 w5 hout5 hg5)
            have hown5 := own_apart hown4 hg5 bO bN (.inl (Nat.le_refl _))
            have hbel5 := bel_apart hbel4 hg5 bO (Nat.le_refl _)
            go_roundw
            case rel => exact ⟨f, A5, A4, n' + 1, c5, c4, _, out ++ [(k : Int)], rfl, rfl, SN.out, ownsRow_le hown5 (by simpa using zw30), by rw [ints_snoc]; exact hout5, hbel5⟩
            case measure => simp [lenM]; omega
end Go.Proofs.Ytbdiknfgfnibnaa
