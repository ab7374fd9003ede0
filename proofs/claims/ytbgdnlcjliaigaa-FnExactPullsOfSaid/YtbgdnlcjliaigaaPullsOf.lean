/- Contracts of PullsOf of both sides; no condition beyond the slices' lengths. -/
import Derived.Test.YtbgdnlcjliaigaaControl
import Derived.Test.YtbgdnlcjliaigaaHang
namespace Go.Proofs.Ytbgdnlcjliaigaa
open Go.ChangeShapes Go.WideShapes Go.ChangeAt Go.RowKit Go.Deep Go.Joins
set_option maxRecDepth 100000

theorem cord_nat {n J : Int} {x : Lb} (h : 0 ≤ x.a ∧ x.a ≤ n - 1 ∧ 0 ≤ x.b ∧ x.b ≤ J - 1 ∧ 1 ≤ J ∧ 0 ≤ x.l ∧ x.l ≤ 500) : x.a = (x.p : Int) ∧ x.b = (x.q : Int) ∧ (x.p : Int) < n ∧ (x.q : Int) < J := by
  unfold Lb.p Lb.q; omega
theorem pull_put {h a : Int} {ar : List Int} {cs : List Lb} {k : Nat} {x : Lb} {N : Nat} {v : Int} (hx : cs[k]? = some x) (ha : ar[x.p]? = some a) (hv : v = max (h + a - x.l) 0) (i : Nat) (_ : i < N) : pullTo h ar cs (k + 1) i = upd (pullTo h ar cs k) x.q v i := by
  rw [pullTo_step hx ha, hv]

set_option maxHeartbeats 4000000 in
theorem impl_PullsOf {h J : Int} {A B : Option Addr} {n c q : Nat} {ar : List Int} {cs : List Lb} {w : World} (hr : Reads w 1 A n (ints ar)) (hn : n ≤ 1048576) (hs : Reads w 3 B q (lbs cs)) (hq : q ≤ 1048576) :
    Calls Try.prog 45 #[.agg #[.int .i64 h, .slice A n c, .slice B q q], .int .i64 J] w fun e w' => ∃ A' n' c', e = .returned (.slice A' n' c') ∧ w'.ownsRow w.heap.size 3 1 (.slice A' n' c') n' (ints (pullsOf h ar cs J)) ∧ n' ≤ 1048576 ∧ Below w.heap.size w w' := by
  have hla := hr.len
  have hlc : cs.length = q := by have := hs.1; rw [lbs_length] at this; omega
  have hx := Row.new w 54 [.int .i64 h, .slice A n c, .slice B q q]
  have hg0 : Below w.heap.size w (w.alloc (.cells #[.int .i64 h, .slice A n c, .slice B q q] 54)) := by go_grown
  cases hb : ctlOk h ar cs J with
  | false =>
    have E := Lib.hid hb
    have S := Lib.hid (pullsOf_no1 hb)
    clear hb
    go_enter Try.func45, Try.ntmps45
    go_wp2_with fail
    refine (impl_ControlOk (hr.below hg0) hn (hs.below hg0) hq).mono ?_
    rintro e w1 ⟨rfl, hb1⟩
    rw [E.out]
    go_wp2
    go_ret
    exact ⟨none, 0, 0, rfl, by rw [S.out]; exact World.ownsRow_nil _ _ _ _, by omega, hg0.trans (hb1.mono (by simp))⟩
  | true =>
    have E := Lib.hid hb
    by_cases hJ : 1 ≤ J ∧ J ≤ 12
    rotate_left
    · have S := Lib.hid (pullsOf_no2 (h := h) (ar := ar) (cs := cs) hJ)
      have hJ' : J < 1 ∨ 12 < J := by omega
      clear hb hJ
      go_enter Try.func45, Try.ntmps45
      go_wp2_with fail
      refine (impl_ControlOk (hr.below hg0) hn (hs.below hg0) hq).mono ?_
      rintro e w1 ⟨rfl, hb1⟩
      rw [E.out]
      go_wp2_with (go_at_call 65; refine (within_f _ _ _ _ hJ').mono ?_; rintro e w' ⟨rfl, rfl⟩)
      go_ret
      exact ⟨none, 0, 0, rfl, by rw [S.out]; exact World.ownsRow_nil _ _ _ _, by omega, hg0.trans (hb1.mono (by simp))⟩
    obtain ⟨j1, j2⟩ := hJ
    have hf := ctlFacts hb
    obtain ⟨f1, f2, f3, f4, f5⟩ := hf.num
    have I := Lib.hid hf.rng
    have CF := Lib.hid hf.cord
    obtain ⟨N, rfl⟩ := Int.eq_ofNat_of_zero_le (show 0 ≤ J by omega)
    have n1 : 1 ≤ N := by omega
    have n2 : N ≤ 12 := by omega
    have S := Lib.hid (pullsOf_yes hb n1 n2)
    obtain ⟨i0, hi, hz0, hz1, hz2⟩ := info_parts info_int
    have hmk := fun W => run_make_rowN (P := Try.prog) 25 3 i0 _ Try.underlying25 hi hz0 .i64 .i64 N N (Nat.le_refl _) (by rw [hz2]; omega) (by omega) W
    rw [hz1] at hmk
    clear hb hf hi hz0 hz1 hz2
    go_enter Try.func45, Try.ntmps45
    go_wp2_with fail
    refine (impl_ControlOk (hr.below hg0) hn (hs.below hg0) hq).mono ?_
    rintro e w1 ⟨rfl, hb1⟩
    rw [E.out]
    have hB : Below w.heap.size w w1 := hg0.trans (hb1.mono (by simp))
    have hx1 := hx.below hb1
    have zx := hx1.lt
    clear hb1 hx hg0
    go_wp2_with (go_at_call 65; refine (within_t _ _ _ _ j1 j2).mono ?_; rintro e w' ⟨rfl, rfl⟩)
    clear hmk
    have hrow0 : Row (w1.alloc (.cells (madeCells #[.int .i64 0] N) 3)) w1.heap.size 3 (ints (tab (fun j => if j < 0 then -1 else 0) N)) := by
      have h := Row.made w1 #[.int .i64 0] (N * 1) 3
      rw [made_tab] at h
      simpa using h
    have hx2 := hx1.alloc (.cells (madeCells #[.int .i64 0] N) 3)
    have hB2 : Below w.heap.size w (w1.alloc (.cells (madeCells #[.int .i64 0] N) 3)) := hB.alloc hB.size _
    have zg := hB.size
    generalize w1.heap.size = G at *
    go_loopw [22] (fun i wr => ∃ k : Nat, k ≤ N ∧ i = .int .i64 k ∧ Row wr w.heap.size 54 [.int .i64 h, .slice A n c, .slice B q q] ∧ Row wr G 3 (ints (tab (fun j => if j < k then -1 else 0) N)) ∧ Below w.heap.size w wr) (fun i _ => N - (intOf i).toNat)
    case atStart => exact ⟨0, by omega, rfl, hx2, hrow0, hB2⟩
    case round =>
      clear hx2 hrow0 hB2 hB hx1
      obtain ⟨k, hk, rfl, hbx, hrow, hbel⟩ := hrel
      by_cases hlt : k < N
      · have c0 := hrow.tab_at hlt
        have f0 := hrow.frozen k
        have HR := Lib.hid (hrow.tab_put (i := k) (-1) (f' := fun j => if j < k + 1 then -1 else 0) (fun j hj => by unfold upd; by_cases e : j = k <;> simp [e] <;> (try omega) <;> (congr 1; simp; omega)))
        have HB := Lib.hid (hbx.far (p := ⟨G, k, none⟩) (by simp; omega) (.int .i64 (-1)))
        clear hrow hbx
        go_wp2
        go_roundw
        case rel => exact ⟨k + 1, by omega, by go_num, HB.out, HR.out, hbel.setCell (by simp; omega) _⟩
        case measure => simp [intOf]; omega
      · obtain rfl : k = N := by omega
        have hrow1 : Row wr G 3 (ints (tab (pullTo h ar cs 0) k)) := by
          rw [show tab (pullTo h ar cs 0) k = tab (fun j => if j < k then -1 else 0) k from tab_congr fun v hv => by simp [pullTo, hv]]
          exact hrow
        have b2 := hbx.cell_ (i := 2) rfl
        clear hrow
        go_wp2
        clear b2
        go_loopw [32] (fun i wr => ∃ j : Nat, j ≤ q ∧ i = .int .i64 j ∧ Row wr w.heap.size 54 [.int .i64 h, .slice A n c, .slice B q q] ∧ Row wr G 3 (ints (tab (pullTo h ar cs j) k)) ∧ Below w.heap.size w wr) (fun i _ => q - (intOf i).toNat)
        case atStart => exact ⟨0, by omega, rfl, hbx, hrow1, hbel⟩
        case round =>
          clear hbx hrow1 hbel
          obtain ⟨j, hj, rfl, hbx, hrow, hbel⟩ := hrel
          by_cases hlt : j < q
          · obtain ⟨b, o, x, rfl, hbB, hxk, c0, c1, c2⟩ := (hs.below hbel).lb hlt
            have hcf := CF.out x (List.mem_of_getElem? hxk)
            obtain ⟨xa, xb, xp, xq⟩ := cord_nat hcf
            have xl1 := hcf.2.2.2.2.2.1
            have xl2 := hcf.2.2.2.2.2.2
            rw [xa] at c0
            rw [xb] at c1
            have hxp : x.p < n := by omega
            have hxq : x.q < k := by omega
            obtain ⟨b', o', a, rfl, hbB', hap, d0⟩ := (hr.below hbel).int hxp
            obtain ⟨a1, a2⟩ := inAll_at I.out hap
            have HP := Lib.hid (fun v hv => pull_put (h := h) (N := k) (v := v) hxk hap hv)
            have hW : Below w.heap.size w (wr.alloc (.cells #[.int .i64 (x.p : Int), .int .i64 (x.q : Int), .int .i64 x.l] 80)) := hbel.alloc hbel.size _
            have hox := Row.new wr 80 [.int .i64 (x.p : Int), .int .i64 (x.q : Int), .int .i64 x.l]
            have hbx2 := hbx.alloc (.cells #[.int .i64 (x.p : Int), .int .i64 (x.q : Int), .int .i64 x.l] 80)
            have hrow2 := hrow.alloc (.cells #[.int .i64 (x.p : Int), .int .i64 (x.q : Int), .int .i64 x.l] 80)
            have e0 := keep_cell (by go_grown : Below wr.heap.size wr (wr.alloc (.cells #[.int .i64 (x.p : Int), .int .i64 (x.q : Int), .int .i64 x.l] 80))) d0
            have r1 : IntKind.i64.wrap (h + a) = h + a := IntWalk.i64_in _ (by omega)
            have r2 : IntKind.i64.wrap (h + a - x.l) = h + a - x.l := IntWalk.i64_in _ (by omega)
            clear hxk hap xa xb d0 hcf hbx hrow
            go_wp2
            clear c0 c1 c2
            generalize wr.alloc (.cells #[.int .i64 (x.p : Int), .int .i64 (x.q : Int), .int .i64 x.l] 80) = W0 at *
            have q0 := hox.cell_ (i := 0) rfl
            have q1 := hox.cell_ (i := 1) rfl
            have q2 := hox.cell_ (i := 2) rfl
            have p0 := hbx2.cell_ (i := 0) rfl
            have p1 := hbx2.cell_ (i := 1) rfl
            have p3 := hrow2.tab_at hxq
            have p4 := hrow2.frozen x.q
            have HR := Lib.hid hrow2
            have HB := Lib.hid hbx2
            clear hrow2 hbx2 hox
            go_region
            go_wp2
            go_roundw
            case rel => exact ⟨j + 1, by omega, by go_num, (HB.out.far (by simp; omega) _).drewN 1, (HR.out.tab_put _ (HP.out _ (by split <;> omega))).drewN 1, below_drewN (hW.setCell (p := ⟨G, x.q, none⟩) (by simp; omega) _) 1⟩
            case measure => simp [intOf]; omega
          · obtain rfl : j = q := by omega
            go_wp2
            go_ret
            exact ⟨_, k, k, rfl, by rw [S.out, hlc]; exact hrow.own (by omega) (Nat.le_refl _) (by unfold maxLen; omega) (by rw [ints_length, tab_length]; omega) (List.take_of_length_le (by rw [ints_length, tab_length]; omega)), by omega, hbel⟩

theorem tab_const_snoc (k : Nat) : tab (fun _ => (-1 : Int)) (k + 1) = tab (fun _ => -1) k ++ [-1] := tab_snoc _ _

set_option maxHeartbeats 4000000 in
theorem spec_PullsOf {h J : Int} {A B : Option Addr} {n c q : Nat} {ar : List Int} {cs : List Lb} {w : World} (hJr : -9223372036854775808 ≤ J ∧ J ≤ 9223372036854775807) (hr : Reads w 1 A n (ints ar)) (hn : n ≤ 1048576) (hs : Reads w 3 B q (lbs cs)) (hq : q ≤ 1048576) :
    Calls Try.prog 44 #[.agg #[.int .i64 h, .slice A n c, .slice B q q], .int .i64 J] w fun e w' => ∃ A' n' c', e = .returned (.slice A' n' c') ∧ w'.ownsRow w.heap.size 3 1 (.slice A' n' c') n' (ints (pullsOf h ar cs J)) ∧ n' ≤ 1048576 ∧ Below w.heap.size w w' := by
  have hla := hr.len
  have hlc : cs.length = q := by have := hs.1; rw [lbs_length] at this; omega
  have hx := (Row.new w 54 [.int .i64 h, .slice A n c, .slice B q q]).alloc (.cells #[] 3)
  have ho : ((w.alloc (.cells #[.int .i64 h, .slice A n c, .slice B q q] 54)).alloc (.cells #[] 3)).ownsRow (w.heap.size + 1) 3 1 (.slice (some ⟨w.heap.size + 1, 0, none⟩) 0 0) 0 [] := by simpa using own_empty (w.alloc (.cells #[.int .i64 h, .slice A n c, .slice B q q] 54)) 3 1
  have hg0 : Below w.heap.size w ((w.alloc (.cells #[.int .i64 h, .slice A n c, .slice B q q] 54)).alloc (.cells #[] 3)) := by go_grown
  have zs : ((w.alloc (.cells #[.int .i64 h, .slice A n c, .slice B q q] 54)).alloc (.cells #[] 3)).heap.size = w.heap.size + 2 := by simp
  cases hb : ctlOk h ar cs J with
  | false =>
    have E := Lib.hid hb
    have S := Lib.hid (pullsOf_no1 hb)
    clear hb
    go_enter Try.func44, Try.ntmps44
    go_wp2_with fail
    refine (spec_ControlOk hJr (hr.below hg0) hn (hs.below hg0) hq).mono ?_
    rintro e w1 ⟨rfl, hb1⟩
    rw [E.out]
    go_wp2
    go_ret
    exact ⟨_, 0, 0, rfl, by rw [S.out]; exact ownsRow_le (own_below ho hb1) (by omega), by omega, hg0.trans (hb1.mono (by omega))⟩
  | true =>
    have E := Lib.hid hb
    by_cases hJ : 1 ≤ J ∧ J ≤ 12
    rotate_left
    · have S := Lib.hid (pullsOf_no2 (h := h) (ar := ar) (cs := cs) hJ)
      have hJ' : J < 1 ∨ 12 < J := by omega
      clear hb hJ
      go_enter Try.func44, Try.ntmps44
      go_wp2_with fail
      refine (spec_ControlOk hJr (hr.below hg0) hn (hs.below hg0) hq).mono ?_
      rintro e w1 ⟨rfl, hb1⟩
      rw [E.out]
      go_wp2_with (go_at_call 48; refine (l01In_f _ _ _ _ hJ').mono ?_; rintro e w' ⟨rfl, rfl⟩)
      go_ret
      exact ⟨_, 0, 0, rfl, by rw [S.out]; exact ownsRow_le (own_below ho hb1) (by omega), by omega, hg0.trans (hb1.mono (by omega))⟩
    obtain ⟨j1, j2⟩ := hJ
    have hf := ctlFacts hb
    obtain ⟨f1, f2, f3, f4, f5⟩ := hf.num
    have I := Lib.hid hf.rng
    have CF := Lib.hid hf.cord
    obtain ⟨N, rfl⟩ := Int.eq_ofNat_of_zero_le (show 0 ≤ J by omega)
    have n1 : 1 ≤ N := by omega
    have n2 : N ≤ 12 := by omega
    have S := Lib.hid (pullsOf_yes hb n1 n2)
    obtain ⟨i0, hi, hz0, hz1, hz2⟩ := info_parts info_int
    clear hb hf
    go_enter Try.func44, Try.ntmps44
    go_wp2_with fail
    refine (spec_ControlOk hJr (hr.below hg0) hn (hs.below hg0) hq).mono ?_
    rintro e w1 ⟨rfl, hb1⟩
    rw [E.out]
    have hB : Below w.heap.size w w1 := hg0.trans (hb1.mono (by simp; omega))
    have hx1 := hx.below hb1
    have ho1 := own_below ho hb1
    clear hb1 hx hg0 ho
    go_wp2_with (go_at_call 48; refine (l01In_t _ _ _ _ j1 j2).mono ?_; rintro e w' ⟨rfl, rfl⟩)
    go_loopw [5, 6] (fun v i wr => ∃ (k c' : Nat) (A' : Option Addr), k ≤ N ∧ i = .int .i64 k ∧ v = .slice A' k c' ∧ wr.ownsRow (w.heap.size + 1) 3 1 (.slice A' k c') k (ints (tab (fun _ => -1) k)) ∧ Row wr w.heap.size 54 [.int .i64 h, .slice A n c, .slice B q q] ∧ Below w.heap.size w wr) (fun _ i _ => N - (intOf i).toNat)
    case atStart => exact ⟨0, 0, _, by omega, rfl, rfl, ho1, hx1, hB⟩
    case round =>
      clear hx1 ho1 hB
      obtain ⟨k, c', A', hk, rfl, rfl, hown, hbx, hbel⟩ := hrel
      have bA := own_blk hown
      have zx := hbx.lt
      by_cases hlt : k < N
      · have HB := Lib.hid hbx
        clear hbx
        go_wp2_with (at_builtin; refine wp_app_at _ rfl _ _ 25 rfl (w.heap.size + 1) 3 i0 (.int .i64 0) 1 8 Try.underlying25 hi hz0 hz1 hz2 rfl (by decide) rfl hown [.int .i64 (-1)] rfl (by simp [Value.oneCell']) rfl rfl (by unfold maxLen; omega) (by omega) (by omega) rfl ?_; intro A2 c2 w2 hown2 hg2)
        go_roundw
        case rel => exact ⟨k + 1, c2, A2, by omega, by go_num, rfl, by rw [tab_const_snoc, ints_append]; exact hown2, row_apart HB.out hg2 bA (by omega), bel_apart hbel hg2 bA (by omega)⟩
        case measure => simp [intOf]; omega
      · obtain rfl : k = N := by omega
        obtain ⟨g, rfl, hbg, hgl⟩ := own_form hown (by omega)
        have hown1 : wr.ownsRow (w.heap.size + 1) 3 1 (.slice (some ⟨g, 0, none⟩) k c') k (ints (tab (pullTo h ar cs 0) k)) := hown
        clear hown bA
        go_wp2
        go_loopw [7] (fun i wr => ∃ j : Nat, j ≤ q ∧ i = .int .i64 j ∧ wr.ownsRow (w.heap.size + 1) 3 1 (.slice (some ⟨g, 0, none⟩) k c') k (ints (tab (pullTo h ar cs j) k)) ∧ Row wr w.heap.size 54 [.int .i64 h, .slice A n c, .slice B q q] ∧ Below w.heap.size w wr) (fun i _ => q - (intOf i).toNat)
        case atStart => exact ⟨0, by omega, rfl, hown1, hbx, hbel⟩
        case round =>
          clear hbx hown1 hbel hgl
          obtain ⟨j, hj, rfl, hown, hbx, hbel⟩ := hrel
          have b2 := hbx.cell_ (i := 2) rfl
          by_cases hlt : j < q
          · obtain ⟨b, o, x, rfl, hbB, hxk, c0, c1, c2⟩ := (hs.below hbel).lb hlt
            have hcf := CF.out x (List.mem_of_getElem? hxk)
            obtain ⟨xa, xb, xp, xq⟩ := cord_nat hcf
            have xl1 := hcf.2.2.2.2.2.1
            have xl2 := hcf.2.2.2.2.2.2
            rw [xa] at c0
            rw [xb] at c1
            have hxp : x.p < n := by omega
            have hxq : x.q < k := by omega
            obtain ⟨b', o', a, rfl, hbB', hap, d0⟩ := (hr.below hbel).int hxp
            obtain ⟨a1, a2⟩ := inAll_at I.out hap
            have HP := Lib.hid (fun v hv => pull_put (h := h) (N := k) (v := v) hxk hap hv)
            have hW : Below w.heap.size w (wr.alloc (.cells #[.int .i64 (x.p : Int), .int .i64 (x.q : Int), .int .i64 x.l] 80)) := hbel.alloc hbel.size _
            have hox := Row.new wr 80 [.int .i64 (x.p : Int), .int .i64 (x.q : Int), .int .i64 x.l]
            have hbx2 := hbx.alloc (.cells #[.int .i64 (x.p : Int), .int .i64 (x.q : Int), .int .i64 x.l] 80)
            have hown2 := hown.alloc (.cells #[.int .i64 (x.p : Int), .int .i64 (x.q : Int), .int .i64 x.l] 80)
            have e0 := keep_cell (by go_grown : Below wr.heap.size wr (wr.alloc (.cells #[.int .i64 (x.p : Int), .int .i64 (x.q : Int), .int .i64 x.l] 80))) d0
            have r1 : IntKind.i64.wrap (h + a) = h + a := IntWalk.i64_in _ (by omega)
            have r2 : IntKind.i64.wrap (h + a - x.l) = h + a - x.l := IntWalk.i64_in _ (by omega)
            clear hxk hap xa xb d0 hcf hbx hown
            go_wp2
            clear c0 c1 c2 b2
            generalize wr.alloc (.cells #[.int .i64 (x.p : Int), .int .i64 (x.q : Int), .int .i64 x.l] 80) = W0 at *
            have q0 := hox.cell_ (i := 0) rfl
            have q1 := hox.cell_ (i := 1) rfl
            have q2 := hox.cell_ (i := 2) rfl
            have p0 := hbx2.cell_ (i := 0) rfl
            have p1 := hbx2.cell_ (i := 1) rfl
            have p3 := own_int hown2 (tab_get _ k x.q hxq)
            have p4 := own_frozen hown2 (j := x.q) (by rw [tab_length]; omega)
            have HR := Lib.hid hown2
            have HB := Lib.hid hbx2
            clear hown2 hbx2 hox
            go_region
            go_wp2
            go_roundw
            case rel => exact ⟨j + 1, by omega, by go_num, own_drewN (own_put HR.out hxq _ (HP.out _ (by split <;> omega))) 1, (HB.out.far (by simp; omega) _).drewN 1, below_drewN (hW.setCell (p := ⟨g, x.q, none⟩) (by simp; omega) _) 1⟩
            case measure => simp [intOf]; omega
          · obtain rfl : j = q := by omega
            go_wp2
            go_ret
            exact ⟨_, k, c', rfl, by rw [S.out, hlc]; exact ownsRow_le hown (by omega), by omega, hbel⟩
end Go.Proofs.Ytbgdnlcjliaigaa
