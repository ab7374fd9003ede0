/- Contract of the reference's HangPose; no condition beyond the slices' lengths. -/
import Derived.Test.YtcdachkaalkjlaaHang
namespace Go.Proofs.Ytcdachkaalkjlaa
open Go.ChangeShapes Go.WideShapes Go.ChangeAt Go.RowKit Go.Deep Go.Joins
set_option maxRecDepth 100000

set_option maxHeartbeats 4000000 in
theorem spec_HangPose {n : Int} {A B : Option Addr} {m c q d : Nat} {ls : List Lb} {ps : List Int} {w : World} (hr : Reads w 3 A m (lbs ls)) (hm : m ≤ 1048576) (hp : Reads w 1 B q (ints ps)) (hq : q ≤ 1048576) :
    Calls Try.prog 61 #[.agg #[.int .i64 n, .slice A m c], .slice B q d] w fun e w' => ∃ A' n' c', e = .returned (.slice A' n' c') ∧ w'.ownsRow w.heap.size 3 1 (.slice A' n' c') n' (ints (hangPose n ls ps)) ∧ n' ≤ 1048576 ∧ Below w.heap.size w w' := by
  have hlp := hp.len
  have hx := (Row.new w 37 [.int .i64 n, .slice A m c]).alloc (.cells #[] 3)
  have ho : ((w.alloc (.cells #[.int .i64 n, .slice A m c] 37)).alloc (.cells #[] 3)).ownsRow (w.heap.size + 1) 3 1 (.slice (some ⟨w.heap.size + 1, 0, none⟩) 0 0) 0 [] := by simpa using own_empty (w.alloc (.cells #[.int .i64 n, .slice A m c] 37)) 3 1
  have hg0 : Below w.heap.size w ((w.alloc (.cells #[.int .i64 n, .slice A m c] 37)).alloc (.cells #[] 3)) := by go_grown
  have zs : ((w.alloc (.cells #[.int .i64 n, .slice A m c] 37)).alloc (.cells #[] 3)).heap.size = w.heap.size + 2 := by simp
  cases hb : pullsOk n ls ps with
  | false =>
    have E := Lib.hid hb
    have S := Lib.hid (hangPose_no hb)
    clear hb
    go_enter Try.func61, Try.ntmps61
    go_wp2_with fail
    refine (spec_PullsOk (hr.below (by go_grown)) hm (hp.below (by go_grown)) hq).mono ?_
    rintro e w1 ⟨rfl, hb1⟩
    rw [E.out]
    go_wp2
    go_ret
    exact ⟨_, 0, 0, rfl, by rw [S.out]; exact ownsRow_le (own_below ho hb1) (by omega), by omega, hg0.trans (hb1.mono (by omega))⟩
  | true =>
    have hf := pullsFacts hb
    obtain ⟨b1, b2, b3, t⟩ := tree_of hf.body
    obtain ⟨N, rfl⟩ := Int.eq_ofNat_of_zero_le (show 0 ≤ n by omega)
    rw [Int.toNat_natCast] at t
    have T := Lib.hid t
    have I := Lib.hid hf.rng
    have BO := Lib.hid hf.body
    obtain rfl : q = N := by have := hf.len; omega
    have E := Lib.hid hb
    have S := Lib.hid (hangPose_yes hb)
    obtain ⟨i0, hi, hz0, hz1, hz2⟩ := info_parts info_int
    clear hb hf t
    go_enter Try.func61, Try.ntmps61
    go_wp2_with fail
    refine (spec_PullsOk (hr.below (by go_grown)) hm (hp.below (by go_grown)) hq).mono ?_
    rintro e w1 ⟨rfl, hb1⟩
    rw [E.out]
    have hx1 := hx.below hb1
    have ho1 := own_below ho hb1
    have hB : Below w.heap.size w w1 := hg0.trans (hb1.mono (by omega))
    have z0 : w.heap.size + 2 ≤ w1.heap.size := by have := hb1.size; omega
    clear hb1 hx ho hg0 zs
    go_wp2
    go_loopw [5, 6] (fun v i wr => ∃ (j : Nat) (A' : Option Addr) (c' : Nat), j ≤ q ∧ i = .int .i64 j ∧ v = .slice A' j c' ∧ wr.ownsRow (w.heap.size + 1) 3 1 (.slice A' j c') j (ints (tab (fun _ => -2000) j)) ∧ Row wr w.heap.size 37 [.int .i64 (q : Int), .slice A m c] ∧ w.heap.size + 2 ≤ wr.heap.size ∧ Below w.heap.size w wr) (fun _ i _ => q - (intOf i).toNat)
    case atStart => exact ⟨0, _, 0, by omega, rfl, rfl, ho1, hx1, z0, hB⟩
    case round =>
      clear hx1 ho1 hB z0
      obtain ⟨j, A', c', hj, rfl, rfl, hown, hbx, z0, hbel⟩ := hrel
      have q0 := hbx.cell_ (i := 0) rfl
      by_cases hlt : j < q
      · have bA := own_blk hown
        have HX := Lib.hid hbx
        clear hbx
        go_wp2_with (at_builtin; refine wp_app rfl _ _ 22 rfl (w.heap.size + 1) 3 i0 (.int .i64 0) 1 8 Try.underlying22 hi hz0 hz1 hz2 rfl (by decide) rfl hown [.int .i64 (-2000)] rfl (by simp [Value.oneCell']) rfl (by simp) (by unfold maxLen; omega) (by omega) (by omega) ?_; intro A3 c3 w3 hown3 hg3)
        have zz := hg3.size
        go_roundw
        case rel => exact ⟨j + 1, A3, c3, by omega, by go_num, rfl, by rw [tab_snoc, ints_append]; exact hown3, row_apart HX.out hg3 bA (by omega), by omega, bel_apart hbel hg3 bA (by omega)⟩
        case measure => simp [intOf]; omega
      · obtain rfl : j = q := by omega
        obtain ⟨g, rfl, hbg, hgl⟩ := own_form hown (by omega)
        go_wp2
        clear q0
        go_loopw [7] (fun i wr => ∃ k : Nat, k ≤ j ∧ i = .int .i64 k ∧ wr.ownsRow (w.heap.size + 1) 3 1 (.slice (some ⟨g, 0, none⟩) j c') j (ints (tab (fun u => hangTo j ls ps u k) j)) ∧ Row wr w.heap.size 37 [.int .i64 (j : Int), .slice A m c] ∧ g < wr.heap.size ∧ Below w.heap.size w wr) (fun i _ => j - (intOf i).toNat)
        case atStart => exact ⟨0, by omega, rfl, hown, hbx, hgl, hbel⟩
        case round =>
          clear hown hbx hbel z0 hgl
          rename_i wz
          obtain ⟨k, hk, rfl, hown, hbx, hgl, hbel⟩ := hrel
          have q0 := hbx.cell_ (i := 0) rfl
          have q1 := hbx.cell_ (i := 1) rfl
          by_cases hlt : k < j
          · obtain ⟨b, o, p, rfl, hbB, hpk, c00⟩ := hp.int hlt
            have c0 := keep_cell hbel c00
            have HP := Lib.hid hpk
            obtain ⟨p1, p2⟩ := inAll_at I.out hpk
            clear hpk
            by_cases hp0 : p < 0
            · have HF := Lib.hid (fun u => hangTo_no (N := j) (ls := ls) (j := u) HP.out hp0)
              go_wp2
              go_roundw
              case rel => exact ⟨k + 1, by omega, by go_num, by simpa only [HF.out] using hown, hbx, hgl, hbel⟩
              case measure => simp [intOf]; omega
            · have HF := Lib.hid (fun u => hangTo_yes (N := j) (ls := ls) (j := u) HP.out (by omega))
              have HJ : Hid (isJ (j : Int) ls (k : Int) = true) := Lib.hid (by simp [isJ, BO.out]; omega)
              go_wp2_with fail
              refine (spec_DistancesFrom (n := (j : Int)) (i := (k : Int)) (hr.below hbel) hm).mono ?_
              rintro e w3 ⟨A3, n3, c3, rfl, hown3, hn3, hb3⟩
              rw [distsFrom_yes HJ.out] at hown3
              obtain rfl : j = n3 := by have := own_len hown3; rw [tab_length] at this; omega
              obtain ⟨g3, rfl, hbg3, hgl3⟩ := own_form hown3 (by omega)
              have hown1 := own_below hown hb3
              have hbx1 := hbx.below hb3
              have hbel1 := hbel.trans (hb3.mono hbel.size)
              have hgl1 : g < g3 := by omega
              have zb := hbx.lt
              clear hown hbx hbel hb3 c0 q0 q1
              go_wp2
              go_loopw [9] (fun i wr => ∃ u : Nat, u ≤ j ∧ i = .int .i64 u ∧ wr.ownsRow (w.heap.size + 1) 3 1 (.slice (some ⟨g, 0, none⟩) j c') j (ints (tab (fun v => if v < u then hangTo j ls ps v (k + 1) else hangTo j ls ps v k) j)) ∧ wr.ownsRow (w.heap.size + 1) 3 1 (.slice (some ⟨g3, 0, none⟩) j c3) j (ints (tab (dist j ls k) j)) ∧ Row wr w.heap.size 37 [.int .i64 (j : Int), .slice A m c] ∧ g3 < wr.heap.size ∧ Below w.heap.size w wr) (fun i _ => j - (intOf i).toNat)
              case atStart => exact ⟨0, by omega, rfl, by simpa using hown1, ownsRow_le hown3 (by omega), hbx1, hgl3, hbel1⟩
              case round =>
                clear hown1 hown3 hbx1 hgl3 hbel1
                obtain ⟨u, hu, rfl, hown, hd, hbx, hgl3, hbel⟩ := hrel
                have q0 := hbx.cell_ (i := 0) rfl
                by_cases hlt : u < j
                · have c0 := keep_cell hbel c00
                  have cd := own_int hd (tab_get (dist j ls k) j u hlt)
                  have cO := own_int hown (tab_get _ j u hlt)
                  rw [if_neg (by omega)] at cO
                  have f0 := own_frozen hown (j := u) (by rw [tab_length]; omega)
                  have HF1 := Lib.hid (HF.out u)
                  have d0 := T.out.all (s := k) (by omega) u hlt
                  have d1 := T.out.bound (s := k) (by omega) u
                  have hbd := hangTo_bd T.out hlt I.out k (by omega)
                  have HO := Lib.hid hown
                  have HD := Lib.hid hd
                  have HX := Lib.hid hbx
                  have lu : (u : Int) < (j : Int) := by omega
                  have lk : (k : Int) < (j : Int) := by omega
                  have bO : Blk (some ⟨g3, 0, none⟩) g3 (g3 + 1) := fun a ha => by cases ha; simp
                  have wr1 : IntKind.i64.wrap (p - dist j ls k u) = p - dist j ls k u := IntWalk.i64_in _ (by omega)
                  clear hown hd hbx
                  go_wp2
                  go_region
                  go_wp2
                  go_roundw
                  case rel => exact ⟨u + 1, by omega, by go_num, own_drewN (own_put HO.out hlt _ (fun i hi => by
                    unfold upd
                    by_cases hiu : i = u
                    · subst hiu
                      rw [if_pos (by omega), if_pos rfl, HF1.out]
                      split <;> omega
                    · rw [if_neg hiu]
                      show _ = if i < u then hangTo j ls ps i (k + 1) else hangTo j ls ps i k
                      by_cases h2 : i < u
                      · rw [if_pos (by omega), if_pos h2]
                      · rw [if_neg (by omega), if_neg h2])) 1, own_drewN (own_far HD.out bO hgl1 _) 1, (HX.out.far (by simp; omega) _).drewN 1, by simp [World.setCell, World.drew]; omega, below_drewN (hbel.setCell (p := ⟨g, u, none⟩) (by simp; omega) _) 1⟩
                  case measure => simp [intOf]; omega
                · obtain rfl : u = j := by omega
                  go_wp2
                  go_roundw
                  case rel => exact ⟨k + 1, by omega, by go_num, by
                    have e : tab (fun v => if v < u then hangTo u ls ps v (k + 1) else hangTo u ls ps v k) u = tab (fun v => hangTo u ls ps v (k + 1)) u := tab_congr fun v hv => by rw [if_pos hv]
                    rw [← e]; exact hown, hbx, by omega, hbel⟩
                  case measure => simp [intOf]; omega
          · obtain rfl : k = j := by omega
            go_wp2
            go_ret
            exact ⟨_, k, c', rfl, by rw [S.out]; exact ownsRow_le hown (by omega), by omega, hbel⟩
end Go.Proofs.Ytcdachkaalkjlaa
