/- The contract of the program's PathBetween; no condition beyond the slice's length. -/
import Derived.Test.YtnghfocboodkhaaDistI
namespace Go.Proofs.Ytnghfocboodkhaa
open Go.ChangeShapes Go.WideShapes Go.ChangeAt Go.RowKit Go.Deep Go.Joins
set_option maxRecDepth 100000

theorem TD.test {N s : Nat} {ls : List Lb} {d : Nat → Int} (t : TD N ls s d) {x : Lb} (hx : x ∈ ls) {v nx : Nat} (hv : x.p = v ∨ x.q = v) (ho : other x v = nx) : par d v x = decide (d nx + x.l = d v) := by
  subst ho
  have hl := (t.ok x hx).l1
  rcases t.side hx hv with ⟨_, _, ⟨h1, h2⟩ | ⟨h1, _, h2⟩⟩
  · rw [h1]; exact (decide_eq_true (by omega)).symm
  · rw [h1]; exact (decide_eq_false (by omega)).symm
theorem info_pb : (Try.prog.info? 3).map (fun i => (i.zero, i.size, i.bytes)) = some (some (.int .i64 0), 1, 8) := by kernel_rfl
theorem chI_step {N J v i : Nat} {ls : List Lb} {d : Nat → Int} {x : Lb} (t : TD N ls J d) (hv : v < N) (hne : v ≠ J) (hx : ls[i]? = some x) (hp : par d v x = true) : chI ls d J v = (v : Int) :: chI ls d J (other x v) := by
  simp [chI, t.chain_step hv hne hx hp]
theorem chI_root {N J : Nat} {ls : List Lb} {d : Nat → Int} (t : TD N ls J d) : chI ls d J J = [(J : Int)] := by simp [chI, t.chain_root]
theorem chI_len {N J v : Nat} {ls : List Lb} {d : Nat → Int} (t : TD N ls J d) (hv : v < N) : 1 ≤ (chI ls d J v).length ∧ (chI ls d J v).length ≤ 1101 := by
  obtain ⟨r, er⟩ := chain_cons (ls := ls) (d := d) (s := J) v
  have h1 := t.chain_len (d v).toNat v hv (Nat.le_refl _)
  have h2 := t.nn v hv
  refine ⟨by simp [chI, er], ?_⟩
  simp only [chI, List.length_map]
  omega

set_option maxHeartbeats 8000000 in
theorem impl_PathBetween {n i j : Int} {A : Option Addr} {m c : Nat} {ls : List Lb} {w : World} (hr : Reads w 3 A m (lbs ls)) (hm : m ≤ 1048576) :
    Calls Try.prog 42 #[.agg #[.int .i64 n, .slice A m c], .int .i64 i, .int .i64 j] w fun e w' => ∃ A' n' c', e = .returned (.slice A' n' c') ∧ w'.ownsRow w.heap.size 3 1 (.slice A' n' c') n' (ints (pathOf n ls i j)) ∧ n' ≤ 1048576 ∧ Below w.heap.size w w' := by
  have hx := Row.new w 24 [.int .i64 n, .slice A m c]
  cases hi : isJ n ls i with
  | false =>
    have E := Lib.hid hi; clear hi
    go_enter Try.func42, Try.ntmps42
    go_wp2_with fail
    refine (impl_isJoint (hr.below (by go_grown)) hm).mono ?_
    rintro e w1 ⟨rfl, hb1⟩
    rw [E.out]
    go_wp2
    go_ret
    exact ⟨none, 0, 0, rfl, by rw [show pathOf n ls i j = [] by simp [pathOf, E.out]]; exact World.ownsRow_nil _ _ _ _, by omega, (by go_grown : Below w.heap.size w _).trans (hb1.mono (by simp))⟩
  | true =>
    cases hj : isJ n ls j with
    | false =>
      have E := Lib.hid hi; clear hi
      have F := Lib.hid hj; clear hj
      go_enter Try.func42, Try.ntmps42
      go_wp2_with fail
      refine (impl_isJoint (hr.below (by go_grown)) hm).mono ?_
      rintro e w1 ⟨rfl, hb1⟩
      rw [E.out]
      have hx1 := hx.below hb1
      have q0 := hx1.cell_ (i := 0) rfl
      have q1 := hx1.cell_ (i := 1) rfl
      have hB : Below w.heap.size w w1 := (by go_grown : Below w.heap.size w _).trans (hb1.mono (by simp))
      clear hb1 hx
      go_wp2_with fail
      refine (impl_isJoint (hr.below hB) hm).mono ?_
      rintro e w2 ⟨rfl, hb2⟩
      rw [F.out]
      go_wp2
      go_ret
      exact ⟨none, 0, 0, rfl, by rw [show pathOf n ls i j = [] by simp [pathOf, E.out, F.out]]; exact World.ownsRow_nil _ _ _ _, by omega, hB.trans (hb2.mono hB.size)⟩
    | true =>
      obtain ⟨hok, hi1, hi2⟩ := isJ_t hi
      obtain ⟨_, hj1, hj2⟩ := isJ_t hj
      obtain ⟨h1, h2, h3, t⟩ := tree_of hok
      obtain ⟨N, rfl⟩ := Int.eq_ofNat_of_zero_le (show 0 ≤ n by omega)
      obtain ⟨I, rfl⟩ := Int.eq_ofNat_of_zero_le hi1
      obtain ⟨J, rfl⟩ := Int.eq_ofNat_of_zero_le hj1
      rw [Int.toNat_natCast] at t
      have hlen : ls.length = m := by have := hr.1; rw [lbs_length] at this; omega
      have OK := Lib.hid t.ok
      have TT := Lib.hid (t.td (s := J) (by omega))
      have hpath := Lib.hid (show pathOf N ls I J = chI ls (dist N ls J) J I by simp [pathOf, hi, hj])
      have E := Lib.hid hi; clear hi
      have F := Lib.hid hj; clear hj hok t
      obtain ⟨i1, hi, hz0, hz1, hz2⟩ := info_parts info_pb
      go_enter Try.func42, Try.ntmps42
      go_wp2_with fail
      refine (impl_isJoint (hr.below (by go_grown)) hm).mono ?_
      rintro e w1 ⟨rfl, hb1⟩
      rw [E.out]
      have hx1 := hx.below hb1
      have q0 := hx1.cell_ (i := 0) rfl
      have q1 := hx1.cell_ (i := 1) rfl
      have hB : Below w.heap.size w w1 := (by go_grown : Below w.heap.size w _).trans (hb1.mono (by simp))
      clear hb1 hx
      go_wp2_with fail
      refine (impl_isJoint (hr.below hB) hm).mono ?_
      rintro e w2 ⟨rfl, hb2⟩
      rw [F.out]
      have hx2 := hx1.below hb2
      have hB2 := hB.trans (hb2.mono hB.size)
      clear hx1 hb2 hB q0 q1
      have q0 := hx2.cell_ (i := 0) rfl
      have q1 := hx2.cell_ (i := 1) rfl
      go_wp2_with fail
      refine (impl_distances (S := J) (hr.below hB2) OK.out (by omega) hm rfl (by omega)).mono ?_
      rintro e w3 ⟨g, rfl, ho, hb3⟩
      obtain ⟨g', rest, e', hg0, _, _, hlr, hrow⟩ := row_of_own ho (by omega)
      injection e' with e'
      injection e' with e' _
      subst e'
      have hrest : rest = [] := List.eq_nil_of_length_eq_zero (by rw [List.length_append, ints_length, tab_length] at hlr; omega)
      subst hrest
      rw [List.append_nil] at hrow
      have hx3 := hx2.below hb3
      have hB3 := hB2.trans (hb3.mono hB2.size)
      have zx := hx2.lt
      have zg := hrow.lt
      have hwg : w.heap.size < g := by omega
      have hNI : I < N := by omega
      have hNJ : J < N := by omega
      have hN : N ≤ 12 := by omega
      clear ho hb3 hx2 q0 q1 hB2 hg0 hlr E F
      generalize dist N ls J = d at *
      have td := TT.out
      have hown0 := own_one w3 3 (.int .i64 (I : Int))
      have CL := Lib.hid (chI_len td hNI)
      have TD0 := Lib.hid td
      clear td TT
      go_wp2
      go_loopw [1, 8] (fun iv ov wr => ∃ (v : Nat) (pre : List Int) (A' : Option Addr) (n' c' : Nat), iv = .int .i64 v ∧ ov = .slice A' n' c' ∧ v < N ∧ chI ls d J I = pre ++ chI ls d J v ∧ n' = pre.length + 1 ∧ wr.ownsRow w3.heap.size 3 1 (.slice A' n' c') n' (ints (pre ++ [(v : Int)])) ∧ Row wr g 3 (ints (tab d N)) ∧ Row wr w.heap.size 24 [.int .i64 N, .slice A m c] ∧ Below w.heap.size w wr ∧ w3.heap.size ≤ wr.heap.size) (fun iv _ _ => (d (intOf iv).toNat).toNat)
      case atStart => exact ⟨I, [], _, 1, 1, rfl, rfl, hNI, rfl, rfl, hown0, hrow.alloc _, hx3.alloc _, hB3.alloc hB3.size _, by simp⟩
      case round =>
        obtain ⟨v, pre, A', n', c', rfl, rfl, hv, hch, hn', hown, hrow2, hbx, hbel, hzz⟩ := hrel
        clear hown0 hrow hx3 hB3
        have hlen2 : n' ≤ 1101 := by
          have h1 := (chI_len TD0.out hv).1
          have h2 := CL.out.2
          rw [hch, List.length_append] at h2
          omega
        have HC := Lib.hid hch
        have HN := Lib.hid hn'
        clear hch hn'
        have q1 := hbx.cell_ (i := 1) rfl
        by_cases hvJ : v = J
        · subst hvJ
          go_wp2
          go_ret
          exact ⟨A', n', c', rfl, by rw [hpath.out, HC.out, chI_root TD0.out]; exact ownsRow_le hown (by omega), by omega, hbel⟩
        obtain ⟨i0, x0, hx0, hp0⟩ := TD0.out.up v hv hvJ
        have e1 : ((v : Int) == (J : Int)) = false := by simp; omega
        have e2 : ((v : Int) != (J : Int)) = true := by simp; omega
        have hi0 : i0 < m := by have := (List.getElem?_eq_some_iff.1 hx0).1; omega
        have X0 := Lib.hid hx0
        have P0 := Lib.hid hp0
        have VJ := Lib.hid hvJ
        clear hx0 hp0 hvJ
        go_wp2
        clear e1 e2 q1
        go_loopw [1, 8, 33] (fun iv ov kv wr => ∃ k : Nat, k ≤ i0 ∧ kv = .int .i64 k ∧ iv = .int .i64 v ∧ ov = .slice A' n' c' ∧ wr.ownsRow w3.heap.size 3 1 (.slice A' n' c') n' (ints (pre ++ [(v : Int)])) ∧ Row wr g 3 (ints (tab d N)) ∧ Row wr w.heap.size 24 [.int .i64 N, .slice A m c] ∧ Below w.heap.size w wr ∧ w3.heap.size ≤ wr.heap.size) (fun _ _ kv _ => m - (intOf kv).toNat)
        case atStart => exact ⟨0, by omega, rfl, rfl, rfl, hown, hrow2, hbx, hbel, hzz⟩
        case round =>
          clear hown hrow2 hbx hbel hzz
          obtain ⟨k, hk, rfl, rfl, rfl, hown, hrow, hbx, hbel, hzz⟩ := hrel
          have hkm : k < m := by omega
          obtain ⟨b, o, x, rfl, hbB, hxk, c0, c1, c2⟩ := (hr.below hbel).lb hkm
          obtain ⟨ea, eb, hp, hq, hne, hl1, hl2⟩ := limb_nat TD0.out.ok hxk
          rw [ea] at c0
          rw [eb] at c1
          have XK := Lib.hid hxk
          clear ea eb hxk
          have dv := TD0.out.nn v hv
          have zb := hbx.lt
          have zr := hrow.lt
          have HR := Lib.hid hrow
          have HB := Lib.hid hbx
          have HO := Lib.hid hown
          have bA := own_blk hown
          clear hrow hbx hown
          by_cases h1 : x.p = v
          · have ho : other x v = x.q := by simp [other, h1]
            have e1 : ((x.p : Int) == (v : Int)) = true := by simp; omega
            have HT := Lib.hid (TD0.out.test (List.mem_of_getElem? XK.out) (.inl h1) ho)
            have HOT := Lib.hid ho
            clear h1 ho
            have dq := TD0.out.nn x.q hq
            have W1 : IntKind.i64.wrap (d x.q + x.l) = d x.q + x.l := IntWalk.i64_in _ (by omega)
            have g0 : decide ((0 : Int) ≤ (x.q : Int)) = true := by simp
            have l1 : (x.q : Int) < (N : Int) := by omega
            have l2 : (v : Int) < (N : Int) := by omega
            cases hpar : par d v x with
            | false =>
              have hki : k < i0 := by
                apply Classical.byContradiction
                intro hc
                obtain rfl : k = i0 := by omega
                have e := XK.out.symm.trans X0.out
                injection e with e
                subst e
                rw [P0.out] at hpar
                cases hpar
              have ef : (d x.q + x.l == d v) = false := by
                have := HT.out
                rw [hpar] at this
                have := of_decide_eq_false this.symm
                simp; omega
              clear hpar
              go_wp2
              have ra := (HR.out).alloc (.cells #[.int .i64 (x.p : Int), .int .i64 (x.q : Int), .int .i64 x.l] 52)
              have rb := (HB.out).alloc (.cells #[.int .i64 (x.p : Int), .int .i64 (x.q : Int), .int .i64 x.l] 52)
              have rn := Row.new wr 52 [.int .i64 (x.p : Int), .int .i64 (x.q : Int), .int .i64 x.l]
              have be := hbel.alloc hbel.size (.cells #[.int .i64 (x.p : Int), .int .i64 (x.q : Int), .int .i64 x.l] 52)
              have HW := Lib.hid ((HO.out).alloc (.cells #[.int .i64 (x.p : Int), .int .i64 (x.q : Int), .int .i64 x.l] 52))
              have zW : wr.heap.size + 1 = (wr.alloc (.cells #[.int .i64 (x.p : Int), .int .i64 (x.q : Int), .int .i64 x.l] 52)).heap.size := by simp
              have zW3 : w3.heap.size ≤ (wr.alloc (.cells #[.int .i64 (x.p : Int), .int .i64 (x.q : Int), .int .i64 x.l] 52)).heap.size := by simp; omega
              clear zW
              generalize wr.alloc (.cells #[.int .i64 (x.p : Int), .int .i64 (x.q : Int), .int .i64 x.l] 52) = W at *
              have ca := ra.tab_at hq
              have cv := ra.tab_at hv
              have l3 := rn.cell_ (i := 2) rfl
              have zn := rn.lt
              have RA := Lib.hid ra
              have RB := Lib.hid rb
              clear ra rb rn
              go_quiet (fail)
              clear W1 ef
              go_wp2
              go_roundw
              case rel => exact ⟨k + 1, by omega, by go_num, rfl, rfl, HW.out, RA.out, RB.out, below_drewN be _, zW3⟩
              case measure => simp [intOf]; omega
            | true =>
              have hsum := HT.out
              rw [hpar] at hsum
              replace hsum := of_decide_eq_true hsum.symm
              have ef : (d x.q + x.l == d v) = true := by simp; omega
              have hstep := chI_step TD0.out hv VJ.out XK.out hpar
              rw [HOT.out] at hstep
              have HST := Lib.hid hstep
              have hlow : d x.q < d v := by omega
              clear hpar hsum hstep
              go_wp2
              have ra := (HR.out).alloc (.cells #[.int .i64 (x.p : Int), .int .i64 (x.q : Int), .int .i64 x.l] 52)
              have rb := (HB.out).alloc (.cells #[.int .i64 (x.p : Int), .int .i64 (x.q : Int), .int .i64 x.l] 52)
              have rn := Row.new wr 52 [.int .i64 (x.p : Int), .int .i64 (x.q : Int), .int .i64 x.l]
              have be := hbel.alloc hbel.size (.cells #[.int .i64 (x.p : Int), .int .i64 (x.q : Int), .int .i64 x.l] 52)
              have HW := Lib.hid ((HO.out).alloc (.cells #[.int .i64 (x.p : Int), .int .i64 (x.q : Int), .int .i64 x.l] 52))
              have zW : wr.heap.size + 1 = (wr.alloc (.cells #[.int .i64 (x.p : Int), .int .i64 (x.q : Int), .int .i64 x.l] 52)).heap.size := by simp
              have zW3 : w3.heap.size ≤ (wr.alloc (.cells #[.int .i64 (x.p : Int), .int .i64 (x.q : Int), .int .i64 x.l] 52)).heap.size := by simp; omega
              clear zW
              generalize wr.alloc (.cells #[.int .i64 (x.p : Int), .int .i64 (x.q : Int), .int .i64 x.l] 52) = W at *
              have ca := ra.tab_at hq
              have cv := ra.tab_at hv
              have l3 := rn.cell_ (i := 2) rfl
              have zn := rn.lt
              have RA := Lib.hid ra
              have RB := Lib.hid rb
              clear ra rb rn
              go_quiet (fail)
              clear W1 ef
              go_wp2_with (at_builtin; refine wp_app rfl _ _ 39 rfl w3.heap.size 3 i1 (.int .i64 0) 1 8 Try.underlying39 hi hz0 hz1 hz2 rfl (by decide) rfl (own_drewN HW.out _) [.int .i64 (x.q : Int)] rfl (by simp [Value.oneCell']) rfl (by simp) (by unfold maxLen; omega) (by omega) zW3 ?_; intro A3 c3 w5 hown5 hg5)
              go_roundw
              case rel => exact ⟨x.q, pre ++ [(v : Int)], A3, n' + 1, c3, rfl, rfl, hq, by rw [HC.out, HST.out]; simp, by rw [HN.out]; simp, by rw [ints_append]; exact hown5, row_apart (RA.out.drewN _) hg5 bA (by omega), row_apart (RB.out.drewN _) hg5 bA (by omega), bel_apart (below_drewN be _) hg5 bA (by omega), Nat.le_trans zW3 hg5.size⟩
              case measure => simp [intOf]; omega
          · have e1 : ((x.p : Int) == (v : Int)) = false := by simp; omega
            by_cases h2 : x.q = v
            · have ho : other x v = x.p := by simp [other, h1]
              have e2 : ((x.q : Int) == (v : Int)) = true := by simp; omega
              have HT := Lib.hid (TD0.out.test (List.mem_of_getElem? XK.out) (.inr h2) ho)
              have HOT := Lib.hid ho
              clear h1 h2 ho
              have dq := TD0.out.nn x.p hp
              have W1 : IntKind.i64.wrap (d x.p + x.l) = d x.p + x.l := IntWalk.i64_in _ (by omega)
              have g0 : decide ((0 : Int) ≤ (x.p : Int)) = true := by simp
              have l1 : (x.p : Int) < (N : Int) := by omega
              have l2 : (v : Int) < (N : Int) := by omega
              cases hpar : par d v x with
              | false =>
                have hki : k < i0 := by
                  apply Classical.byContradiction
                  intro hc
                  obtain rfl : k = i0 := by omega
                  have e := XK.out.symm.trans X0.out
                  injection e with e
                  subst e
                  rw [P0.out] at hpar
                  cases hpar
                have ef : (d x.p + x.l == d v) = false := by
                  have := HT.out
                  rw [hpar] at this
                  have := of_decide_eq_false this.symm
                  simp; omega
                clear hpar
                go_wp2
                have ra := (HR.out).alloc (.cells #[.int .i64 (x.p : Int), .int .i64 (x.q : Int), .int .i64 x.l] 52)
                have rb := (HB.out).alloc (.cells #[.int .i64 (x.p : Int), .int .i64 (x.q : Int), .int .i64 x.l] 52)
                have rn := Row.new wr 52 [.int .i64 (x.p : Int), .int .i64 (x.q : Int), .int .i64 x.l]
                have be := hbel.alloc hbel.size (.cells #[.int .i64 (x.p : Int), .int .i64 (x.q : Int), .int .i64 x.l] 52)
                have HW := Lib.hid ((HO.out).alloc (.cells #[.int .i64 (x.p : Int), .int .i64 (x.q : Int), .int .i64 x.l] 52))
                have zW : wr.heap.size + 1 = (wr.alloc (.cells #[.int .i64 (x.p : Int), .int .i64 (x.q : Int), .int .i64 x.l] 52)).heap.size := by simp
                have zW3 : w3.heap.size ≤ (wr.alloc (.cells #[.int .i64 (x.p : Int), .int .i64 (x.q : Int), .int .i64 x.l] 52)).heap.size := by simp; omega
                clear zW
                generalize wr.alloc (.cells #[.int .i64 (x.p : Int), .int .i64 (x.q : Int), .int .i64 x.l] 52) = W at *
                have ca := ra.tab_at hp
                have cv := ra.tab_at hv
                have l3 := rn.cell_ (i := 2) rfl
                have zn := rn.lt
                have RA := Lib.hid ra
                have RB := Lib.hid rb
                clear ra rb rn
                go_quiet (fail)
                clear W1 ef
                go_wp2
                go_roundw
                case rel => exact ⟨k + 1, by omega, by go_num, rfl, rfl, HW.out, RA.out, RB.out, below_drewN be _, zW3⟩
                case measure => simp [intOf]; omega
              | true =>
                have hsum := HT.out
                rw [hpar] at hsum
                replace hsum := of_decide_eq_true hsum.symm
                have ef : (d x.p + x.l == d v) = true := by simp; omega
                have hstep := chI_step TD0.out hv VJ.out XK.out hpar
                rw [HOT.out] at hstep
                have HST := Lib.hid hstep
                have hlow : d x.p < d v := by omega
                clear hpar hsum hstep
                go_wp2
                have ra := (HR.out).alloc (.cells #[.int .i64 (x.p : Int), .int .i64 (x.q : Int), .int .i64 x.l] 52)
                have rb := (HB.out).alloc (.cells #[.int .i64 (x.p : Int), .int .i64 (x.q : Int), .int .i64 x.l] 52)
                have rn := Row.new wr 52 [.int .i64 (x.p : Int), .int .i64 (x.q : Int), .int .i64 x.l]
                have be := hbel.alloc hbel.size (.cells #[.int .i64 (x.p : Int), .int .i64 (x.q : Int), .int .i64 x.l] 52)
                have HW := Lib.hid ((HO.out).alloc (.cells #[.int .i64 (x.p : Int), .int .i64 (x.q : Int), .int .i64 x.l] 52))
                have zW : wr.heap.size + 1 = (wr.alloc (.cells #[.int .i64 (x.p : Int), .int .i64 (x.q : Int), .int .i64 x.l] 52)).heap.size := by simp
                have zW3 : w3.heap.size ≤ (wr.alloc (.cells #[.int .i64 (x.p : Int), .int .i64 (x.q : Int), .int .i64 x.l] 52)).heap.size := by simp; omega
                clear zW
                generalize wr.alloc (.cells #[.int .i64 (x.p : Int), .int .i64 (x.q : Int), .int .i64 x.l] 52) = W at *
                have ca := ra.tab_at hp
                have cv := ra.tab_at hv
                have l3 := rn.cell_ (i := 2) rfl
                have zn := rn.lt
                have RA := Lib.hid ra
                have RB := Lib.hid rb
                clear ra rb rn
                go_quiet (fail)
                clear W1 ef
                go_wp2_with (at_builtin; refine wp_app rfl _ _ 39 rfl w3.heap.size 3 i1 (.int .i64 0) 1 8 Try.underlying39 hi hz0 hz1 hz2 rfl (by decide) rfl (own_drewN HW.out _) [.int .i64 (x.p : Int)] rfl (by simp [Value.oneCell']) rfl (by simp) (by unfold maxLen; omega) (by omega) zW3 ?_; intro A3 c3 w5 hown5 hg5)
                go_roundw
                case rel => exact ⟨x.p, pre ++ [(v : Int)], A3, n' + 1, c3, rfl, rfl, hp, by rw [HC.out, HST.out]; simp, by rw [HN.out]; simp, by rw [ints_append]; exact hown5, row_apart (RA.out.drewN _) hg5 bA (by omega), row_apart (RB.out.drewN _) hg5 bA (by omega), bel_apart (below_drewN be _) hg5 bA (by omega), Nat.le_trans zW3 hg5.size⟩
                case measure => simp [intOf]; omega
            · have e2 : ((x.q : Int) == (v : Int)) = false := by simp; omega
              have hki : k < i0 := by
                apply Classical.byContradiction
                intro hc
                obtain rfl : k = i0 := by omega
                have e := XK.out.symm.trans X0.out
                injection e with e
                subst e
                rcases par_at P0.out with e | e
                · exact h1 e
                · exact h2 e
              clear h1 h2
              go_wp2
              go_quiet (fail)
              go_wp2
              go_roundw
              case rel => exact ⟨k + 1, by omega, by go_num, rfl, rfl, HO.out.alloc _, HR.out.alloc _, HB.out.alloc _, below_drewN (hbel.alloc hbel.size _) _, by simp; omega⟩
              case measure => simp [intOf]; omega
end Go.Proofs.Ytnghfocboodkhaa
