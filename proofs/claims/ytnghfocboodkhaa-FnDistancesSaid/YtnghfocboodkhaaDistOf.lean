/- Contracts of the reference's DistanceOf and DistancesFrom; no condition beyond the slice's length. -/
import Derived.Test.YtnghfocboodkhaaDistS
namespace Go.Proofs.Ytnghfocboodkhaa
open Go.ChangeShapes Go.WideShapes Go.ChangeAt Go.RowKit Go.Deep Go.Joins
set_option maxRecDepth 100000

def distOf (n : Int) (ls : List Lb) (i j : Int) : Int := if isJ n ls i && isJ n ls j then dist n.toNat ls i.toNat j.toNat else -1
theorem info_intz : (Try.prog.info? 3).map (fun i => (i.zero, i.size, i.bytes)) = some (some (.int .i64 0), 1, 8) := info_int

set_option maxHeartbeats 4000000 in
theorem spec_DistanceOf {n i j : Int} {A : Option Addr} {m c : Nat} {ls : List Lb} {w : World} (hr : Reads w 3 A m (lbs ls)) (hm : m ≤ 1048576) :
    Calls Try.prog 26 #[.agg #[.int .i64 n, .slice A m c], .int .i64 i, .int .i64 j] w fun e w' => e = .returned (.int .i64 (distOf n ls i j)) ∧ Below w.heap.size w w' := by
  have hx := Row.new w 24 [.int .i64 n, .slice A m c]
  cases hb : (isJ n ls i && isJ n ls j) with
  | false =>
    have E := Lib.hid hb; clear hb
    go_enter Try.func26, Try.ntmps26
    go_wp2_with fail
    refine (spec_l03Joints (hr.below (by go_grown)) hm).mono ?_
    rintro e w1 ⟨rfl, hb1⟩
    rw [E.out]
    go_wp2
    go_ret
    exact ⟨ret_int (by simp [distOf, E.out]), (by go_grown : Below w.heap.size w _).trans (hb1.mono (by simp))⟩
  | true =>
    simp only [Bool.and_eq_true] at hb
    obtain ⟨hok, hi1, hi2⟩ := isJ_t hb.1
    obtain ⟨_, hj1, hj2⟩ := isJ_t hb.2
    obtain ⟨h1, h2, h3, t⟩ := tree_of hok
    obtain ⟨N, rfl⟩ := Int.eq_ofNat_of_zero_le (show 0 ≤ n by omega)
    obtain ⟨I, rfl⟩ := Int.eq_ofNat_of_zero_le hi1
    obtain ⟨J, rfl⟩ := Int.eq_ofNat_of_zero_le hj1
    rw [Int.toNat_natCast] at t
    have td := t.td (s := J) (by omega)
    have hfin : distOf N ls I J = dist N ls J I := by
      simp only [distOf, hb.1, hb.2, Bool.and_self, if_true, Int.toNat_natCast]
      exact t.symm (by omega) (by omega)
    obtain ⟨l1, l2, l3⟩ := td.links 2000 I (by omega) (by have := td.nn I (by omega); omega)
    have hnn : ∀ u, u < N → 0 ≤ dist N ls J u ∧ dist N ls J u ≤ 1100 := td.nn
    have hroot := td.root
    have E := Lib.hid hb
    have F := Lib.hid hfin
    have TDH := Lib.hid td
    clear hb hok t hfin td
    obtain ⟨r, er⟩ := chain_cons (ls := ls) (d := dist N ls J) (s := J) I
    have hlenr : (chI ls (dist N ls J) J I).length = (chain ls (dist N ls J) J I).length := by simp [chI]
    generalize hC : chain ls (dist N ls J) J I = C at *
    generalize hD : dist N ls J = d at *
    have HC := Lib.hid hC
    have HD := Lib.hid hD
    have NN := Lib.hid hnn
    have L1 := Lib.hid l1
    have L2 := Lib.hid l2
    have L3 := Lib.hid l3
    have HER := Lib.hid er
    have HR0 := Lib.hid hroot
    have HLR := Lib.hid hlenr
    clear hC hD hnn l1 l2 l3 er hroot hlenr
    go_enter Try.func26, Try.ntmps26
    go_wp2_with fail
    refine (spec_l03Joints (hr.below (by go_grown)) hm).mono ?_
    rintro e w1 ⟨rfl, hb1⟩
    rw [E.out.1, E.out.2]
    have hx1 := hx.below hb1
    have q0 := hx1.cell_ (i := 0) rfl
    have q1 := hx1.cell_ (i := 1) rfl
    have z1 := hx1.lt
    have hB : Below w.heap.size w w1 := (by go_grown : Below w.heap.size w _).trans (hb1.mono (by simp))
    clear hb1 hx
    go_wp2_with fail
    refine (walk_up TDH.out (by omega) 2000 I (by omega) (by have := TDH.out.nn I (by omega); omega) (-1) (fun _ x _ _ => by omega) _ _ _ _ (hr.below hB) hm).mono ?_
    rintro e w2 ⟨A1, n1, c1, rfl, ho, hn, hb2⟩
    have hl := own_len ho
    rw [HLR.out] at hl
    have hx2 := hx1.below hb2
    have hB2 := hB.trans (hb2.mono hB.size)
    have ho2 := Reads.of_own ho
    have HL := Lib.hid hl
    clear q0 q1 z1 hx1 ho hb2 hB hl
    go_wp2
    go_loopw [7, 9] (fun v i wr => ∃ (k u : Nat), k < n1 ∧ i = .int .i64 ((k : Int) + 1) ∧ C[k]? = some u ∧ v = .int .i64 (d I - d u) ∧ Row wr w.heap.size 24 [.int .i64 (N : Int), .slice A m c] ∧ Below w.heap.size w wr ∧ Below w2.heap.size w2 wr) (fun _ i _ => n1 - (intOf i).toNat)
    case atStart =>
      have e1 := HL.out
      have e2 := HER.out
      exact ⟨0, I, by rw [e1, e2]; simp, rfl, by rw [e2]; rfl, by simp, hx2, hB2, Below.refl _ _⟩
    case round =>
      obtain ⟨k, u, hk, rfl, hu, rfl, hbx, hbel, hbel2⟩ := hrel
      clear hx2 hB2
      have huN : u < N := L1.out u (List.mem_of_getElem? hu)
      have hdu := NN.out u huN
      have hdI := NN.out I (by omega)
      by_cases hlt : k + 1 < n1
      · have hex : ∃ u', C[k + 1]? = some u' := by
          have : k + 1 < C.length := by rw [← HL.out]; exact hlt
          exact ⟨C[k + 1], List.getElem?_eq_getElem this⟩
        obtain ⟨u', hu'⟩ := hex
        have hlink : Link N ls d u u' := L2.out k u u' hu hu'
        have hrd := ho2.below hbel2
        obtain ⟨b, o, x, rfl, hbB, hxk, c0⟩ := hrd.int (k := k) hk
        obtain ⟨b', o', x', e', hbB', hxk', c1'⟩ := hrd.int (k := k + 1) hlt
        injection e' with e'
        injection e' with e1 e2 _
        subst e1 e2
        have ex : x = (u : Int) := by
          rw [chI, List.getElem?_map, HC.out, hu] at hxk
          simpa using hxk.symm
        have ex' : x' = (u' : Int) := by
          rw [chI, List.getElem?_map, HC.out, hu'] at hxk'
          simpa using hxk'.symm
        subst ex ex'
        have b0 := hbx.cell_ (i := 0) rfl
        have b1 := hbx.cell_ (i := 1) rfl
        have zx := hbx.lt
        have LK := Lib.hid hlink
        have HU := Lib.hid hu'
        have hdu' := NN.out u' hlink.hv
        have hlt2 := hlink.lt
        have i0 : (0 : Int) ≤ (k : Int) + 1 := by omega
        have i2 : (k : Int) < (n1 : Int) := by omega
        have i3 : (k : Int) + 1 < (n1 : Int) := by omega
        have i4 : IntKind.i64.wrap (k : Int) = (k : Int) := IntWalk.i64_in _ (by omega)
        have i5 : ((k : Int) + 1).toNat = k + 1 := by omega
        have i6 : IntKind.i64.wrap (d I - d u + (d u - d u')) = d I - d u' := by rw [IntWalk.i64_in _ (by omega)]; omega
        have i7 : IntKind.i64.wrap (d I - d u') = d I - d u' := IntWalk.i64_in _ (by omega)
        clear hu hu' hxk hxk' hlink
        go_wp2_with fail
        go_region_held3 (fun w' => w'.cell? ⟨w.heap.size, 0, none⟩ = some (.int .i64 (N : Int)) ∧ w'.cell? ⟨w.heap.size, 1, none⟩ = some (.slice A m c) ∧ w'.cell? ⟨b, o + k, none⟩ = some (.int .i64 (u : Int)) ∧ w'.cell? ⟨b, o + (k + 1), none⟩ = some (.int .i64 (u' : Int)))
          (first | go_keep | exact ⟨k0, k1, k2, k3⟩)
          (first | (go_at_call 59; refine (spec_l03Length (L := d u - d u') ((hr.below hbel).below (below_drewN (Below.refl _ _) _)) hm TDH.out.ok (by omega) LK.out.ne LK.out.all LK.out.ex).mono ?_; rintro e w3 ⟨rfl, hb3⟩; have k0 := keep_cell hb3 b0; have k1 := keep_cell hb3 b1; have k2 := keep_cell hb3 c0; have k3 := keep_cell hb3 c1'))
        clear i4 i5 i6 i7 k0 k1 k2 k3
        have hb4 := below_of_drew hb3
        have hx3 := hbx.below hb4
        have hbel3 := hbel.trans (hb4.mono hbel.size)
        have hbel4 := hbel2.trans (hb4.mono hbel2.size)
        clear hb3 hb4 hbx hbel hbel2 b0 b1 c0 c1'
        go_wp2_with fail
        go_roundw
        case rel => exact ⟨k + 1, u', by omega, by go_num, HU.out, by go_num, hx3, hbel3, hbel4⟩
        case measure => simp [intOf]; omega
      · have hlast : u = J := L3.out k u hu (by rw [List.getElem?_eq_none]; have := HL.out; omega)
        go_wp2
        go_ret
        exact ⟨ret_int (by rw [F.out, hlast, HR0.out]; omega), hbel⟩

/-! ### DistancesFrom -/
def distsFrom (n : Int) (ls : List Lb) (i : Int) : List Int := if isJ n ls i then tab (dist n.toNat ls i.toNat) n.toNat else []
theorem distsFrom_yes {N I : Nat} {ls : List Lb} (h : isJ (N : Int) ls (I : Int) = true) : distsFrom N ls I = tab (dist N ls I) N := by simp [distsFrom, h]
theorem tab_snoc (f : Nat → Int) (k : Nat) : tab f (k + 1) = tab f k ++ [f k] := by simp [tab, List.range_succ]

set_option maxHeartbeats 4000000 in
theorem spec_DistancesFrom {n i : Int} {A : Option Addr} {m c : Nat} {ls : List Lb} {w : World} (hr : Reads w 3 A m (lbs ls)) (hm : m ≤ 1048576) :
    Calls Try.prog 43 #[.agg #[.int .i64 n, .slice A m c], .int .i64 i] w fun e w' => ∃ A' n' c', e = .returned (.slice A' n' c') ∧ w'.ownsRow w.heap.size 3 1 (.slice A' n' c') n' (ints (distsFrom n ls i)) ∧ n' ≤ 1048576 ∧ Below w.heap.size w w' := by
  have hx := (Row.new w 24 [.int .i64 n, .slice A m c]).alloc (.cells #[] 3)
  have ho := own_empty (w.alloc (.cells #[.int .i64 n, .slice A m c] 24)) 3 1
  rw [World.size_alloc] at ho
  cases hb : isJ n ls i with
  | false =>
    have E := Lib.hid hb; clear hb
    by_cases hn0 : 0 < n
    · go_enter Try.func43, Try.ntmps43
      go_wp2
      refine wp_loop_rounds 1 ?_
      rw [rounds_succ]
      go_wp2_with (go_at_call 57; refine (spec_l03Joints (hr.below (by go_grown)) hm).mono ?_; rintro e w1 ⟨rfl, hb1⟩; rw [E.out])
      go_ret
      exact ⟨_, 0, 0, rfl, by rw [show distsFrom n ls i = [] by simp [distsFrom, E.out]]; exact own_below (ownsRow_le ho (by omega)) hb1, by omega, (by go_grown : Below w.heap.size w _).trans (hb1.mono (by simp; omega))⟩
    · go_enter Try.func43, Try.ntmps43
      go_wp2
      refine wp_loop_rounds 1 ?_
      rw [rounds_succ]
      go_wp2
      go_ret
      exact ⟨_, 0, 0, rfl, by rw [show distsFrom n ls i = [] by simp [distsFrom, E.out]]; exact ownsRow_le ho (by omega), by omega, by go_grown⟩
  | true =>
    obtain ⟨hok, hi1, hi2⟩ := isJ_t hb
    obtain ⟨h1, h2, h3, _⟩ := tree_of hok
    obtain ⟨N, rfl⟩ := Int.eq_ofNat_of_zero_le (show 0 ≤ n by omega)
    obtain ⟨I, rfl⟩ := Int.eq_ofNat_of_zero_le hi1
    have E := Lib.hid hb
    have K := Lib.hid hok
    clear hb hok
    obtain ⟨i0, hi, hz0, hz1, hz2⟩ := info_parts info_int
    go_enter Try.func43, Try.ntmps43
    go_wp2
    go_loopw [5, 6] (fun v i wr => ∃ (k : Nat) (A' : Option Addr) (n' c' : Nat), k ≤ N ∧ i = .int .i64 k ∧ v = .slice A' n' c' ∧ n' ≤ k ∧ wr.ownsRow (w.heap.size + 1) 3 1 (.slice A' n' c') n' (ints (tab (dist N ls I) k)) ∧ Row wr w.heap.size 24 [.int .i64 N, .slice A m c] ∧ Below w.heap.size w wr) (fun _ i _ => N - (intOf i).toNat)
    case atStart => exact ⟨0, _, 0, 0, by omega, rfl, rfl, by omega, ho, hx, by go_grown⟩
    case round =>
      obtain ⟨k, A', n', c', hk, rfl, rfl, hn', hown, hbx, hbel⟩ := hrel
      have q0 := hbx.cell_ (i := 0) rfl
      have q1 := hbx.cell_ (i := 1) rfl
      have zx := hbx.lt
      clear hx ho
      by_cases hlt : k < N
      · go_wp2_with fail
        refine (spec_l03Joints (hr.below hbel) hm).mono ?_
        rintro e w1 ⟨rfl, hb1⟩
        rw [E.out]
        have hbx1 := hbx.below hb1
        have hown1 := own_below hown hb1
        have hbel1 := hbel.trans (hb1.mono hbel.size)
        clear hb1 q0 q1 zx hbx hown hbel
        have q0 := hbx1.cell_ (i := 0) rfl
        have q1 := hbx1.cell_ (i := 1) rfl
        go_wp2_with fail
        refine (spec_DistanceOf (hr.below hbel1) hm).mono ?_
        rintro e w2 ⟨rfl, hb2⟩
        rw [show distOf (N : Int) ls (I : Int) (k : Int) = dist N ls I k by
          have hk2 : isJ (N : Int) ls (k : Int) = true := by simp [isJ, K.out]; omega
          simp [distOf, E.out, hk2]]
        have hbx2 := hbx1.below hb2
        have hown2 := own_below hown1 hb2
        have hbel2 := hbel1.trans (hb2.mono hbel1.size)
        have HB := Lib.hid hbx2
        have zy := hbx2.lt
        have bA := own_blk hown2
        clear hb2 q0 q1 hbx1 hown1 hbel1 hbx2
        have HT := Lib.hid (tab_snoc (dist N ls I) k)
        generalize dist N ls I k = dk at *
        go_wp2_with (at_builtin; refine wp_app rfl _ _ 39 rfl (w.heap.size + 1) 3 i0 (.int .i64 0) 1 8 Try.underlying39 hi hz0 hz1 hz2 rfl (by decide) rfl hown2 [.int .i64 dk] rfl (by simp [Value.oneCell']) rfl (by simp) (by unfold maxLen; omega) (by omega) (by omega) ?_; intro A3 c3 w3 hown3 hg3)
        go_roundw
        case rel => exact ⟨k + 1, A3, n' + 1, c3, by omega, by go_num, rfl, by omega, by rw [HT.out, ints_append]; exact hown3, row_apart HB.out hg3 bA (by omega), bel_apart hbel2 hg3 bA (by omega)⟩
        case measure => simp [intOf]; omega
      · obtain rfl : k = N := by omega
        go_wp2
        go_ret
        exact ⟨A', n', c', rfl, by rw [distsFrom_yes E.out]; exact ownsRow_le hown (by omega), by omega, hbel⟩
end Go.Proofs.Ytnghfocboodkhaa
