/- Contracts of SlackStrings and LowestPoint of both sides; no condition beyond the slices' lengths. -/
import Derived.Test.YtbgdnlcjliaigaaHangS
import Derived.Test.YtbgdnlcjliaigaaKit3
namespace Go.Proofs.Ytbgdnlcjliaigaa
open Go.ChangeShapes Go.WideShapes Go.ChangeAt Go.RowKit Go.Deep Go.Joins
set_option maxRecDepth 100000

def slackB (ps hs : List Int) (k : Nat) : Bool := match ps[k]?, hs[k]? with | some p, some h => decide (0 ≤ p ∧ p < h) | _, _ => false
theorem slackB_at {ps hs : List Int} {k : Nat} {p h : Int} (hp : ps[k]? = some p) (hh : hs[k]? = some h) : slackB ps hs k = decide (0 ≤ p ∧ p < h) := by simp [slackB, hp, hh]
def slackTo (ps hs : List Int) (k : Nat) : List Int := ((List.range k).filter (slackB ps hs)).map fun j : Nat => (j : Int)
theorem slackTo_yes {ps hs : List Int} {k : Nat} (h : slackB ps hs k = true) : slackTo ps hs (k + 1) = slackTo ps hs k ++ [(k : Int)] := by simp [slackTo, List.range_succ, h]
theorem slackTo_no {ps hs : List Int} {k : Nat} (h : slackB ps hs k = false) : slackTo ps hs (k + 1) = slackTo ps hs k := by simp [slackTo, List.range_succ, h]
def slackS (n : Int) (ls : List Lb) (ps : List Int) : List Int := if pullsOk n ls ps then slackTo ps (tab (hangF n.toNat ls ps) n.toNat) n.toNat else []
theorem slackS_yes {N : Nat} {ls : List Lb} {ps : List Int} (h : pullsOk (N : Int) ls ps = true) : slackS N ls ps = slackTo ps (tab (hangF N ls ps) N) N := by simp [slackS, h]
theorem slackS_no {n : Int} {ls : List Lb} {ps : List Int} (h : pullsOk n ls ps = false) : slackS n ls ps = [] := by simp [slackS, h]

set_option maxHeartbeats 4000000 in
theorem impl_SlackStrings {n : Int} {A B : Option Addr} {m c q d : Nat} {ls : List Lb} {ps : List Int} {w : World} (hr : Reads w 3 A m (lbs ls)) (hm : m ≤ 1048576) (hp : Reads w 1 B q (ints ps)) (hq : q ≤ 1048576) :
    Calls Try.prog 32 #[.agg #[.int .i64 n, .slice A m c], .slice B q d] w fun e w' => ∃ A' n' c', e = .returned (.slice A' n' c') ∧ w'.ownsRow w.heap.size 3 1 (.slice A' n' c') n' (ints (slackS n ls ps)) ∧ n' ≤ 1048576 ∧ Below w.heap.size w w' := by
  have hlp := hp.len
  have hx := Row.new w 30 [.int .i64 n, .slice A m c]
  have hg0 : Below w.heap.size w (w.alloc (.cells #[.int .i64 n, .slice A m c] 30)) := by go_grown
  cases hb : pullsOk n ls ps with
  | false =>
    have E := Lib.hid hb
    have S := Lib.hid (slackS_no hb)
    clear hb
    go_enter Try.func32, Try.ntmps32
    go_wp2_with fail
    refine (impl_PullsOk (hr.below hg0) hm (hp.below hg0) hq).mono ?_
    rintro e w1 ⟨rfl, hb1⟩
    rw [E.out]
    go_wp2
    go_ret
    exact ⟨none, 0, 0, rfl, by rw [S.out]; exact World.ownsRow_nil _ _ _ _, by omega, hg0.trans (hb1.mono (by simp))⟩
  | true =>
    have hf := pullsFacts hb
    obtain ⟨b1, b2, b3, t⟩ := tree_of hf.body
    obtain ⟨N, rfl⟩ := Int.eq_ofNat_of_zero_le (show 0 ≤ n by omega)
    obtain rfl : q = N := by have := hf.len; omega
    have I := Lib.hid hf.rng
    have E := Lib.hid hb
    have S := Lib.hid (slackS_yes hb)
    have HH := Lib.hid (hangPose_yes hb)
    obtain ⟨i0, hi, hz0, hz1, hz2⟩ := info_parts info_int
    clear hb hf t
    go_enter Try.func32, Try.ntmps32
    go_wp2_with fail
    refine (impl_PullsOk (hr.below hg0) hm (hp.below hg0) hq).mono ?_
    rintro e w1 ⟨rfl, hb1⟩
    rw [E.out]
    have hx1 := (hx.below hb1).alloc (.cells #[] 3)
    have hB1 : Below w.heap.size w w1 := hg0.trans (hb1.mono (by simp))
    have hB : Below w.heap.size w (w1.alloc (.cells #[] 3)) := hB1.alloc hB1.size _
    have ho := own_empty w1 3 1
    have z0 := hB1.size
    clear hb1 hx hg0
    have q0 := hx1.cell_ (i := 0) rfl
    have q1 := hx1.cell_ (i := 1) rfl
    go_wp2_with fail
    refine (impl_HangPose (hr.below hB) hm (hp.below hB) hq).mono ?_
    rintro e w2 ⟨A2, n2, c2, rfl, hown2, hn2, hb2⟩
    rw [HH.out] at hown2
    obtain rfl : q = n2 := by have := own_len hown2; rw [tab_length] at this; omega
    have ho2 := own_below ho hb2
    have hB2 := hB.trans (hb2.mono hB.size)
    have zA := own_blk hown2
    have z2 : w1.heap.size + 1 ≤ w2.heap.size := by have := hb2.size; simp at this; omega
    have z1 : w1.heap.size + 1 ≤ (w1.alloc (.cells #[] 3)).heap.size := by simp
    obtain ⟨g2, rfl, hbg2, hgl2⟩ := own_form hown2 (by omega)
    have hrd := Reads.of_own hown2
    have hof : Off (some ⟨w1.heap.size, 0, none⟩) g2 := fun a ha => by cases ha; simp; omega
    clear hown2 ho q0 q1 hb2 zA
    go_wp2
    go_loopw [5, 17] (fun v i wr => ∃ (k n' c' : Nat) (A' : Option Addr), k ≤ q ∧ n' ≤ k ∧ i = .int .i64 k ∧ v = .slice A' n' c' ∧ wr.ownsRow w1.heap.size 3 1 (.slice A' n' c') n' (ints (slackTo ps (tab (hangF q ls ps) q) k)) ∧ Off A' g2 ∧ Reads wr 1 (some ⟨g2, 0, none⟩) q (ints (tab (hangF q ls ps) q)) ∧ g2 < wr.heap.size ∧ w1.heap.size ≤ wr.heap.size ∧ Below w.heap.size w wr) (fun _ i _ => q - (intOf i).toNat)
    case atStart => exact ⟨0, 0, 0, _, by omega, by omega, rfl, rfl, ho2, hof, hrd, hgl2, by omega, hB2⟩
    case round =>
      clear ho2 hrd hof hgl2 z2 hB hB2
      obtain ⟨k, n', c', A', hk, hn', rfl, rfl, hown, hoff, hrd, hgl, zw, hbel⟩ := hrel
      by_cases hlt : k < q
      · obtain ⟨b, o, p, rfl, hbB, hpk, c0⟩ := (hp.below hbel).int hlt
        obtain ⟨b', o', h, e', hbB', hhk, c1⟩ := hrd.int hlt
        injection e' with e'
        injection e' with e1 e2
        subst e1 e2
        simp only [Nat.zero_add] at c1
        obtain ⟨p1, p2⟩ := inAll_at I.out hpk
        have HS := Lib.hid (slackB_at hpk hhk)
        clear hpk hhk
        have lk : (k : Int) < (q : Int) := by omega
        have HR := Lib.hid hrd
        have HOF := Lib.hid hoff
        have bA := own_blk hown
        clear hrd hoff
        by_cases hpm : p = -1
        · have e1 : (p == -1) = true := by simp [hpm]
          have e2 : (p != -1) = false := by simp [hpm]
          have HN := Lib.hid (slackTo_no (ps := ps) (hs := tab (hangF q ls ps) q) (k := k) (by rw [HS.out]; exact decide_eq_false (by omega)))
          clear hpm
          go_wp2
          go_roundw
          case rel => exact ⟨k + 1, n', c', A', by omega, by omega, by go_num, rfl, by rw [HN.out]; exact hown, HOF.out, HR.out, hgl, zw, hbel⟩
          case measure => simp [intOf]; omega
        · have e1 : (p == -1) = false := by simp [hpm]
          have e2 : (p != -1) = true := by simp [hpm]
          have p0 : 0 ≤ p := by omega
          clear hpm
          by_cases hhp : p < h
          · have HN := Lib.hid (slackTo_yes (ps := ps) (hs := tab (hangF q ls ps) q) (k := k) (by rw [HS.out]; exact decide_eq_true ⟨p0, hhp⟩))
            go_wp2_with (at_builtin; refine wp_app_off wr rfl _ _ 25 rfl w1.heap.size 3 i0 (.int .i64 0) 1 8 Try.underlying25 hi hz0 hz1 hz2 rfl (by decide) rfl hown [.int .i64 (k : Int)] rfl (by simp [Value.oneCell']) rfl (by simp) (by unfold maxLen; omega) (by omega) zw rfl ?_; intro g3 c3 w3 hown3 hg3 hof3)
            have hz3 := hg3.size
            go_roundw
            case rel => exact ⟨k + 1, n' + 1, c3, _, by omega, by omega, by go_num, rfl, by rw [HN.out, ints_append]; exact hown3, hof3 _ hgl HOF.out, HR.out.off hg3 (fun b o e => by cases e; exact HOF.out), by omega, by omega, bel_apart hbel hg3 bA (by omega)⟩
            case measure => simp [intOf]; omega
          · have HN := Lib.hid (slackTo_no (ps := ps) (hs := tab (hangF q ls ps) q) (k := k) (by rw [HS.out]; exact decide_eq_false (by omega)))
            go_wp2
            go_roundw
            case rel => exact ⟨k + 1, n', c', A', by omega, by omega, by go_num, rfl, by rw [HN.out]; exact hown, HOF.out, HR.out, hgl, zw, hbel⟩
            case measure => simp [intOf]; omega
      · obtain rfl : k = q := by omega
        go_wp2
        go_ret
        exact ⟨A', n', c', rfl, by rw [S.out]; exact ownsRow_le hown (by omega), by omega, hbel⟩
end Go.Proofs.Ytbgdnlcjliaigaa
