/- Contracts of the reference's SlackStrings and of LowestPoint of both sides; no condition beyond the slices' lengths. -/
import Derived.Test.YtbgdnlcjliaigaaSlack
namespace Go.Proofs.Ytbgdnlcjliaigaa
open Go.ChangeShapes Go.WideShapes Go.ChangeAt Go.RowKit Go.Deep Go.Joins
set_option maxRecDepth 100000

theorem slack_gen {n : Int} {ls : List Lb} {ps : List Int} : slackS n ls ps = slackTo ps (hangPose n ls ps) (hangPose n ls ps).length := by
  cases h : pullsOk n ls ps with
  | false => rw [slackS_no h, hangPose_no h]; rfl
  | true =>
    obtain ⟨h1, h2, _, _⟩ := tree_of (pullsFacts h).body
    obtain ⟨N, rfl⟩ := Int.eq_ofNat_of_zero_le (show 0 ≤ n by omega)
    rw [slackS_yes h, hangPose_yes h, tab_length]
theorem hang_len {n : Int} {ls : List Lb} {ps : List Int} : (hangPose n ls ps).length ≤ ps.length := by
  cases h : pullsOk n ls ps with
  | false => rw [hangPose_no h]; simp
  | true =>
    have h3 := pullsFacts h
    obtain ⟨h1, h2, _, _⟩ := tree_of h3.body
    obtain ⟨N, rfl⟩ := Int.eq_ofNat_of_zero_le (show 0 ≤ n by omega)
    rw [hangPose_yes h, tab_length]
    have := h3.len
    omega

set_option maxHeartbeats 4000000 in
theorem spec_SlackStrings {n : Int} {A B : Option Addr} {m c q d : Nat} {ls : List Lb} {ps : List Int} {w : World} (hr : Reads w 3 A m (lbs ls)) (hm : m ≤ 1048576) (hp : Reads w 1 B q (ints ps)) (hq : q ≤ 1048576) :
    Calls Try.prog 31 #[.agg #[.int .i64 n, .slice A m c], .slice B q d] w fun e w' => ∃ A' n' c', e = .returned (.slice A' n' c') ∧ w'.ownsRow w.heap.size 3 1 (.slice A' n' c') n' (ints (slackS n ls ps)) ∧ n' ≤ 1048576 ∧ Below w.heap.size w w' := by
  have hlp := hp.len
  have ho : ((w.alloc (.cells #[.int .i64 n, .slice A m c] 30)).alloc (.cells #[] 3)).ownsRow (w.heap.size + 1) 3 1 (.slice (some ⟨w.heap.size + 1, 0, none⟩) 0 0) 0 [] := by simpa using own_empty (w.alloc (.cells #[.int .i64 n, .slice A m c] 30)) 3 1
  have hg0 : Below w.heap.size w ((w.alloc (.cells #[.int .i64 n, .slice A m c] 30)).alloc (.cells #[] 3)) := by go_grown
  have hL := hang_len (n := n) (ls := ls) (ps := ps)
  have S := Lib.hid (slack_gen (n := n) (ls := ls) (ps := ps))
  obtain ⟨i0, hi, hz0, hz1, hz2⟩ := info_parts info_int
  generalize hLL : hangPose n ls ps = L at S hL
  have HL := Lib.hid hLL
  clear hLL
  go_enter Try.func31, Try.ntmps31
  go_wp2_with fail
  refine (spec_HangPose (hr.below hg0) hm (hp.below hg0) hq).mono ?_
  rintro e w2 ⟨A2, n2, c2, rfl, hown2, hn2, hb2⟩
  rw [HL.out] at hown2
  have hl2 := own_len hown2
  have ho2 := own_below ho hb2
  have hB2 := hg0.trans (hb2.mono hg0.size)
  have bA2 := own_blk hown2
  have hrd := Reads.of_own hown2
  have z2 := hb2.size
  simp at z2
  have hof : ∀ b o, A2 = some ⟨b, o, none⟩ → Off (some ⟨w.heap.size + 1, 0, none⟩) b := fun b o e a ha => by cases ha; have := bA2 _ e; simp at this; simp; omega
  have hgl : ∀ b o, A2 = some ⟨b, o, none⟩ → b < w2.heap.size := fun b o e => (bA2 _ e).2
  clear hown2 ho hb2 bA2 hg0
  go_wp2
  go_loopw [5, 7] (fun v i wr => ∃ (k n' c' : Nat) (A' : Option Addr), k ≤ n2 ∧ n' ≤ k ∧ i = .int .i64 k ∧ v = .slice A' n' c' ∧ wr.ownsRow (w.heap.size + 1) 3 1 (.slice A' n' c') n' (ints (slackTo ps L k)) ∧ (∀ b o, A2 = some ⟨b, o, none⟩ → Off A' b) ∧ Reads wr 1 A2 n2 (ints L) ∧ (∀ b o, A2 = some ⟨b, o, none⟩ → b < wr.heap.size) ∧ w.heap.size + 1 ≤ wr.heap.size ∧ Below w.heap.size w wr) (fun _ i _ => n2 - (intOf i).toNat)
  case atStart => exact ⟨0, 0, 0, _, by omega, by omega, rfl, rfl, ho2, hof, hrd, hgl, by omega, hB2⟩
  case round =>
    clear ho2 hrd hof hgl z2 hB2
    obtain ⟨k, n', c', A', hk, hn', rfl, rfl, hown, hoff, hrd, hgl, zw, hbel⟩ := hrel
    have HR := Lib.hid hrd
    have HOF := Lib.hid hoff
    have HG := Lib.hid hgl
    have bA := own_blk hown
    by_cases hlt : k < n2
    · obtain ⟨b, o, p, rfl, hbB, hpk, c0⟩ := (hp.below hbel).int (show k < q by omega)
      obtain ⟨b', o', h, rfl, hbB', hhk, c1⟩ := hrd.int hlt
      have HS := Lib.hid (slackB_at hpk hhk)
      clear hpk hhk hrd hoff hgl
      have lk : (k : Int) < (n2 : Int) := by omega
      have lq : (k : Int) < (q : Int) := by omega
      by_cases hp0 : 0 ≤ p
      · by_cases hhp : p < h
        · have HN := Lib.hid (slackTo_yes (ps := ps) (hs := L) (k := k) (by rw [HS.out]; exact decide_eq_true ⟨hp0, hhp⟩))
          go_wp2
          go_quiet (fail)
          clear c0 c1
          go_wp2_with (at_builtin; refine wp_app_off _ rfl _ _ 25 rfl (w.heap.size + 1) 3 i0 (.int .i64 0) 1 8 Try.underlying25 hi hz0 hz1 hz2 rfl (by decide) rfl (own_drewN hown _) [.int .i64 (k : Int)] rfl (by simp [Value.oneCell']) rfl rfl (by unfold maxLen; omega) (by omega) zw rfl ?_; intro g3 c3 w3 hown3 hg3 hof3)
          have hz3 := hg3.size
          simp at hz3
          go_roundw
          case rel => exact ⟨k + 1, n' + 1, c3, _, by omega, by omega, by go_num, rfl, by rw [HN.out, ints_append]; exact hown3, fun b o e => hof3 _ (HG.out b o e) (HOF.out b o e), (HR.out.drewN _).off hg3 HOF.out, fun b o e => Nat.lt_of_lt_of_le (HG.out b o e) (by omega), by omega, bel_apart (below_drewN hbel _) hg3 bA (by omega)⟩
          case measure => simp [intOf]; omega
        · have HN := Lib.hid (slackTo_no (ps := ps) (hs := L) (k := k) (by rw [HS.out]; exact decide_eq_false (by omega)))
          go_wp2
          go_quiet (fail)
          go_wp2
          go_roundw
          case rel => exact ⟨k + 1, n', c', A', by omega, by omega, by go_num, rfl, by rw [HN.out]; exact own_drewN hown _, HOF.out, HR.out.drewN _, HG.out, zw, below_drewN hbel _⟩
          case measure => simp [intOf]; omega
      · have hd : decide (0 ≤ p) = false := by simpa using hp0
        have HN := Lib.hid (slackTo_no (ps := ps) (hs := L) (k := k) (by rw [HS.out]; exact decide_eq_false (by omega)))
        go_wp2
        go_quiet (fail)
        go_wp2
        go_roundw
        case rel => exact ⟨k + 1, n', c', A', by omega, by omega, by go_num, rfl, by rw [HN.out]; exact own_drewN hown _, HOF.out, HR.out.drewN _, HG.out, zw, below_drewN hbel _⟩
        case measure => simp [intOf]; omega
    · obtain rfl : k = n2 := by omega
      go_wp2
      go_ret
      exact ⟨A', n', c', rfl, by rw [S.out, ← hl2]; exact ownsRow_le hown (by omega), by omega, hbel⟩

def lowTo (L : List Int) (k : Nat) : Int := (L.take k).foldl min (L.headD 0)
theorem lowTo_step {L : List Int} {k : Nat} {x : Int} (hx : L[k]? = some x) : lowTo L (k + 1) = min (lowTo L k) x := by simp [lowTo, take_snoc hx]
theorem fold_min (L : List Int) : ∀ a : Int, L.foldl min a ≤ a ∧ (∀ x ∈ L, L.foldl min a ≤ x) ∧ (L.foldl min a = a ∨ L.foldl min a ∈ L) := by
  induction L with
  | nil => intro a; simp
  | cons y ys ih =>
    intro a
    obtain ⟨h1, h2, h3⟩ := ih (min a y)
    simp only [List.foldl_cons]
    refine ⟨by omega, fun x hx => ?_, ?_⟩
    · rcases List.mem_cons.1 hx with rfl | hx
      · omega
      · exact h2 x hx
    · rcases h3 with h3 | h3
      · by_cases h : a ≤ y
        · left; omega
        · right; simp; left; omega
      · right; simp [h3]
theorem low_sorted {L : List Int} {x : Int} (hx : (sortL L)[0]? = some x) : x = lowTo L L.length := by
  cases L with
  | nil => simp [sortL, sortTo] at hx
  | cons y ys =>
    obtain ⟨h1, h2, h3⟩ := fold_min (y :: ys) y
    have hl : lowTo (y :: ys) (y :: ys).length = (y :: ys).foldl min y := by simp [lowTo]
    rw [hl]
    generalize hf : (y :: ys).foldl min y = f at h1 h2 h3
    have hm : f ∈ y :: ys := by
      rcases h3 with h3 | h3
      · rw [h3]; simp
      · exact h3
    have hxm : x ∈ y :: ys := (sortL_perm _).mem_iff.1 (List.mem_of_getElem? hx)
    have a1 := h2 x hxm
    have a2 : x ≤ f := by
      have hms := (sortL_perm (y :: ys)).mem_iff.2 hm
      obtain ⟨i, hi⟩ := List.getElem?_of_mem hms
      rcases Nat.eq_zero_or_pos i with h0 | h0
      · subst h0; rw [hx] at hi; injection hi with hi; omega
      · have e1 := List.getElem?_eq_some_iff.1 hx
        have e2 := List.getElem?_eq_some_iff.1 hi
        have := List.pairwise_iff_getElem.1 (sortL_up (y :: ys)) 0 i e1.1 e2.1 h0
        rw [e1.2, e2.2] at this
        exact this
    omega
theorem lowTo_one {L : List Int} {x : Int} (hx : L[0]? = some x) : lowTo L 0 = x := by
  cases L with
  | nil => simp at hx
  | cons y ys => simpa [lowTo] using hx
def lowS (n : Int) (ls : List Lb) (ps : List Int) : Int := if pullsOk n ls ps then lowTo (hangPose n ls ps) (hangPose n ls ps).length else -2001
theorem lowS_yes {n : Int} {ls : List Lb} {ps : List Int} (h : pullsOk n ls ps = true) : lowS n ls ps = lowTo (hangPose n ls ps) (hangPose n ls ps).length := by simp [lowS, h]
theorem lowS_no {n : Int} {ls : List Lb} {ps : List Int} (h : pullsOk n ls ps = false) : lowS n ls ps = -2001 := by simp [lowS, h]
theorem hang_yes_len {n : Int} {ls : List Lb} {ps : List Int} (h : pullsOk n ls ps = true) : 1 ≤ (hangPose n ls ps).length ∧ (hangPose n ls ps).length ≤ 12 := by
  obtain ⟨h1, h2, _, _⟩ := tree_of (pullsFacts h).body
  obtain ⟨N, rfl⟩ := Int.eq_ofNat_of_zero_le (show 0 ≤ n by omega)
  rw [hangPose_yes h, tab_length]
  omega

set_option maxHeartbeats 4000000 in
theorem impl_LowestPoint {n : Int} {A B : Option Addr} {m c q d : Nat} {ls : List Lb} {ps : List Int} {w : World} (hr : Reads w 3 A m (lbs ls)) (hm : m ≤ 1048576) (hp : Reads w 1 B q (ints ps)) (hq : q ≤ 1048576) :
    Calls Try.prog 30 #[.agg #[.int .i64 n, .slice A m c], .slice B q d] w fun e w' => e = .returned (.int .i64 (lowS n ls ps)) ∧ Below w.heap.size w w' := by
  have hx := Row.new w 30 [.int .i64 n, .slice A m c]
  have hg0 : Below w.heap.size w (w.alloc (.cells #[.int .i64 n, .slice A m c] 30)) := by go_grown
  cases hb : pullsOk n ls ps with
  | false =>
    have E := Lib.hid hb
    have S := Lib.hid (lowS_no hb)
    clear hb
    go_enter Try.func30, Try.ntmps30
    go_wp2_with fail
    refine (impl_PullsOk (hr.below hg0) hm (hp.below hg0) hq).mono ?_
    rintro e w1 ⟨rfl, hb1⟩
    rw [E.out]
    go_wp2
    go_ret
    exact ⟨ret_int S.out.symm, hg0.trans (hb1.mono (by simp))⟩
  | true =>
    have hl := hang_yes_len hb
    have E := Lib.hid hb
    have S := Lib.hid (lowS_yes hb)
    clear hb
    generalize hLL : hangPose n ls ps = L at S hl
    have HL := Lib.hid hLL
    clear hLL
    go_enter Try.func30, Try.ntmps30
    go_wp2_with fail
    refine (impl_PullsOk (hr.below hg0) hm (hp.below hg0) hq).mono ?_
    rintro e w1 ⟨rfl, hb1⟩
    rw [E.out]
    have q0 := (hx.below hb1).cell_ (i := 0) rfl
    have q1 := (hx.below hb1).cell_ (i := 1) rfl
    have hB : Below w.heap.size w w1 := hg0.trans (hb1.mono (by simp))
    clear hb1 hx hg0
    go_wp2_with fail
    refine (impl_HangPose (hr.below hB) hm (hp.below hB) hq).mono ?_
    rintro e w2 ⟨A2, n2, c2, rfl, hown2, hn2, hb2⟩
    rw [HL.out] at hown2
    have hB2 := hB.trans (hb2.mono hB.size)
    clear hb2 q0 q1 hB
    go_wp2_with fail
    refine (impl_sorted (Reads.of_own hown2) hn2).mono ?_
    rintro e w3 ⟨A3, n3, c3, rfl, hown3, hn3, hb3⟩
    have hB3 := hB2.trans (hb3.mono hB2.size)
    have hl3 := own_len hown3
    rw [sortL_len] at hl3
    obtain ⟨b, o, x, rfl, hbB, hx0, c0⟩ := (Reads.of_own hown3).int (show 0 < n3 by omega)
    have LS := Lib.hid (low_sorted hx0)
    have l3 : (0 : Int) < (n3 : Int) := by omega
    have l3' : 0 < n3 := by omega
    simp only [Nat.add_zero] at c0
    clear hx0 hown3 hown2 hb3
    go_wp2
    go_ret
    exact ⟨ret_int (by rw [S.out, LS.out]), hB3⟩

set_option maxHeartbeats 4000000 in
theorem spec_LowestPoint {n : Int} {A B : Option Addr} {m c q d : Nat} {ls : List Lb} {ps : List Int} {w : World} (hr : Reads w 3 A m (lbs ls)) (hm : m ≤ 1048576) (hp : Reads w 1 B q (ints ps)) (hq : q ≤ 1048576) :
    Calls Try.prog 29 #[.agg #[.int .i64 n, .slice A m c], .slice B q d] w fun e w' => e = .returned (.int .i64 (lowS n ls ps)) ∧ Below w.heap.size w w' := by
  have hg0 : Below w.heap.size w (w.alloc (.cells #[.int .i64 n, .slice A m c] 30)) := by go_grown
  cases hb : pullsOk n ls ps with
  | false =>
    have S := Lib.hid (lowS_no hb)
    have HL := Lib.hid (hangPose_no hb)
    clear hb
    go_enter Try.func29, Try.ntmps29
    go_wp2_with fail
    refine (spec_HangPose (hr.below hg0) hm (hp.below hg0) hq).mono ?_
    rintro e w2 ⟨A2, n2, c2, rfl, hown2, hn2, hb2⟩
    rw [HL.out] at hown2
    obtain rfl : n2 = 0 := by have := own_len hown2; simpa using this
    go_wp2
    go_ret
    exact ⟨ret_int S.out.symm, hg0.trans (hb2.mono (by simp))⟩
  | true =>
    have hl := hang_yes_len hb
    have S := Lib.hid (lowS_yes hb)
    clear hb
    generalize hLL : hangPose n ls ps = L at S hl
    have HL := Lib.hid hLL
    clear hLL
    go_enter Try.func29, Try.ntmps29
    go_wp2_with fail
    refine (spec_HangPose (hr.below hg0) hm (hp.below hg0) hq).mono ?_
    rintro e w2 ⟨A2, n2, c2, rfl, hown2, hn2, hb2⟩
    rw [HL.out] at hown2
    have hB2 := hg0.trans (hb2.mono (by simp))
    have hl2 := own_len hown2
    have hrd := Reads.of_own hown2
    obtain ⟨b, o, x, rfl, hbB, hx0, c0⟩ := hrd.int (show 0 < n2 by omega)
    have L0 := Lib.hid (lowTo_one hx0)
    have l3 : (0 : Int) < (n2 : Int) := by omega
    have l3' : 0 < n2 := by omega
    have e1 : ((n2 : Int) == 0) = false := by simp; omega
    simp only [Nat.add_zero] at c0
    clear hx0 hown2 hb2
    go_wp2
    clear c0
    go_loop [6, 7] (fun v i => ∃ k : Nat, k ≤ n2 ∧ i = .int .i64 k ∧ v = .int .i64 (lowTo L k)) (fun _ i => n2 - (intOf i).toNat)
    case atStart => exact ⟨0, by omega, rfl, by rw [L0.out]⟩
    case round =>
      obtain ⟨k, hk, rfl, rfl⟩ := hrel
      by_cases hlt : k < n2
      · obtain ⟨b', o', y, e', hbB', hy, c1⟩ := hrd.int hlt
        injection e' with e'
        injection e' with e1 e2
        subst e1 e2
        have HS := Lib.hid (lowTo_step hy)
        clear hy
        have lk : (k : Int) < (n2 : Int) := by omega
        generalize lowTo L k = M at *
        go_wp2
        all_goals
          go_round
          case rel => exact ⟨k + 1, by omega, by go_num, by rw [HS.out]; go_num⟩
          case measure => simp [intOf]; omega
      · obtain rfl : k = n2 := by omega
        go_wp2
        go_ret
        exact ⟨ret_int (by rw [S.out, ← hl2]), hB2⟩
end Go.Proofs.Ytbgdnlcjliaigaa
