/- Contracts of Reduced of both sides; no condition beyond the slice's length. -/
import Derived.Test.YtkpgfmkmbgapmaaUndo
namespace Go.Proofs.Ytkpgfmkmbgapmaa
open Go.ChangeShapes Go.WideShapes Go.ChangeAt Go.RowKit Go.Deep Go.Joins
set_option maxRecDepth 100000

theorem own_prefix {w : World} {base size n c q : Nat} {e : TypeId} {A : Option Addr} {xs ys : List Value} (h : w.ownsRow base e size (.slice A n c) n (xs ++ ys)) (hl : xs.length = q * size) (hq : q ≤ n) : w.ownsRow base e size (.slice A q c) q xs := by
  refine ⟨hl, ?_⟩
  rcases h.2 with ⟨hv, h0⟩ | ⟨g, cap, cur, hv, hb, hh, hnc, hcm, hcs, htake⟩
  · injection hv with hA hn hc
    subst hA hc
    exact .inl ⟨by rw [show q = 0 by omega], by omega⟩
  · injection hv with hA _ hc
    subst hA hc
    refine .inr ⟨g, c, cur, rfl, hb, hh, by omega, hcm, hcs, ?_⟩
    have h1 : (cur.toList.take (n * size)).take (q * size) = xs := by rw [htake]; exact List.take_left' hl
    rw [List.take_take, Nat.min_eq_left (Nat.mul_le_mul_right _ hq)] at h1
    exact h1
theorem own_cap {w : World} {base size n c : Nat} {e : TypeId} {A : Option Addr} {xs : List Value} (h : w.ownsRow base e size (.slice A n c) n xs) : n ≤ c := by
  rcases h.2 with ⟨hv, h0⟩ | ⟨g, cap, cur, hv, hb, hh, hnc, _⟩
  · omega
  · injection hv with _ _ hc
    omega

def redStep (out : List Cr) (x : Cr) : List Cr :=
  match out.reverse with
  | [] => [x]
  | y :: _ => if y.at_ = x.at_ ∧ y.front ≠ x.front then out.dropLast else out ++ [x]
theorem redStep_nil (x : Cr) : redStep [] x = [] ++ [x] := rfl
theorem redStep_drop (pre : List Cr) (y x : Cr) (h1 : y.at_ = x.at_) (h2 : y.front ≠ x.front) : redStep (pre ++ [y]) x = pre := by simp [redStep, h1, h2]
theorem redStep_app (pre : List Cr) (y x : Cr) (h : y.at_ ≠ x.at_ ∨ y.front = x.front) : redStep (pre ++ [y]) x = pre ++ [y] ++ [x] := by
  have : ¬ (y.at_ = x.at_ ∧ y.front ≠ x.front) := by rintro ⟨h1, h2⟩; rcases h with h | h <;> contradiction
  simp [redStep, this]
def redTo (ls : List Cr) (k : Nat) : List Cr := (ls.take k).foldl redStep []
theorem redTo_step {ls : List Cr} {k : Nat} {x : Cr} (hx : ls[k]? = some x) : redTo ls (k + 1) = redStep (redTo ls k) x := by simp [redTo, take_snoc hx]
theorem redTo_all {ls : List Cr} {m : Nat} (h : ls.length ≤ m) : redTo ls m = redTo ls ls.length := by simp [redTo, List.take_of_length_le h]
theorem redStep_len (out : List Cr) (x : Cr) : (redStep out x).length ≤ out.length + 1 := by
  unfold redStep
  split
  · simp
  · split <;> simp; omega
theorem redTo_len (ls : List Cr) (k : Nat) : (redTo ls k).length ≤ k := by
  induction k with
  | zero => simp [redTo]
  | succ k ih =>
    rcases Nat.lt_or_ge k ls.length with h | h
    · rw [redTo_step (List.getElem?_eq_getElem h)]
      have := redStep_len (redTo ls k) ls[k]
      omega
    · rw [redTo_all (by omega), ← redTo_all h]
      omega
def reduced (n : Int) (ls : List Cr) : List Cr := if crossesOk n ls then redTo ls ls.length else []
theorem reduced_yes {n : Int} {ls : List Cr} (h : crossesOk n ls = true) : reduced n ls = redTo ls ls.length := by simp [reduced, h]
theorem reduced_no {n : Int} {ls : List Cr} (h : crossesOk n ls = false) : reduced n ls = [] := by simp [reduced, h]
theorem crs_nil : crs [] = [] := rfl

set_option maxHeartbeats 4000000 in
theorem impl_Reduced {n : Int} {A : Option Addr} {m c : Nat} {ls : List Cr} {w : World} (hr : Reads w 2 A m (crs ls)) (hm : m ≤ 1048576) :
    Calls Try.prog 23 #[.int .i64 n, .slice A m c] w fun e w' => ∃ A' n' c', e = .returned (.slice A' n' c') ∧ w'.ownsRow w.heap.size 49 2 (.slice A' n' c') n' (crs (reduced n ls)) ∧ n' ≤ 1048576 ∧ Below w.heap.size w w' := by
  have hl := hr.crlen
  cases hb : crossesOk n ls with
  | false =>
    have E := Lib.hid hb; clear hb
    go_enter Try.func23, Try.ntmps23
    go_wp2_with fail
    refine (impl_CrossesOk (hr.below (by go_grown)) hm).mono ?_
    rintro e w1 ⟨rfl, hb1⟩
    rw [E.out]
    go_wp2
    go_ret
    exact ⟨none, 0, 0, rfl, by rw [reduced_no E.out]; exact World.ownsRow_nil _ _ _ _, by omega, (by go_grown : Below w.heap.size w _).trans (hb1.mono (by simp))⟩
  | true =>
    have E := Lib.hid hb; clear hb
    obtain ⟨i0, hi, hz0, hz1, hz2⟩ := info_parts info_cross
    go_enter Try.func23, Try.ntmps23
    go_wp2_with fail
    refine (impl_CrossesOk (hr.below (by go_grown)) hm).mono ?_
    rintro e w1 ⟨rfl, hb1⟩
    rw [E.out]
    have hB : Below w.heap.size w w1 := (by go_grown : Below w.heap.size w _).trans (hb1.mono (by simp))
    have zB := hB.size
    have ho := ownsRow_le (own_empty w1 49 2) zB
    clear hb1
    go_wp2
    go_loopw [5, 16] (fun v i wr => ∃ (k : Nat) (A' : Option Addr) (n' c' : Nat), k ≤ m ∧ i = .int .i64 k ∧ v = .slice A' n' c' ∧ n' ≤ k ∧ wr.ownsRow w.heap.size 49 2 (.slice A' n' c') n' (crs (redTo ls k)) ∧ Below w.heap.size w wr) (fun _ i _ => m - (intOf i).toNat)
    case atStart => exact ⟨0, _, 0, 0, by omega, rfl, rfl, by omega, ho, hB.trans ((by go_grown : Below w1.heap.size w1 _).mono zB)⟩
    case round =>
      obtain ⟨k, A', n', c', hk, rfl, rfl, hnb, hown, hbel⟩ := hrel
      clear hB zB ho
      by_cases hlt : k < m
      · obtain ⟨b, o, x, rfl, hbB, hx, c0, c1⟩ := hr.cr hlt
        replace c0 := keep_cell hbel c0
        replace c1 := keep_cell hbel c1
        have l1 : (k : Int) < (m : Int) := by omega
        have HS := Lib.hid (redTo_step hx); clear hx
        have hlen := redTo_len ls k
        obtain ⟨xa, xf⟩ := x
        simp only at c0 c1
        generalize hxs : redTo ls k = xs at *
        have HXS := Lib.hid hxs
        have bA := own_blk hown
        have zw := hbel.size
        have hcap := own_cap hown
        have hal := hown.alloc (.cells #[.int .i64 xa, .bool xf] 49)
        have hg0 := World.grownBy_alloc wr (.cells #[.int .i64 xa, .bool xf] 49) (Value.slice A' n' c').ownBlock
        have hln := hown.1
        rw [crs_length] at hln
        clear hxs
        rcases List.eq_nil_or_concat xs with rfl | ⟨pre, y, rfl⟩
        · obtain rfl : n' = 0 := by simp at hln; omega
          clear hln hlen
          go_wp2
          go_quiet (fail)
          go_wp2_with (at_builtin; refine wp_app_at ((wr.alloc (.cells #[.int .i64 xa, .bool xf] 49)).drewN _) rfl _ _ 25 rfl w.heap.size 49 i0 (.agg #[.int .i64 0, .bool false]) 2 16 Try.underlying25 hi hz0 hz1 hz2 rfl (by decide) rfl (own_drewN hal _) [.int .i64 xa, .bool xf] rfl (by simp [Value.oneCell']) rfl (by simp) (by unfold maxLen; omega) (by omega) (by simp; omega) rfl ?_; intro A2 c2 w2 hown2 hg2)
          go_roundw
          case rel => exact ⟨k + 1, A2, _, c2, by omega, by go_num, rfl, by omega, by rw [HS.out, redStep_nil, crs_append]; exact hown2, bel_apart hbel (grown_trans (grown_drewN hg0 _) hg2) bA (Nat.le_refl _)⟩
          case measure => simp [intOf]; omega
        · obtain ⟨ya, yf⟩ := y
          simp only [List.concat_eq_append] at *
          obtain ⟨q, hq⟩ : ∃ q, q = pre.length := ⟨_, rfl⟩
          obtain rfl : n' = q + 1 := by simp at hln; omega
          have hrd := (Reads.of_own hown).cr (k := q) (by omega)
          obtain ⟨g, o2, y', rfl, hgB, hy', e0, e1⟩ := hrd
          have : y' = ⟨ya, yf⟩ := by rw [hq] at hy'; simpa using hy'.symm
          subst this
          simp only at e0 e1
          have HQ := Lib.hid hq
          clear hy' hq hln hlen
          by_cases hc : ya = xa ∧ yf ≠ xf
          · obtain ⟨rfl, hne⟩ := hc
            have hpre : wr.ownsRow w.heap.size 49 2 (.slice (some ⟨g, o2, none⟩) q c') q (crs pre) := by
              rw [crs_append] at hown
              exact own_prefix hown (by rw [crs_length, HQ.out]) (by omega)
            have hbf : Below w.heap.size w (wr.alloc (.cells #[.int .i64 ya, .bool xf] 49)) := hbel.trans ((by go_grown : Below wr.heap.size wr _).mono zw)
            have hpa := hpre.alloc (.cells #[.int .i64 ya, .bool xf] 49)
            have HD := Lib.hid (redStep_drop pre ⟨ya, yf⟩ ⟨ya, xf⟩ rfl hne)
            have hcq : q ≤ c' := by omega
            clear hown hal
            cases yf <;> cases xf <;> first | exact absurd rfl hne | skip
            all_goals
              clear hne
              go_wp2
              go_quiet (fail)
              go_wp2
              go_roundw
              case rel => exact ⟨k + 1, _, q, c', by omega, by go_num, rfl, by omega, by rw [HS.out, HD.out]; exact own_drewN hpa _, below_drewN hbf _⟩
              case measure => simp [intOf]; omega
          · have hcc : ya ≠ xa ∨ yf = xf := by
              by_cases h1 : ya = xa
              · by_cases h2 : yf = xf
                · exact .inr h2
                · exact absurd ⟨h1, h2⟩ hc
              · exact .inl h1
            clear hc
            have HD := Lib.hid (redStep_app pre ⟨ya, yf⟩ ⟨xa, xf⟩ hcc)
            by_cases h1 : ya = xa
            · obtain rfl : yf = xf := by rcases hcc with h | h; exact absurd h1 h; exact h
              subst h1
              clear hcc
              go_wp2
              go_quiet (fail)
              go_wp2_with (at_builtin; refine wp_app_at ((wr.alloc (.cells #[.int .i64 ya, .bool yf] 49)).drewN _) rfl _ _ 25 rfl w.heap.size 49 i0 (.agg #[.int .i64 0, .bool false]) 2 16 Try.underlying25 hi hz0 hz1 hz2 rfl (by decide) rfl (own_drewN hal _) [.int .i64 ya, .bool yf] rfl (by simp [Value.oneCell']) rfl (by simp) (by unfold maxLen; omega) (by omega) (by simp; omega) rfl ?_; intro A2 c2 w2 hown2 hg2)
              go_roundw
              case rel => exact ⟨k + 1, A2, _, c2, by omega, by go_num, rfl, by omega, by rw [HS.out, HD.out, crs_append]; exact hown2, bel_apart hbel (grown_trans (grown_drewN hg0 _) hg2) bA (Nat.le_refl _)⟩
              case measure => simp [intOf]; omega
            · have h2 : (ya == xa) = false := by simpa using h1
              clear hcc h1
              go_wp2
              go_quiet (fail)
              go_wp2_with (at_builtin; refine wp_app_at ((wr.alloc (.cells #[.int .i64 xa, .bool xf] 49)).drewN _) rfl _ _ 25 rfl w.heap.size 49 i0 (.agg #[.int .i64 0, .bool false]) 2 16 Try.underlying25 hi hz0 hz1 hz2 rfl (by decide) rfl (own_drewN hal _) [.int .i64 xa, .bool xf] rfl (by simp [Value.oneCell']) rfl (by simp) (by unfold maxLen; omega) (by omega) (by simp; omega) rfl ?_; intro A2 c2 w2 hown2 hg2)
              go_roundw
              case rel => exact ⟨k + 1, A2, _, c2, by omega, by go_num, rfl, by omega, by rw [HS.out, HD.out, crs_append]; exact hown2, bel_apart hbel (grown_trans (grown_drewN hg0 _) hg2) bA (Nat.le_refl _)⟩
              case measure => simp [intOf]; omega
      · obtain rfl : k = m := by omega
        go_wp2
        go_ret
        exact ⟨A', n', c', rfl, by rw [reduced_yes E.out, hl]; exact hown, by omega, hbel⟩

set_option maxHeartbeats 4000000 in
theorem spec_Reduced {n : Int} {A : Option Addr} {m c : Nat} {ls : List Cr} {w : World} (hr : Reads w 2 A m (crs ls)) (hm : m ≤ 1048576) :
    Calls Try.prog 22 #[.int .i64 n, .slice A m c] w fun e w' => ∃ A' n' c', e = .returned (.slice A' n' c') ∧ w'.ownsRow w.heap.size 49 2 (.slice A' n' c') n' (crs (reduced n ls)) ∧ n' ≤ 1048576 ∧ Below w.heap.size w w' := by
  have hl := hr.crlen
  have ho := own_empty w 49 2
  obtain ⟨i0, hi, hz0, hz1, hz2⟩ := info_parts info_cross
  generalize hok : crossesOk n ls = ok
  have E := Lib.hid hok
  clear hok
  go_enter Try.func22, Try.ntmps22
  go_wp2
  go_loopw [5, 6] (fun v i wr => ∃ (k : Nat) (A' : Option Addr) (n' c' : Nat), k ≤ m ∧ (ok = false → k = 0) ∧ i = .int .i64 k ∧ v = .slice A' n' c' ∧ n' ≤ k ∧ wr.ownsRow w.heap.size 49 2 (.slice A' n' c') n' (crs (redTo ls k)) ∧ Below w.heap.size w wr) (fun _ i _ => m - (intOf i).toNat)
  case atStart => exact ⟨0, _, 0, 0, by omega, fun _ => rfl, rfl, rfl, by omega, ho, by go_grown⟩
  case round =>
    obtain ⟨k, A', n', c', hk, hz, rfl, rfl, hnb, hown, hbel⟩ := hrel
    clear ho
    by_cases hlt : k < m
    · obtain ⟨b, o, x, rfl, hbB, hx, c0, c1⟩ := hr.cr hlt
      replace c0 := keep_cell hbel c0
      replace c1 := keep_cell hbel c1
      have l1 : (k : Int) < (m : Int) := by omega
      cases ok with
      | false =>
        obtain rfl := hz rfl
        go_wp2_with fail
        refine (spec_CrossesOk (hr.below hbel) hm).mono ?_
        rintro e w1 ⟨rfl, hb1⟩
        rw [E.out]
        go_wp2
        go_ret
        have hown2 := own_below hown hb1
        exact ⟨A', n', c', rfl, by rw [reduced_no E.out]; simpa [redTo] using hown2, by omega, hbel.trans (hb1.mono hbel.size)⟩
      | true =>
        clear hz
        have HS := Lib.hid (redTo_step hx); clear hx
        have hlen := redTo_len ls k
        obtain ⟨xa, xf⟩ := x
        simp only at c0 c1
        generalize hxs : redTo ls k = xs at *
        have HXS := Lib.hid hxs
        clear hxs
        rcases List.eq_nil_or_concat xs with rfl | ⟨pre, y, rfl⟩
        · have hln := hown.1
          rw [crs_length] at hln
          obtain rfl : n' = 0 := by simp at hln; omega
          clear hln hlen
          go_wp2_with fail
          refine (spec_CrossesOk (hr.below hbel) hm).mono ?_
          rintro e w1 ⟨rfl, hb1⟩
          rw [E.out]
          replace hown := own_below hown hb1
          have bA := own_blk hown
          have hcap := own_cap hown
          replace c0 := keep_cell hb1 c0
          replace c1 := keep_cell hb1 c1
          replace hbel := hbel.trans (hb1.mono hbel.size)
          have zw := hbel.size
          go_wp2
          go_quiet (fail)
          go_wp2_with (at_builtin; refine wp_app_at (w1.drewN _) rfl _ _ 25 rfl w.heap.size 49 i0 (.agg #[.int .i64 0, .bool false]) 2 16 Try.underlying25 hi hz0 hz1 hz2 rfl (by decide) rfl (own_drewN hown _) [.int .i64 _, .bool _] rfl (by simp [Value.oneCell']) rfl (by simp) (by unfold maxLen; omega) (by omega) (by first | exact zw | (simp; omega)) rfl ?_; intro A2 c2 w2 hown2 hg2)
          go_roundw
          case rel => exact ⟨k + 1, A2, _, c2, by omega, by simp, by go_num, rfl, by omega, by rw [HS.out, redStep_nil, crs_append]; exact hown2, bel_apart (below_drewN hbel _) hg2 bA (Nat.le_refl _)⟩
          case measure => simp [intOf]; omega
        · obtain ⟨ya, yf⟩ := y
          simp only [List.concat_eq_append] at *
          have hln := hown.1
          rw [crs_length] at hln
          obtain ⟨q, hq⟩ : ∃ q, q = pre.length := ⟨_, rfl⟩
          obtain rfl : n' = q + 1 := by simp at hln; omega
          have hrd := (Reads.of_own hown).cr (k := q) (by omega)
          obtain ⟨g, o2, y', rfl, hgB, hy', e0, e1⟩ := hrd
          have : y' = ⟨ya, yf⟩ := by rw [hq] at hy'; simpa using hy'.symm
          subst this
          simp only at e0 e1
          have HQ := Lib.hid hq
          clear hy' hq hln hlen
          by_cases hc : ya = xa ∧ yf ≠ xf
          · obtain ⟨rfl, hne⟩ := hc
            have HD := Lib.hid (redStep_drop pre ⟨ya, yf⟩ ⟨ya, xf⟩ rfl hne)
            cases yf <;> cases xf <;> first | exact absurd rfl hne | skip
            all_goals
              clear hne
              go_wp2_with fail
              refine (spec_CrossesOk (hr.below hbel) hm).mono ?_
              rintro e w1 ⟨rfl, hb1⟩
              rw [E.out]
              replace hown := own_below hown hb1
              have bA := own_blk hown
              have hcap := own_cap hown
              replace c0 := keep_cell hb1 c0
              replace c1 := keep_cell hb1 c1
              replace hbel := hbel.trans (hb1.mono hbel.size)
              have zw := hbel.size
              have f0 := keep_cell hb1 e0
              have f1 := keep_cell hb1 e1
              have hpre : w1.ownsRow w.heap.size 49 2 (.slice (some ⟨g, o2, none⟩) q c') q (crs pre) := by
                rw [crs_append] at hown
                exact own_prefix hown (by rw [crs_length, HQ.out]) (by omega)
              have hcq : q ≤ c' := by omega
              clear e0 e1 hown
              go_wp2
              go_quiet (fail)
              go_wp2
              go_roundw
              case rel => exact ⟨k + 1, _, q, c', by omega, by simp, by go_num, rfl, by omega, by rw [HS.out, HD.out]; exact own_drewN hpre _, below_drewN hbel _⟩
              case measure => simp [intOf]; omega
          · have hcc : ya ≠ xa ∨ yf = xf := by
              by_cases h1 : ya = xa
              · by_cases h2 : yf = xf
                · exact .inr h2
                · exact absurd ⟨h1, h2⟩ hc
              · exact .inl h1
            clear hc
            have HD := Lib.hid (redStep_app pre ⟨ya, yf⟩ ⟨xa, xf⟩ hcc)
            by_cases h1 : ya = xa
            · obtain rfl : yf = xf := by rcases hcc with h | h; exact absurd h1 h; exact h
              subst h1
              clear hcc
              go_wp2_with fail
              refine (spec_CrossesOk (hr.below hbel) hm).mono ?_
              rintro e w1 ⟨rfl, hb1⟩
              rw [E.out]
              replace hown := own_below hown hb1
              have bA := own_blk hown
              have hcap := own_cap hown
              replace c0 := keep_cell hb1 c0
              replace c1 := keep_cell hb1 c1
              replace hbel := hbel.trans (hb1.mono hbel.size)
              have zw := hbel.size
              have f0 := keep_cell hb1 e0
              have f1 := keep_cell hb1 e1
              clear e0 e1
              go_wp2
              go_quiet (fail)
              go_wp2_with (at_builtin; refine wp_app_at (w1.drewN _) rfl _ _ 25 rfl w.heap.size 49 i0 (.agg #[.int .i64 0, .bool false]) 2 16 Try.underlying25 hi hz0 hz1 hz2 rfl (by decide) rfl (own_drewN hown _) [.int .i64 _, .bool _] rfl (by simp [Value.oneCell']) rfl (by simp) (by unfold maxLen; omega) (by omega) (by first | exact zw | (simp; omega)) rfl ?_; intro A2 c2 w2 hown2 hg2)
              go_roundw
              case rel => exact ⟨k + 1, A2, _, c2, by omega, by simp, by go_num, rfl, by omega, by rw [HS.out, HD.out, crs_append]; exact hown2, bel_apart (below_drewN hbel _) hg2 bA (Nat.le_refl _)⟩
              case measure => simp [intOf]; omega
            · have h2 : (ya == xa) = false := by simpa using h1
              clear hcc h1
              go_wp2_with fail
              refine (spec_CrossesOk (hr.below hbel) hm).mono ?_
              rintro e w1 ⟨rfl, hb1⟩
              rw [E.out]
              replace hown := own_below hown hb1
              have bA := own_blk hown
              have hcap := own_cap hown
              replace c0 := keep_cell hb1 c0
              replace c1 := keep_cell hb1 c1
              replace hbel := hbel.trans (hb1.mono hbel.size)
              have zw := hbel.size
              have f0 := keep_cell hb1 e0
              have f1 := keep_cell hb1 e1
              clear e0 e1
              go_wp2
              go_quiet (fail)
              go_wp2_with (at_builtin; refine wp_app_at (w1.drewN _) rfl _ _ 25 rfl w.heap.size 49 i0 (.agg #[.int .i64 0, .bool false]) 2 16 Try.underlying25 hi hz0 hz1 hz2 rfl (by decide) rfl (own_drewN hown _) [.int .i64 _, .bool _] rfl (by simp [Value.oneCell']) rfl (by simp) (by unfold maxLen; omega) (by omega) (by first | exact zw | (simp; omega)) rfl ?_; intro A2 c2 w2 hown2 hg2)
              go_roundw
              case rel => exact ⟨k + 1, A2, _, c2, by omega, by simp, by go_num, rfl, by omega, by rw [HS.out, HD.out, crs_append]; exact hown2, bel_apart (below_drewN hbel _) hg2 bA (Nat.le_refl _)⟩
              case measure => simp [intOf]; omega
    · obtain rfl : k = m := by omega
      go_wp2
      go_ret
      refine ⟨A', n', c', rfl, ?_, by omega, hbel⟩
      cases ok with
      | false =>
        obtain rfl := hz rfl
        rw [reduced_no E.out]; simpa [redTo] using hown
      | true => rw [reduced_yes E.out, hl]; exact hown
end Go.Proofs.Ytkpgfmkmbgapmaa
