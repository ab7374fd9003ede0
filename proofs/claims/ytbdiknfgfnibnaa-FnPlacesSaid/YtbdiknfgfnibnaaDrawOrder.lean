/- The draw of a valid order; no condition beyond the length of the code. -/
import Derived.Test.YtbdiknfgfnibnaaDraw2
import Derived.Test.YtbdiknfgfnibnaaInvLaw
namespace Go.Proofs.Ytbdiknfgfnibnaa
open Go.ChangeShapes Go.WideShapes Go.ChangeAt Go.RowKit Go.Deep Go.Joins
set_option maxRecDepth 100000

def upL (n : Nat) : List Int := (List.range n).map fun i : Nat => (i : Int)
theorem upL_len (n : Nat) : (upL n).length = n := by simp [upL]
theorem upL_snoc (k : Nat) : upL (k + 1) = upL k ++ [(k : Int)] := by simp [upL, List.range_succ]
theorem upL_ok {N : Nat} (h1 : 1 ≤ N) (h7 : N ≤ 7) : orderOk (upL N) = true := by
  refine decide_eq_true ⟨by rw [upL_len]; exact h1, by rw [upL_len]; exact h7, fun x hx => ?_, ?_⟩
  · obtain ⟨i, hi, rfl⟩ := List.mem_map.1 hx
    rw [upL_len]
    have := List.mem_range.1 hi
    omega
  · refine (List.pairwise_map.2 (List.nodup_range.imp fun h e => h (by omega)))
theorem ins_perm {xs : List Int} {k p : Nat} (h : xs.Perm (upL k)) : (xs.take p ++ [(k : Int)] ++ xs.drop p).Perm (upL (k + 1)) := by
  rw [upL_snoc, List.append_assoc, List.singleton_append]
  refine List.perm_middle.trans ?_
  rw [List.take_append_drop]
  exact (h.cons _).trans (List.perm_append_singleton _ _).symm
theorem info_do : (Try.prog.info? 3).map (fun i => (i.zero, i.size, i.bytes)) = some (some (.int .i64 0), 1, 8) := by kernel_rfl
theorem cells_do : Try.prog.cellsOf 3 = 1 := by kernel_rfl

def SomeOrder (W0 w : World) (G : Nat) (A : Option Addr) (n c : Nat) (bs : List Int) (e : Ending) (w' : World) : Prop :=
  ∃ (B : Option Addr) (m d : Nat) (xs : List Int), e = .returned (.slice B m d) ∧ w'.ownsRow w.heap.size 3 1 (.slice B m d) m (ints xs) ∧ m ≤ 7 ∧ orderOk xs = true ∧ Cur W0 w' G A n c bs

set_option maxHeartbeats 4000000 in
theorem spec_l07Order {W0 w : World} {G n c : Nat} {A : Option Addr} {bs : List Int} (hc : Cur W0 w G A n c bs) :
    Calls Try.prog 36 #[.pointer (some ⟨G, 0, none⟩)] w (SomeOrder W0 w G A n c bs) := by
  obtain ⟨i0, hi, hz0, hz1, hz2⟩ := info_parts info_do
  have ho := own_empty w 3 1
  have HC := Lib.hid (hc.alloc (.cells #[] 3))
  have zG := hc.lt
  clear hc
  go_enter Try.func36, Try.ntmps36
  go_wp2_with fail
  refine (l01Below_nat (N := 6) HC.out (by omega) (by omega) (by omega)).mono ?_
  rintro e w1 ⟨N, hN, rfl, hc1, hg1⟩
  have ho1 := own_cur ho hg1 (own_blk ho) zG
  have HC1 := Lib.hid hc1
  have zz := hg1.size
  simp only [World.size_alloc] at zz
  clear ho HC hg1 hc1
  go_wp2
  go_loopw [3, 5] (fun ov kv wr => ∃ (k g : Nat) (d : Nat) (xs : List Int), k ≤ N + 1 ∧ kv = .int .i64 k ∧ ov = .slice (some ⟨g, 0, none⟩) k d ∧ xs.Perm (upL k) ∧ wr.ownsRow w.heap.size 3 1 (.slice (some ⟨g, 0, none⟩) k d) k (ints xs) ∧ Cur W0 wr G A n c bs ∧ w.heap.size ≤ wr.heap.size) (fun _ kv _ => N + 1 - (intOf kv).toNat)
  case atStart => exact ⟨0, _, 0, [], by omega, rfl, rfl, List.Perm.refl _, ho1, HC1.out, by omega⟩
  case round =>
    obtain ⟨k, g, d, xs, hk, rfl, rfl, hperm, hown, hcur, hz⟩ := hrel
    clear ho1 HC1
    by_cases hlt : k < N + 1
    · have PM := Lib.hid hperm
      have HC := Lib.hid hcur
      clear hperm hcur
      go_wp2_with fail
      refine (l01Below_nat (N := k + 1) HC.out (by omega) (by omega) (by omega)).mono ?_
      rintro e w2 ⟨p, hp, rfl, hc2, hg2⟩
      have hown2 := own_cur hown hg2 (own_blk hown) zG
      have zz2 := hg2.size
      have HC2 := Lib.hid hc2
      have HLEN := Lib.hid (own_len hown2)
      have hcap := own_cap2 hown2
      have hr1 := (Reads.of_own hown2).take_ (k := p) (by omega)
      have hr2 := (Reads.of_own hown2).drop_ (k := p) (by omega)
      rw [ints_take] at hr1
      rw [ints_drop] at hr2
      have b1 : (p : Int) ≤ (d : Int) := by omega
      have b2 : (p : Int) ≤ (k : Int) := by omega
      have b3 : (0 : Int) ≤ (p : Int) := by omega
      clear hc2 hown hg2
      have KL := Lib.hid (show ints (xs.take p) ++ [.int .i64 (k : Int)] = ints (xs.take p ++ [(k : Int)]) by rw [ints_append]; rfl)
      have KM := Lib.hid (show ints (xs.take p ++ [(k : Int)]) ++ ints (xs.drop p) = ints (xs.take p ++ [(k : Int)] ++ xs.drop p) by rw [← ints_append])
      have ra := Row.new w2 3 []
      have rb := ra.alloc (.cells #[.int .i64 (k : Int)] 3)
      have kb : Row (((w2.alloc (.cells #[] 3)).alloc (.cells #[.int .i64 (k : Int)] 3)).drew) (w2.heap.size + 1) 3 [.int .i64 (k : Int)] := by
        have h := Row.new (w2.alloc (.cells #[] 3)) 3 [.int .i64 (k : Int)]
        rw [World.size_alloc] at h
        exact h
      have rc := Row.new (w2.alloc (.cells #[.int .i64 (k : Int)] 3)) 3 []
      rw [World.size_alloc] at rc
      have kc : Row (((w2.alloc (.cells #[.int .i64 (k : Int)] 3)).alloc (.cells #[] 3)).drew) w2.heap.size 3 [.int .i64 (k : Int)] := (Row.new w2 3 [.int .i64 (k : Int)]).alloc (.cells #[] 3)
      have ba : Below w2.heap.size w2 ((w2.alloc (.cells #[] 3)).drew) := by go_grown
      have bb : Below w2.heap.size w2 (((w2.alloc (.cells #[] 3)).alloc (.cells #[.int .i64 (k : Int)] 3)).drew) := by go_grown
      have bc : Below w2.heap.size w2 (((w2.alloc (.cells #[.int .i64 (k : Int)] 3)).alloc (.cells #[] 3)).drew) := by go_grown
      have oa : ((w2.alloc (.cells #[] 3)).drew).ownsRow w2.heap.size 3 1 (.slice (some ⟨w2.heap.size, 0, none⟩) 0 0) 0 [] := own_row0 ra (Nat.le_refl _)
      have ob : (((w2.alloc (.cells #[] 3)).alloc (.cells #[.int .i64 (k : Int)] 3)).drew).ownsRow w2.heap.size 3 1 (.slice (some ⟨w2.heap.size, 0, none⟩) 0 0) 0 [] := own_row0 rb (Nat.le_refl _)
      have oc : (((w2.alloc (.cells #[.int .i64 (k : Int)] 3)).alloc (.cells #[] 3)).drew).ownsRow w2.heap.size 3 1 (.slice (some ⟨w2.heap.size + 1, 0, none⟩) 0 0) 0 [] := own_row0 rc (by omega)
      have r1a := hr1.below ba
      have r1b := hr1.below bb
      have r1c := hr1.below bc
      have hr2b : Reads w2 1 (some ⟨g, p, none⟩) (k - p) (ints (xs.drop p)) := by rw [Option.map_some, Go.WideShapes.add_plain, Nat.zero_add] at hr2; exact hr2
      have ONE : Hid (∀ u ∈ [Value.int .i64 (k : Int)], u.oneCell' = true) := Lib.hid (by simp [Value.oneCell'])
      clear hr1 hr2 ra rb rc
      by_cases hdp : d = p
      · subst hdp
        obtain rfl : d = k := by omega
        have hr2z : Reads w2 1 (some ⟨g, 0, none⟩) 0 (ints (xs.drop d)) := ⟨by simp [ints]; have := HLEN.out; omega, fun h => absurd h (by omega)⟩
        clear hr2b
        go_wp2
        go_region_held3 (fun _ => True) (exact trivial)
          (first
            | ((with_reducible refine step_appl (w := ((w2.alloc (.cells #[] 3)).drew)) (o := ⟨some 24, _, _, _, _, _⟩) (d := d) d (ints (xs.take d)) ?_ (.tmp 20) (.tmp 23) 22 ?_ w2.heap.size 3 i0 (.int .i64 0) 1 8 Try.underlying22 hi hz0 hz1 hz2 ?_ ?_ ?_ oa ?_ r1a (ints_one _) ?_ ?_ ?_ ?_ ?_ ?_); rfl; rfl; rfl; decide; rfl; rfl; (unfold maxLen; omega); omega; exact ba.size; omega; rfl; intro A3 c3 w3 hown3 hg3; have hb3 : Below w2.heap.size w2 w3 := bel_apart ba hg3 (own_blk oa) (Nat.le_refl _))
            | ((with_reducible refine step_appl (w := (((w2.alloc (.cells #[] 3)).alloc (.cells #[.int .i64 (d : Int)] 3)).drew)) (o := ⟨some 24, _, _, _, _, _⟩) (d := d) d (ints (xs.take d)) ?_ (.tmp 20) (.tmp 23) 22 ?_ w2.heap.size 3 i0 (.int .i64 0) 1 8 Try.underlying22 hi hz0 hz1 hz2 ?_ ?_ ?_ ob ?_ r1b (ints_one _) ?_ ?_ ?_ ?_ ?_ ?_); rfl; rfl; rfl; decide; rfl; rfl; (unfold maxLen; omega); omega; exact bb.size; omega; rfl; intro A3 c3 w3 hown3 hg3; have hb3 : Below w2.heap.size w2 w3 := bel_apart bb hg3 (own_blk ob) (Nat.le_refl _); have k3 := kb.grown hg3 (by intro hc; have hc2 : w2.heap.size + 1 = w2.heap.size := Option.some.inj hc; omega))
            | ((with_reducible refine step_appl (w := (((w2.alloc (.cells #[.int .i64 (d : Int)] 3)).alloc (.cells #[] 3)).drew)) (o := ⟨some 24, _, _, _, _, _⟩) (d := d) d (ints (xs.take d)) ?_ (.tmp 20) (.tmp 23) 22 ?_ w2.heap.size 3 i0 (.int .i64 0) 1 8 Try.underlying22 hi hz0 hz1 hz2 ?_ ?_ ?_ oc ?_ r1c (ints_one _) ?_ ?_ ?_ ?_ ?_ ?_); rfl; rfl; rfl; decide; rfl; rfl; (unfold maxLen; omega); omega; exact bc.size; omega; rfl; intro A3 c3 w3 hown3 hg3; have hb3 : Below w2.heap.size w2 w3 := bel_apart bc hg3 (own_blk oc) (Nat.le_refl _); have k3 := kc.grown hg3 (by intro hc; have hc2 : w2.heap.size = w2.heap.size + 1 := Option.some.inj hc; omega))
            | ((with_reducible refine step_appl (w := (w3.alloc (.cells #[.int .i64 (d : Int)] 3))) (o := ⟨some 27, _, _, _, _, _⟩) (d := 1) (d + 1) (ints (xs.take d ++ [(d : Int)])) ?_ (.tmp 24) (.tmp 26) 22 ?_ w2.heap.size 3 i0 (.int .i64 0) 1 8 Try.underlying22 hi hz0 hz1 hz2 ?_ ?_ ?_ (hown3.alloc (.cells #[.int .i64 (d : Int)] 3)) ?_ ((Row.new w3 3 [.int .i64 (d : Int)]).reads (n := 1) (xs := [.int .i64 (d : Int)]) (Eq.refl _) (Eq.refl _)) ONE.out ?_ ?_ ?_ ?_ ?_ ?_); rfl; rfl; rfl; decide; rfl; rfl; (unfold maxLen; omega); omega; (have := hb3.size; simp; omega); rfl; exact KL.out; intro A4 c4 w4 hown4 hg4; have hb4 : Below w2.heap.size w2 w4 := bel_apart (hb3.alloc hb3.size (.cells #[.int .i64 (d : Int)] 3)) hg4 (own_blk (hown3.alloc (.cells #[.int .i64 (d : Int)] 3))) (Nat.le_refl _))
            | ((with_reducible refine step_appl (w := w3) (o := ⟨some 27, _, _, _, _, _⟩) (d := 1) (d + 1) (ints (xs.take d ++ [(d : Int)])) ?_ (.tmp 24) (.tmp 26) 22 ?_ w2.heap.size 3 i0 (.int .i64 0) 1 8 Try.underlying22 hi hz0 hz1 hz2 ?_ ?_ ?_ hown3 ?_ (k3.reads (n := 1) (xs := [.int .i64 (d : Int)]) (Eq.refl _) (Eq.refl _)) ONE.out ?_ ?_ ?_ ?_ ?_ ?_); rfl; rfl; rfl; decide; rfl; rfl; (unfold maxLen; omega); omega; exact hb3.size; rfl; exact KL.out; intro A4 c4 w4 hown4 hg4; have hb4 : Below w2.heap.size w2 w4 := bel_apart hb3 hg4 (own_blk hown3) (Nat.le_refl _))
            | ((with_reducible refine step_appl (w := w4) (o := ⟨some 31, _, _, _, _, _⟩) (d := 0) (d + 1) (ints (xs.take d ++ [(d : Int)] ++ xs.drop d)) ?_ (.tmp 27) (.tmp 30) 22 ?_ w2.heap.size 3 i0 (.int .i64 0) 1 8 Try.underlying22 hi hz0 hz1 hz2 ?_ ?_ ?_ hown4 ?_ (hr2z.below hb4) (ints_one _) ?_ ?_ ?_ ?_ ?_ ?_); rfl; rfl; rfl; decide; rfl; rfl; (unfold maxLen; omega); omega; exact hb4.size; omega; exact KM.out; intro A5 c5 w5 hown5 hg5; have hb5 : Below w2.heap.size w2 w5 := bel_apart hb4 hg5 (own_blk hown4) (Nat.le_refl _))
            | (fail "no arm"))
        all_goals
          obtain ⟨g5, rfl, _, _⟩ := own_form hown5 (by omega)
          go_wp2
          go_roundw
          case rel => exact ⟨d + 1, g5, c5, _, by omega, by go_num, rfl, ins_perm PM.out, ownsRow_le hown5 (by omega), HC2.out.below hb5, by have := hb5.size; omega⟩
          case measure => simp [intOf]; omega
      · go_wp2
        go_region_held3 (fun _ => True) (exact trivial)
          (first
            | ((with_reducible refine step_appl (w := ((w2.alloc (.cells #[] 3)).drew)) (o := ⟨some 24, _, _, _, _, _⟩) (d := d) p (ints (xs.take p)) ?_ (.tmp 20) (.tmp 23) 22 ?_ w2.heap.size 3 i0 (.int .i64 0) 1 8 Try.underlying22 hi hz0 hz1 hz2 ?_ ?_ ?_ oa ?_ r1a (ints_one _) ?_ ?_ ?_ ?_ ?_ ?_); rfl; rfl; rfl; decide; rfl; rfl; (unfold maxLen; omega); omega; exact ba.size; omega; rfl; intro A3 c3 w3 hown3 hg3; have hb3 : Below w2.heap.size w2 w3 := bel_apart ba hg3 (own_blk oa) (Nat.le_refl _))
            | ((with_reducible refine step_appl (w := (((w2.alloc (.cells #[] 3)).alloc (.cells #[.int .i64 (k : Int)] 3)).drew)) (o := ⟨some 24, _, _, _, _, _⟩) (d := d) p (ints (xs.take p)) ?_ (.tmp 20) (.tmp 23) 22 ?_ w2.heap.size 3 i0 (.int .i64 0) 1 8 Try.underlying22 hi hz0 hz1 hz2 ?_ ?_ ?_ ob ?_ r1b (ints_one _) ?_ ?_ ?_ ?_ ?_ ?_); rfl; rfl; rfl; decide; rfl; rfl; (unfold maxLen; omega); omega; exact bb.size; omega; rfl; intro A3 c3 w3 hown3 hg3; have hb3 : Below w2.heap.size w2 w3 := bel_apart bb hg3 (own_blk ob) (Nat.le_refl _); have k3 := kb.grown hg3 (by intro hc; have hc2 : w2.heap.size + 1 = w2.heap.size := Option.some.inj hc; omega))
            | ((with_reducible refine step_appl (w := (((w2.alloc (.cells #[.int .i64 (k : Int)] 3)).alloc (.cells #[] 3)).drew)) (o := ⟨some 24, _, _, _, _, _⟩) (d := d) p (ints (xs.take p)) ?_ (.tmp 20) (.tmp 23) 22 ?_ w2.heap.size 3 i0 (.int .i64 0) 1 8 Try.underlying22 hi hz0 hz1 hz2 ?_ ?_ ?_ oc ?_ r1c (ints_one _) ?_ ?_ ?_ ?_ ?_ ?_); rfl; rfl; rfl; decide; rfl; rfl; (unfold maxLen; omega); omega; exact bc.size; omega; rfl; intro A3 c3 w3 hown3 hg3; have hb3 : Below w2.heap.size w2 w3 := bel_apart bc hg3 (own_blk oc) (Nat.le_refl _); have k3 := kc.grown hg3 (by intro hc; have hc2 : w2.heap.size = w2.heap.size + 1 := Option.some.inj hc; omega))
            | ((with_reducible refine step_appl (w := (w3.alloc (.cells #[.int .i64 (k : Int)] 3))) (o := ⟨some 27, _, _, _, _, _⟩) (d := 1) (p + 1) (ints (xs.take p ++ [(k : Int)])) ?_ (.tmp 24) (.tmp 26) 22 ?_ w2.heap.size 3 i0 (.int .i64 0) 1 8 Try.underlying22 hi hz0 hz1 hz2 ?_ ?_ ?_ (hown3.alloc (.cells #[.int .i64 (k : Int)] 3)) ?_ ((Row.new w3 3 [.int .i64 (k : Int)]).reads (n := 1) (xs := [.int .i64 (k : Int)]) (Eq.refl _) (Eq.refl _)) ONE.out ?_ ?_ ?_ ?_ ?_ ?_); rfl; rfl; rfl; decide; rfl; rfl; (unfold maxLen; omega); omega; (have := hb3.size; simp; omega); rfl; exact KL.out; intro A4 c4 w4 hown4 hg4; have hb4 : Below w2.heap.size w2 w4 := bel_apart (hb3.alloc hb3.size (.cells #[.int .i64 (k : Int)] 3)) hg4 (own_blk (hown3.alloc (.cells #[.int .i64 (k : Int)] 3))) (Nat.le_refl _))
            | ((with_reducible refine step_appl (w := w3) (o := ⟨some 27, _, _, _, _, _⟩) (d := 1) (p + 1) (ints (xs.take p ++ [(k : Int)])) ?_ (.tmp 24) (.tmp 26) 22 ?_ w2.heap.size 3 i0 (.int .i64 0) 1 8 Try.underlying22 hi hz0 hz1 hz2 ?_ ?_ ?_ hown3 ?_ (k3.reads (n := 1) (xs := [.int .i64 (k : Int)]) (Eq.refl _) (Eq.refl _)) ONE.out ?_ ?_ ?_ ?_ ?_ ?_); rfl; rfl; rfl; decide; rfl; rfl; (unfold maxLen; omega); omega; exact hb3.size; rfl; exact KL.out; intro A4 c4 w4 hown4 hg4; have hb4 : Below w2.heap.size w2 w4 := bel_apart hb3 hg4 (own_blk hown3) (Nat.le_refl _))
            | ((with_reducible refine step_appl (w := w4) (o := ⟨some 31, _, _, _, _, _⟩) (d := d - p) (k + 1) (ints (xs.take p ++ [(k : Int)] ++ xs.drop p)) ?_ (.tmp 27) (.tmp 30) 22 ?_ w2.heap.size 3 i0 (.int .i64 0) 1 8 Try.underlying22 hi hz0 hz1 hz2 ?_ ?_ ?_ hown4 ?_ (hr2b.below hb4) (ints_one _) ?_ ?_ ?_ ?_ ?_ ?_); rfl; rfl; rfl; decide; rfl; rfl; (unfold maxLen; omega); omega; exact hb4.size; omega; exact KM.out; intro A5 c5 w5 hown5 hg5; have hb5 : Below w2.heap.size w2 w5 := bel_apart hb4 hg5 (own_blk hown4) (Nat.le_refl _))
            | (fail "no arm"))
        all_goals
          obtain ⟨g5, rfl, _, _⟩ := own_form hown5 (by omega)
          go_wp2
          go_roundw
          case rel => exact ⟨k + 1, g5, c5, _, by omega, by go_num, rfl, ins_perm PM.out, ownsRow_le hown5 (by omega), HC2.out.below hb5, by have := hb5.size; omega⟩
          case measure => simp [intOf]; omega
    · obtain rfl : k = N + 1 := by omega
      have HOK := Lib.hid ((orderOk_perm hperm).trans (upL_ok (by omega) (by omega)))
      clear hperm
      go_wp2
      go_ret
      exact ⟨_, _, _, _, rfl, hown, by omega, HOK.out, hcur⟩

def DrawnOrder (w : World) (e : Ending) (w' : World) : Prop :=
  ∃ (B : Option Addr) (m d : Nat) (xs : List Int), e = .returned (.slice B m d) ∧ w'.ownsRow w.heap.size 3 1 (.slice B m d) m (ints xs) ∧ m ≤ 7 ∧ orderOk xs = true ∧ Below w.heap.size w w'
theorem spec_DrawOrder {w : World} {n c : Nat} {A : Option Addr} {bs : List Int} (hr : Reads w 1 A n (u8s bs)) (hb : ∀ x ∈ bs, 0 ≤ x ∧ x ≤ 255) (hn : n ≤ 1048576) :
    Calls Try.prog 27 #[.slice A n c] w (DrawnOrder w) := by
  go_enter Try.func27, Try.ntmps27
  go_wp2_with fail
  refine (spec_l01New hr hb hn).mono ?_
  rintro e w1 ⟨G, rfl, hc1, _, hb1⟩
  have HC1 := Lib.hid hc1
  have hz := hb1.size
  clear hc1 hb1
  go_wp2_with fail
  refine (spec_l07Order HC1.out).mono ?_
  rintro e w2 ⟨B, m, d, xs, rfl, ho, h7, hok, hc2⟩
  have H := Lib.hid (show DrawnOrder w (.returned (.slice B m d)) w2 from ⟨B, m, d, xs, rfl, ownsRow_le ho hz, h7, hok, hc2.base⟩)
  clear ho hok hc2
  go_wp2
  go_ret
  exact H.out
end Go.Proofs.Ytbdiknfgfnibnaa
