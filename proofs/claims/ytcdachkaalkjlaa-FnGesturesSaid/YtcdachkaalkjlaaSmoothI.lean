/- The contract of the program's Smoothed; no condition beyond the slices' lengths. -/
import Derived.Test.YtcdachkaalkjlaaSmooth
import Derived.Test.YtcdachkaalkjlaaClamp
import Derived.Test.YtcdachkaalkjlaaSS3
import Derived.Test.YtcdachkaalkjlaaSwap
import Derived.Test.YtcdachkaalkjlaaSameI
import Derived.Test.YtcdachkaalkjlaaKit3
namespace Go.Proofs.Ytcdachkaalkjlaa
open Go.ChangeShapes Go.WideShapes Go.ChangeAt Go.RowKit Go.Deep Go.Joins
set_option maxRecDepth 100000

theorem impl_Smoothed_1 {a b m : Int} {M : Nat} {w : World} (hM : Row w M 3 [.int .i64 m]) (a1 : -2000 ≤ a) (a2 : a ≤ 2000) (m1 : 0 ≤ m) (m2 : m ≤ 4000) :
    Calls Try.prog 56 #[.int .i64 a, .int .i64 b, .pointer (some ⟨M, 0, none⟩)] w fun e w' => e = .returned (.int .i64 (clF m a b)) ∧ w = w' := by
  have q0 := hM.cell_ (i := 0) rfl
  have hc : clampS b (a - m) (a + m) = clF m a b := by unfold clampS clF; omega
  have HC := Lib.hid hc
  clear hc
  go_enter Try.func56, Try.ntmps56
  go_wp2_with fail
  refine (impl_clamp _ _ _ _).mono ?_
  rintro e w1 ⟨rfl, rfl⟩
  rw [HC.out]
  go_wp2
  go_ret
  exact ⟨rfl, rfl⟩

set_option maxHeartbeats 4000000 in
theorem impl_both_Smoothed {A B : Option Addr} {m n c d M : Nat} {mo : Int} {p q : List Int} {w : World} (hp : Reads w 1 A m (ints p)) (hm : m ≤ 1048576) (hq : Reads w 1 B n (ints q)) (hn : n ≤ 1048576) (hok : stepOk p q = true) (hM : Row w M 3 [.int .i64 mo]) (m1 : 0 ≤ mo) (m2 : mo ≤ 4000) :
    Calls Try.prog 42 #[.slice A m c, .slice B n d, .func (.func 56) #[] #[.pointer (some ⟨M, 0, none⟩)]] w fun e w' => ∃ A' n' c', e = .returned (.slice A' n' c') ∧ w'.ownsRow w.heap.size 3 1 (.slice A' n' c') n' (ints (nx mo p q)) ∧ n' ≤ 12 ∧ Below w.heap.size w w' := by
  have hlp := hp.len
  have hlq := hq.len
  obtain ⟨f1, f2, f3, f4⟩ := stepFacts hok
  have S := Lib.hid (stepSize_yes hok)
  have hbd := (stepTo_bd f3 f4 p.length).1
  have F3 := Lib.hid f3
  have F4 := Lib.hid f4
  clear hok f3 f4
  obtain rfl : m = n := by omega
  have hm12 : m ≤ 12 := by omega
  have HNX : Hid (nx mo p q = bothTo (clF mo) p q m) := Lib.hid (by rw [← hlp]; rfl)
  obtain ⟨i0, hi, hz0, hz1, hz2⟩ := info_parts info_b
  generalize stepTo p q p.length = T at hbd S
  go_enter Try.func42, Try.ntmps42
  go_wp2_with fail
  refine (impl_StepSize hp hm hq hn).mono ?_
  rintro e w1 ⟨rfl, hb1⟩
  rw [S.out]
  have ho := ownsRow_le (own_empty w1 3 1) hb1.size
  have zB := hb1.size
  go_wp2
  go_loopw [7, 16] (fun v i wr => ∃ (k : Nat) (A' : Option Addr) (n' c' : Nat), k ≤ m ∧ i = .int .i64 k ∧ v = .slice A' n' c' ∧ n' ≤ k ∧ wr.ownsRow w.heap.size 3 1 (.slice A' n' c') n' (ints (bothTo (clF mo) p q k)) ∧ Below w.heap.size w wr) (fun _ i _ => m - (intOf i).toNat)
  case atStart => exact ⟨0, _, 0, 0, by omega, rfl, rfl, by omega, ho, hb1.trans ((by go_grown : Below w1.heap.size w1 _).mono zB)⟩
  case round =>
    obtain ⟨k, A', n', c', hk, rfl, rfl, hnb, hown, hbel⟩ := hrel
    clear ho hb1 zB
    by_cases hlt : k < m
    · obtain ⟨b, o, a, rfl, hbB, ha, c0⟩ := hp.int hlt
      obtain ⟨b', o', z, rfl, hbB', hz, c1⟩ := hq.int hlt
      replace c0 := keep_cell hbel c0
      replace c1 := keep_cell hbel c1
      have l1 : (k : Int) < (m : Int) := by omega
      have HS := Lib.hid (bothTo_step (g := clF mo) ha hz)
      obtain ⟨a1, a2⟩ := inAll_at F3.out ha
      obtain ⟨z1, z2⟩ := inAll_at F4.out hz
      have bA := own_blk hown
      have zw := hbel.size
      have hnm : n' + 1 ≤ 1048576 := by omega
      have hMr := hM.below hbel
      clear ha hz
      go_wp2
      go_region_held3 (fun w' => w'.cell? ⟨b, o + k, none⟩ = some (.int .i64 a) ∧ w'.cell? ⟨b', o' + k, none⟩ = some (.int .i64 z)) (first | go_keep | exact ⟨k0, k1⟩)
        (first | (go_at_call 56; refine (impl_Smoothed_1 (hMr.drewN _) a1 a2 m1 m2).mono ?_; rintro e w2 ⟨rfl, rfl⟩) | (refine step_app (wr.drewN _) (by rfl) _ _ 22 (by rfl) w.heap.size 3 i0 (.int .i64 0) 1 8 Try.underlying22 hi hz0 hz1 hz2 rfl (by decide) (by rfl) (own_drewN hown _) [.int .i64 (clF mo a z)] rfl (by simp [Value.oneCell']) (by rfl) (by rfl) (by unfold maxLen; omega) (by omega) zw (by rfl) ?_; intro g2 c2 w2 hown2 hg2; have k0 := grown_keep hg2 bA hbB c0; have k1 := grown_keep hg2 bA hbB' c1))
      clear k0 k1
      go_wp2
      go_roundw
      case rel => exact ⟨k + 1, _, n' + 1, c2, by omega, by go_num, rfl, by omega, by rw [HS.out, ints_append]; exact hown2, bel_apart (below_drewN hbel _) hg2 bA (Nat.le_refl _)⟩
      case measure => simp [intOf]; omega
    · obtain rfl : k = m := by omega
      go_wp2
      go_ret
      exact ⟨A', n', c', rfl, by rw [HNX.out]; exact hown, by omega, hbel⟩
theorem smooth_no1 {n m : Int} {ls : List Lb} {p q : List Int} (h : poseOk n ls p = false) : smoothed n ls p q m = [] := smoothed_no (by simp [smoothOk, h])
theorem smooth_no2 {n m : Int} {ls : List Lb} {p q : List Int} (h : poseOk n ls q = false) : smoothed n ls p q m = [] := smoothed_no (by simp [smoothOk, h])
theorem smooth_no3 {n m : Int} {ls : List Lb} {p q : List Int} (h : m < 10 ∨ 4000 < m) : smoothed n ls p q m = [] := smoothed_no (by
  have : decide (10 ≤ m ∧ m ≤ 4000) = false := decide_eq_false (by omega)
  simp [smoothOk, this])
theorem smooth_yes3 {n m : Int} {ls : List Lb} {p q : List Int} (h1 : poseOk n ls p = true) (h2 : poseOk n ls q = true) (h3 : 10 ≤ m) (h4 : m ≤ 4000) : smoothOk n ls p q m = true := by simp [smoothOk, h1, h2, h3, h4]
theorem info_ss : (Try.prog.info? 22).map (fun i => (i.zero, i.size, i.bytes)) = some (some (.slice none 0 0), 1, 24) := by kernel_rfl
def lenV : Value → Nat
  | .slice _ n _ => n
  | _ => 0
theorem own_neo {w : World} {b1 b2 s1 s2 n1 n2 c1 c2 : Nat} {e1 e2 : TypeId} {A B : Option Addr} {xs ys : List Value} (h : w.ownsRow b1 e1 s1 (.slice A n1 c1) n1 xs) (h' : w.ownsRow b2 e2 s2 (.slice B n2 c2) n2 ys) (hne : e1 ≠ e2)
    {b o : Nat} (hA : A = some ⟨b, o, none⟩) : (Value.slice B n2 c2).ownBlock ≠ some b := by
  rcases h.2 with ⟨hv, _⟩ | ⟨g1, _, cur1, hv1, _, hh1, _⟩
  · injection hv with hv; rw [hA] at hv; cases hv
  · injection hv1 with hv1
    rw [hA] at hv1
    injection hv1 with hv1
    injection hv1 with q1 q2 _
    subst q1 q2
    exact own_ne h h' hne hA
theorem own_oneS2 {w : World} {lo n c : Nat} {A : Option Addr} {xs : List Int} (h : w.ownsRow lo 3 1 (.slice A n c) n (ints xs)) (hlo : lo ≤ w.heap.size) :
    OwnsS2 (w.alloc (.cells #[.slice A n c] 22)) lo lo (some ⟨w.heap.size, 0, none⟩) 1 1 [xs] := by
  refine ⟨[⟨A, n, c⟩], ownsRow_le (own_one w 22 (.slice A n c)) hlo, rfl, fun i r ys hr hx => ?_, fun i j r s hij _ hj => ?_⟩
  · have : i = 0 := by have := (List.getElem?_eq_some_iff.1 hr).1; simp at this; exact this
    subst this
    simp at hr hx
    subst hr hx
    exact h.alloc _
  · have := (List.getElem?_eq_some_iff.1 hj).1
    simp at this
    omega

set_option maxHeartbeats 8000000 in
theorem impl_Smoothed {n mo : Int} {A B C : Option Addr} {m c q d r f : Nat} {ls : List Lb} {ps qs : List Int} {w : World} (hr : Reads w 3 A m (lbs ls)) (hm : m ≤ 1048576) (hp : Reads w 1 B q (ints ps)) (hq : q ≤ 1048576) (hs : Reads w 1 C r (ints qs)) (hrr : r ≤ 1048576) :
    Calls Try.prog 31 #[.agg #[.int .i64 n, .slice A m c], .slice B q d, .slice C r f, .int .i64 mo] w fun e w' => ∃ A' n' c', e = .returned (.slice A' n' c') ∧ OwnsSS w' w.heap.size w'.heap.size A' n' c' (smoothed n ls ps qs mo) ∧ n' + totSS (smoothed n ls ps qs mo) ≤ 1048576 ∧ Below w.heap.size w w' := by
  have hx := (Row.new w 37 [.int .i64 n, .slice A m c]).alloc (.cells #[.int .i64 mo] 3)
  have hM := Row.new (w.alloc (.cells #[.int .i64 n, .slice A m c] 37)) 3 [.int .i64 mo]
  rw [World.size_alloc] at hM
  have nil : ∀ w' : World, Below w.heap.size w w' → OwnsSS w' w.heap.size w'.heap.size none 0 0 [] := fun w' hb =>
    ⟨[], World.ownsRow_nil _ _ _ _, nofun, rfl, fun i r xs h => by simp at h, fun i j r s _ h => by simp at h, Nat.le_refl _⟩
  have NIL := Lib.hid nil
  clear nil
  go_enter Try.func31, Try.ntmps31
  go_wp2_with fail
  refine (impl_PoseOk (hr.below (by go_grown)) hm (hp.below (by go_grown)) hq).mono ?_
  rintro e w1 ⟨rfl, hb1⟩
  have hB : Below w.heap.size w w1 := (by go_grown : Below w.heap.size w _).trans (hb1.mono (by simp; omega))
  replace hx := hx.below hb1
  replace hM := hM.below hb1
  clear hb1
  rcases Bool.eq_false_or_eq_true (poseOk n ls ps) with hbo | hbo
  rotate_left
  · have S := Lib.hid (smooth_no1 (q := qs) (m := mo) hbo)
    rw [hbo]
    clear hbo hx hM
    go_wp2
    go_ret
    exact ⟨none, 0, 0, rfl, by rw [S.out]; exact NIL.out _ hB, by rw [S.out]; simp [totSS], hB⟩
  rw [hbo]
  have HO := Lib.hid hbo
  clear hbo
  have q0 := hx.cell_ (i := 0) rfl
  have q1 := hx.cell_ (i := 1) rfl
  have q2 := hM.cell_ (i := 0) rfl
  go_wp2_with fail
  refine (impl_PoseOk (hr.below hB) hm (hs.below hB) hrr).mono ?_
  rintro e w2 ⟨rfl, hb2⟩
  have hB2 := hB.trans (hb2.mono hB.size)
  replace hx := hx.below hb2
  replace hM := hM.below hb2
  clear q0 q1 q2 hb2 hB
  rcases Bool.eq_false_or_eq_true (poseOk n ls qs) with hbo | hbo
  rotate_left
  · have S := Lib.hid (smooth_no2 (p := ps) (m := mo) hbo)
    rw [hbo]
    clear hbo hx hM
    go_wp2
    go_ret
    exact ⟨none, 0, 0, rfl, by rw [S.out]; exact NIL.out _ hB2, by rw [S.out]; simp [totSS], hB2⟩
  rw [hbo]
  have HO2 := Lib.hid hbo
  clear hbo
  have q2 := hM.cell_ (i := 0) rfl
  by_cases hmo : 10 ≤ mo ∧ mo ≤ 4000
  rotate_left
  · have S := Lib.hid (smooth_no3 (n := n) (ls := ls) (p := ps) (q := qs) (show mo < 10 ∨ 4000 < mo by omega))
    have hmo2 : mo < 10 ∨ 4000 < mo := by omega
    clear hmo
    go_wp2_with fail
    refine (within_f _ _ _ _ hmo2).mono ?_
    rintro e w' ⟨rfl, rfl⟩
    go_wp2
    go_ret
    exact ⟨none, 0, 0, rfl, by rw [S.out]; exact NIL.out _ hB2, by rw [S.out]; simp [totSS], hB2⟩
  obtain ⟨m1, m2⟩ := hmo
  have ST := Lib.hid (SmSt.start (smooth_yes3 HO.out HO2.out m1 m2))
  obtain ⟨i0, hi, hz0, hz1, hz2⟩ := info_parts info_ss
  have hlp := (poseFacts HO.out).len
  have hlq := (poseFacts HO2.out).len
  have hN12 := (tree_of (poseFacts HO.out).body).2.1
  have hl1 := hp.len
  have hl2 := hs.len
  have hq12 : q ≤ 12 := by omega
  have hr12 : r ≤ 12 := by omega
  have hpl : ps.length ≤ 12 := by omega
  have hq0 : 0 < q := by have := (tree_of (poseFacts HO.out).body).1; omega
  clear hlp hlq hN12 hl1 hl2
  go_wp2_with fail
  refine (within_t _ _ _ _ m1 m2).mono ?_
  rintro e w' ⟨rfl, rfl⟩
  go_wp2_with fail
  refine (impl_copyOf (hp.below hB2) hq).mono ?_
  rintro e w3 ⟨A1, n1, c1, rfl, ho1, hn1, hb3⟩
  have hxl := hx.lt
  have hMl := hM.lt
  have hz2w := hb3.size
  replace hx := hx.below hb3
  replace hM := hM.below hb3
  have hB3 := hB2.trans (hb3.mono hB2.size)
  have hs2 := own_oneS2 ho1 hz2w
  have hps := hp.below hB2
  have hqs := hs.below hB2
  clear ho1 q2
  go_wp2
  go_loopw [9, 10] (fun ov nv wr => ∃ (out : List (List Int)) (now : List Int) (fu : Nat) (A' : Option Addr) (n' c' : Nat) (An : Option Addr) (nn cn : Nat), ov = .slice A' n' c' ∧ nv = .slice An nn cn ∧ SmSt n ls ps qs mo out now fu ∧ totSS out ≤ 12 * out.length ∧ OwnsS2 wr w2.heap.size w2.heap.size A' n' c' out ∧ Reads wr 1 An nn (ints now) ∧ nn ≤ 12 ∧ (∀ b o, An = some ⟨b, o, none⟩ → Off A' b) ∧ Row wr w.heap.size 37 [.int .i64 n, .slice A m c] ∧ Row wr (w.heap.size + 1) 3 [.int .i64 mo] ∧ Below w.heap.size w wr ∧ w2.heap.size ≤ wr.heap.size) (fun ov _ _ => 402 - lenV ov)
  case atStart =>
    refine ⟨[ps], ps, 401, _, 1, 1, _, q, d, rfl, rfl, ST.out, by simp [totSS]; omega, hs2, (hps.below hb3).below (by go_grown), hq12, fun b o e => ?_, hx.alloc _, hM.alloc _, hB3.alloc hB3.size _, by simp; omega⟩
    rintro a ha hc
    injection ha with ha
    subst ha
    obtain ⟨b', o', e', hb', _⟩ := hps.2 hq0
    rw [e] at e'
    injection e' with e'
    injection e' with e1 _ _
    simp only at hc
    omega
  case round =>
    obtain ⟨out, now, fu, A', n', c', An, nn, cn, rfl, rfl, hst, htot, hown, hnow, hnn, hoff, hbx, hMr, hbel, zwr⟩ := hrel
    clear hs2 hx hM hB3 hps hqs hb3
    have hcnt := hst.cnt
    have hlo := hown.len
    have htb : n' + totSS out ≤ 1048576 := by omega
    have hqr := hs.below hbel
    go_wp2_with fail
    refine (impl_sameInts hnow hqr (by omega) hrr).mono ?_
    rintro e w4 ⟨rfl, q4, rfl⟩
    by_cases hne : now = qs
    · rw [decide_eq_true hne]
      rw [hne] at hst
      have HD := Lib.hid hst.done
      clear hst hne
      go_wp2
      go_ret
      exact ⟨A', n', c', rfl, by rw [HD.out]; exact ((hown.drewN q4).SS (Nat.le_refl _)).lower hB2.size, by rw [HD.out]; exact htb, below_drewN hbel q4⟩
    · rw [decide_eq_false hne]
      obtain ⟨f', rfl⟩ := hst.pos hne
      have HST := Lib.hid (hst.next (by omega) hne)
      have hok := pose_step hst.ok hst.okq
      have hlnx := nx_len (m := mo) hst.len
      have hln := hnow.len
      obtain ⟨rs, h1, h2, h3, h4⟩ := hown
      have H1 := Lib.hid (own_drewN h1 q4)
      have H2 := Lib.hid h2
      have H3 : Hid (∀ (i : Nat) (r : Sl) (xs : List Int), rs[i]? = some r → out[i]? = some xs → (wr.drewN q4).ownsRow w2.heap.size 3 1 (.slice r.A r.n r.c) r.n (ints xs)) := Lib.hid fun i r xs a b => own_drewN (h3 i r xs a b) q4
      have H4 := Lib.hid h4
      clear hst hne h2 h3 h4
      go_wp2_with fail
      refine (impl_both_Smoothed (hnow.drewN q4) (by omega) (hqr.drewN q4) hrr hok (hMr.drewN q4) (by omega) m2).mono ?_
      rintro e w5 ⟨A5, n5, c5, rfl, ho5, hn5, hb5⟩
      have hl5 := own_len ho5
      have h15 := own_below H1.out hb5
      have bA := own_blk h1
      have b5 := own_blk ho5
      have hbx5 := (hbx.drewN q4).below hb5
      have hM5 := (hMr.drewN q4).below hb5
      have hbel5 : Below w.heap.size w w5 := (below_drewN hbel q4).trans (hb5.mono hbel.size)
      have z5 : wr.heap.size ≤ w5.heap.size := hb5.size
      have zw : w2.heap.size ≤ w5.heap.size := by omega
      have bA5 : Blk A' w2.heap.size w5.heap.size := own_blk h15
      have hn402 : n' ≤ 402 := by omega
      have HLL := Lib.hid (And.intro hl5 (And.intro hlnx (And.intro hln hlo)))
      clear hok h1 hbx hMr hnow hqr hl5 hlnx hln hlo
      go_wp2_with (at_builtin; refine wp_app_off w5 rfl _ _ 31 rfl w2.heap.size 22 i0 (.slice none 0 0) 1 24 Try.underlying31 hi hz0 hz1 hz2 rfl (by decide) rfl h15 [.slice A5 n5 c5] rfl (by simp [Value.oneCell']) rfl (by simp) (by unfold maxLen; omega) (by omega) zw rfl ?_; intro g6 c6 w6 hown6 hg6 hof6)
      go_roundw
      case rel =>
        refine ⟨out ++ [nx mo now qs], nx mo now qs, f', _, n' + 1, c6, A5, n5, c5, rfl, rfl, HST.out, ?_, ?_, ?_, hn5, ?_, ?_, ?_, ?_, ?_⟩
        · obtain ⟨hl5, hlnx, hln, hlo⟩ := HLL.out
          rw [totSS_app]; simp [totSS]; omega
        · exact S2_snoc (r := ⟨A5, n5, c5⟩) H1.out H2.out H3.out H4.out hb5 ho5 zwr hg6 hown6
        · exact (Reads.of_own ho5).grown hg6 fun b o e hc => own_neo ho5 h15 (by decide) e hc.symm
        · intro b o e
          have hb := b5 _ e
          exact hof6 b hb.2 (Off.of_blk bA (.inr hb.1))
        · exact row_apart hbx5 hg6 bA5 (by omega)
        · exact row_apart hM5 hg6 bA5 (by omega)
        · exact bel_apart hbel5 hg6 bA5 (by omega)
        · have := hg6.size; omega
      case measure => obtain ⟨_, _, _, hlo⟩ := HLL.out; simp [lenV]; omega
end Go.Proofs.Ytcdachkaalkjlaa
