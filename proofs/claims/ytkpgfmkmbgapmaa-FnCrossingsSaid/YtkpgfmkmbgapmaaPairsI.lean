/- The contract of the program's PairsOf; no condition beyond the slice's length. -/
import Derived.Test.YtkpgfmkmbgapmaaPairs
import Derived.Test.YtkpgfmkmbgapmaaKit3
namespace Go.Proofs.Ytkpgfmkmbgapmaa
open Go.ChangeShapes Go.WideShapes Go.ChangeAt Go.RowKit Go.Deep Go.Joins
set_option maxRecDepth 100000

theorem own_row_off {w : World} {base size n c g : Nat} {e t : TypeId} {A : Option Addr} {xs cs : List Value} (h : w.ownsRow base e size (.slice A n c) n xs) (hr : Row w g t cs) (hne : e ≠ t) : Off A g := by
  intro a ha hg
  rcases h.2 with ⟨hv, _⟩ | ⟨g1, cap, cur, hv, _, hh, _⟩
  · injection hv with hv; rw [hv] at ha; cases ha
  · injection hv with hv
    rw [hv] at ha
    injection ha with ha
    subst ha
    simp only at hg
    subst hg
    unfold Row at hr
    rw [hr] at hh
    injection hh with hh
    injection hh with _ ht
    exact hne ht.symm
theorem S2_own {w : World} {bo lo n c : Nat} {A : Option Addr} {xss : List (List Int)} (h : OwnsS2 w bo lo A n c xss) : ∃ ys, w.ownsRow bo 34 1 (.slice A n c) n ys := by
  obtain ⟨rs, h1, _⟩ := h
  exact ⟨_, h1⟩
def PairStep (w : World) (O bo lo : Nat) (A : Option Addr) (n c : Nat) (yss : List (List Int)) (e : Ending) (w' : World) : Prop :=
  e = .returned (.tuple #[]) ∧ ∃ A' c' wm, Row w' O 40 [.slice A' (n + 1) c'] ∧ OwnsS2 w' bo lo A' (n + 1) c' yss ∧ w.grownBy wm (Value.slice A n c).ownBlock ∧ wm.grownBy w' (some O)

set_option maxHeartbeats 4000000 in
theorem impl_PairsOf_1 {w : World} {O : Nat} {a l r : Int} {f : Bool} {bo lo n c : Nat} {A : Option Addr} {xss : List (List Int)} (hO : Row w O 40 [.slice A n c]) (hS : OwnsS2 w bo lo A n c xss) (hbo : bo ≤ w.heap.size) (hlo : lo ≤ w.heap.size) (hOl : O < lo) (hn : n ≤ 40) :
    Calls Try.prog 47 #[.agg #[.int .i64 a, .bool f], .int .i64 l, .int .i64 r, .pointer (some ⟨O, 0, none⟩)] w (PairStep w O bo lo A n c (xss ++ [pairC f l r])) := by
  obtain ⟨i0, hi, hz0, hz1, hz2⟩ := info_parts info_ps
  obtain ⟨rs, q1, q2, q3, q4⟩ := hS
  have HQ2 := Lib.hid q2
  have HQ3 := Lib.hid q3
  have HQ4 := Lib.hid q4
  have zO := hO.lt
  have s0 := hO.cell_ (i := 0) rfl
  clear q2 q3 q4
  cases f with
  | true =>
    have h1W := (q1.alloc (.cells #[.int .i64 a, .bool true] 49)).alloc (.cells #[.int .i64 l, .int .i64 r] 3)
    have hrow := (Row.new (w.alloc (.cells #[.int .i64 a, .bool true] 49)) 3 [.int .i64 l, .int .i64 r]).own (base := (w.alloc (.cells #[.int .i64 a, .bool true] 49)).heap.size) (size := 1) (n := 2) (xs := ints (pairC true l r)) (Nat.le_refl _) (Nat.le_refl 2) (by unfold maxLen; omega) rfl rfl
    have hOW := (hO.alloc (.cells #[.int .i64 a, .bool true] 49)).alloc (.cells #[.int .i64 l, .int .i64 r] 3)
    have hgW := grown_trans (World.grownBy_alloc w (.cells #[.int .i64 a, .bool true] 49) (Value.slice A n c).ownBlock) (World.grownBy_alloc (w.alloc (.cells #[.int .i64 a, .bool true] 49)) (.cells #[.int .i64 l, .int .i64 r] 3) (Value.slice A n c).ownBlock)
    have HRW := Lib.hid hrow
    have HQ1 := Lib.hid (q1.alloc (.cells #[.int .i64 a, .bool true] 49))
    clear hrow
    go_enter Try.func47, Try.ntmps47
    go_wp2_with (at_builtin; refine wp_app rfl _ _ 40 rfl bo 34 i0 (.slice none 0 0) 1 24 Try.underlying40 hi hz0 hz1 hz2 rfl (by decide) rfl h1W [.slice (some ⟨w.heap.size + 1, 0, none⟩) 2 2] rfl (by simp [Value.oneCell']) rfl (by simp) (by unfold maxLen; omega) (by omega) (by simp; omega) ?_; intro A3 c3 w3 hown3 hg3; have hO3 := hOW.grown hg3 (own_row_off h1W hOW (by decide)).row; have d0 := hO3.cell_ (i := 0) rfl; have f0 := hO3.frozen 0)
    go_end0
    have e1 : (w.alloc (.cells #[.int .i64 a, .bool true] 49)).heap.size = w.heap.size + 1 := by simp
    have hS3 := S2_snoc (r := ⟨some ⟨(w.alloc (.cells #[.int .i64 a, .bool true] 49)).heap.size, 0, none⟩, 2, 2⟩) HQ1.out HQ2.out (fun i r xs x y => (HQ3.out i r xs x y).alloc _) HQ4.out (by go_grown) HRW.out (by simp; omega) hg3 (by rw [← e1] at hown3; exact hown3)
    exact ⟨rfl, A3, c3, w3, hO3.set 0 _, hS3.grown (grown_setCell (World.grownBy.refl w3 (some O)) (p := ⟨O, 0, none⟩) (.inl rfl) _) (fun b hb => by
      injection hb with hb
      subst hb
      exact ⟨hOl, own_row_off hown3 hO3 (by decide)⟩), grown_trans hgW hg3, grown_setCell (World.grownBy.refl w3 (some O)) (p := ⟨O, 0, none⟩) (.inl rfl) _⟩
  | false =>
    have h1W := (q1.alloc (.cells #[.int .i64 a, .bool false] 49)).alloc (.cells #[.int .i64 r, .int .i64 l] 3)
    have hrow := (Row.new (w.alloc (.cells #[.int .i64 a, .bool false] 49)) 3 [.int .i64 r, .int .i64 l]).own (base := (w.alloc (.cells #[.int .i64 a, .bool false] 49)).heap.size) (size := 1) (n := 2) (xs := ints (pairC false l r)) (Nat.le_refl _) (Nat.le_refl 2) (by unfold maxLen; omega) rfl rfl
    have hOW := (hO.alloc (.cells #[.int .i64 a, .bool false] 49)).alloc (.cells #[.int .i64 r, .int .i64 l] 3)
    have hgW := grown_trans (World.grownBy_alloc w (.cells #[.int .i64 a, .bool false] 49) (Value.slice A n c).ownBlock) (World.grownBy_alloc (w.alloc (.cells #[.int .i64 a, .bool false] 49)) (.cells #[.int .i64 r, .int .i64 l] 3) (Value.slice A n c).ownBlock)
    have HRW := Lib.hid hrow
    have HQ1 := Lib.hid (q1.alloc (.cells #[.int .i64 a, .bool false] 49))
    clear hrow
    go_enter Try.func47, Try.ntmps47
    go_wp2_with (at_builtin; refine wp_app rfl _ _ 40 rfl bo 34 i0 (.slice none 0 0) 1 24 Try.underlying40 hi hz0 hz1 hz2 rfl (by decide) rfl h1W [.slice (some ⟨w.heap.size + 1, 0, none⟩) 2 2] rfl (by simp [Value.oneCell']) rfl (by simp) (by unfold maxLen; omega) (by omega) (by simp; omega) ?_; intro A3 c3 w3 hown3 hg3; have hO3 := hOW.grown hg3 (own_row_off h1W hOW (by decide)).row; have d0 := hO3.cell_ (i := 0) rfl; have f0 := hO3.frozen 0)
    go_end0
    have e1 : (w.alloc (.cells #[.int .i64 a, .bool false] 49)).heap.size = w.heap.size + 1 := by simp
    have hS3 := S2_snoc (r := ⟨some ⟨(w.alloc (.cells #[.int .i64 a, .bool false] 49)).heap.size, 0, none⟩, 2, 2⟩) HQ1.out HQ2.out (fun i r xs x y => (HQ3.out i r xs x y).alloc _) HQ4.out (by go_grown) HRW.out (by simp; omega) hg3 (by rw [← e1] at hown3; exact hown3)
    exact ⟨rfl, A3, c3, w3, hO3.set 0 _, hS3.grown (grown_setCell (World.grownBy.refl w3 (some O)) (p := ⟨O, 0, none⟩) (.inl rfl) _) (fun b hb => by
      injection hb with hb
      subst hb
      exact ⟨hOl, own_row_off hown3 hO3 (by decide)⟩), grown_trans hgW hg3, grown_setCell (World.grownBy.refl w3 (some O)) (p := ⟨O, 0, none⟩) (.inl rfl) _⟩

set_option maxHeartbeats 4000000 in
theorem impl_follow_PairsOf {W0 w : World} {N O c0 : Nat} {A A0 : Option Addr} {m c : Nat} {ls : List Cr} (hr : Reads W0 2 A m (crs ls)) (hm : m ≤ 1048576) (hc : crossesOk (N : Int) ls = true) (hB : Below W0.heap.size W0 w) (hO : Row w O 40 [.slice A0 0 c0]) (hO0 : W0.heap.size ≤ O) (hS : OwnsS2 w W0.heap.size W0.heap.size A0 0 c0 []) :
    Calls Try.prog 45 #[.int .i64 N, .slice A m c, .func (.func 47) #[] #[.pointer (some ⟨O, 0, none⟩)]] w fun e w' => ∃ v A' c' lo, e = .returned v ∧ W0.heap.size ≤ lo ∧ Row w' O 40 [.slice A' m c'] ∧ OwnsS2 w' W0.heap.size lo A' m c' (pairsTo N ls m) ∧ Below W0.heap.size W0 w' := by
  have hf := crossFacts hc
  have h1 := hf.n1
  have h7 := hf.n7
  have hm40 : m ≤ 40 := by have := hf.len; have := hr.crlen; omega
  have AT := Lib.hid hf.at_
  have zO := hO.lt
  have zB := hB.size
  clear hc hf
  go_enter Try.func45, Try.ntmps45
  go_wp2_with fail
  refine (impl_upTo (by omega)).mono ?_
  rintro e w1 ⟨A1, c1, rfl, hown1, hb1⟩
  obtain ⟨g, rfl, hbg, hgl⟩ := own_form hown1 (by omega)
  have hO1 := hO.below hb1
  have hS1 : OwnsS2 w1 W0.heap.size w1.heap.size A0 0 c0 [] := (hS.below hb1).lift
  have hB1 := hB.trans (hb1.mono hB.size)
  have z1 := hb1.size
  clear hO hS hB hb1
  go_wp2
  go_loopw [14] (fun i wr => ∃ (k : Nat) (An : Option Addr) (cn : Nat), k ≤ m ∧ i = .int .i64 k ∧ wr.ownsRow w.heap.size 3 1 (.slice (some ⟨g, 0, none⟩) N c1) N (ints (orderTo N ls k)) ∧ Row wr O 40 [.slice An k cn] ∧ OwnsS2 wr W0.heap.size w1.heap.size An k cn (pairsTo N ls k) ∧ Below W0.heap.size W0 wr ∧ w1.heap.size ≤ wr.heap.size) (fun i _ => m - (intOf i).toNat)
  case atStart => exact ⟨0, A0, c0, by omega, rfl, hown1, hO1, hS1, hB1, Nat.le_refl _⟩
  case round =>
    obtain ⟨k, An, cn, hk, rfl, hown, hOr, hSr, hbel, zr⟩ := hrel
    clear hown1 hO1 hS1 hB1
    by_cases hlt : k < m
    · obtain ⟨b, o, x, rfl, hbB, hx, c0', c1'⟩ := (hr.below hbel).cr hlt
      obtain ⟨a0, a1⟩ := AT.out x (List.mem_of_getElem? hx)
      have HS := Lib.hid (orderTo_step (N := N) hx)
      have hlen := orderTo_len N ls k
      have HX0 := Lib.hid hx
      clear hx
      obtain ⟨xa, xf⟩ := x
      simp only at a0 a1 c0' c1' HS
      obtain ⟨j, rfl⟩ := Int.eq_ofNat_of_zero_le a0
      have hj1 : j + 1 < N := by omega
      have ha : (orderTo N ls k)[j]? = some ((orderTo N ls k)[j]'(by omega)) := List.getElem?_eq_getElem (by omega)
      have hb : (orderTo N ls k)[j + 1]? = some ((orderTo N ls k)[j + 1]'(by omega)) := List.getElem?_eq_getElem (by omega)
      generalize (orderTo N ls k)[j]'(by omega) = a at ha
      generalize (orderTo N ls k)[j + 1]'(by omega) = z at hb
      have HP : Hid (pairsTo N ls (k + 1) = pairsTo N ls k ++ [pairC xf a z]) := Lib.hid (pairsTo_step HX0.out (by simpa using ha) (by simpa using hb))
      have fr0 : j < (orderTo N ls k).length := by omega
      have fr1 : j + 1 < (orderTo N ls k).length := by omega
      clear hlen
      have hbx := Row.new wr 49 [.int .i64 (j : Int), .bool xf]
      have hbw : Below wr.heap.size wr (wr.alloc (.cells #[.int .i64 (j : Int), .bool xf] 49)) := by go_grown
      have hown2 := own_below hown hbw
      have hO2 := hOr.below hbw
      have hS2 := hSr.below hbw
      obtain ⟨oys, hoA⟩ := S2_own hSr
      have bAn := own_blk hoA
      have p0 := own_int hown2 ha
      have p1 := own_int hown2 hb
      have l1 : (j : Int) < (N : Int) := by omega
      have l2 : (j : Int) + 1 < (N : Int) := by omega
      have hj0 : j < N := by omega
      have HO := Lib.hid hown2
      have HA := Lib.hid ha
      have HZ := Lib.hid hb
      have HX := Lib.hid hbx
      have HOO := Lib.hid hO2
      have HSS := Lib.hid hS2
      have q0 := hbx.cell_ (i := 0) rfl
      have q1 := hbx.cell_ (i := 1) rfl
      clear hown2 ha hb hbx hO2 hS2 hoA
      have hAl : Below W0.heap.size W0 (wr.alloc (.cells #[.int .i64 (j : Int), .bool xf] 49)) := hbel.alloc hbel.size _
      have zbx : wr.heap.size < (wr.alloc (.cells #[.int .i64 (j : Int), .bool xf] 49)).heap.size := by simp
      have ne1 : g ≠ wr.heap.size := by omega
      have ne2 : wr.heap.size ≠ g := by omega
      have ne3 : O ≠ g := by omega
      have ne4 : g ≠ O := by omega
      have ne5 : wr.heap.size ≠ O := by omega
      clear hbel hown hOr hSr hbw
      go_wp2
      generalize wr.alloc (.cells #[.int .i64 (j : Int), .bool xf] 49) = Wb at *
      have W1 : IntKind.i64.wrap ((j : Int) + 1) = (j : Int) + 1 := IntWalk.i64_in _ (by omega)
      have W2 : ((j : Int) + 1).toNat = j + 1 := by omega
      have W3 : 0 ≤ (j : Int) + 1 := by omega
      go_still_tail 13, (by kernel_rfl)
      clear p0 p1 q0 q1 W1 W2 W3
      go_wp2_with (go_at_call 47; refine (impl_PairsOf_1 (HOO.out.drewN _) (HSS.out.drewN _) (by have : W0.heap.size ≤ Wb.heap.size := (by omega); exact this) (by have : w1.heap.size ≤ Wb.heap.size := (by omega); exact this) (by omega) (by omega)).mono ?_; rintro e w3 ⟨rfl, A3, c3, wm, hO3, hS3, hgA, hgO⟩)
      obtain ⟨ys2, ho2⟩ := S2_own HSS.out
      have hown3 := own_grown (own_grown (own_drewN HO.out _) hgA (fun g' e => own_ne HO.out ho2 (by decide) e)) hgO (fun g' e hc => by injection e with e; injection e with e _; injection hc with hc; omega)
      have hbx3 := ((HX.out.drewN _).grown hgA (Off.of_blk bAn (.inr (Nat.le_refl _))).row).grown hgO (by intro hc; injection hc with hc; omega)
      have hbel3 : Below W0.heap.size W0 w3 := bel_next (bel_apart (below_drewN hAl _) hgA bAn (Nat.le_refl _)) hgO (fun k hk => by injection hk with hk; omega)
      have z3 : Wb.heap.size ≤ w3.heap.size := Nat.le_trans hgA.size hgO.size
      have p0 := own_int hown3 HA.out
      have p1 := own_int hown3 HZ.out
      have f0 := own_frozen hown3 fr0
      have f1 := own_frozen hown3 fr1
      have q0 := hbx3.cell_ (i := 0) rfl
      have HW := Lib.hid (own_swap hown3 HA.out HZ.out)
      have HSW := Lib.hid (hS3.grown (grown_setCell (grown_setCell (World.grownBy.refl w3 (some g)) (p := ⟨g, j, none⟩) (.inl rfl) (.int .i64 z)) (p := ⟨g, j + 1, none⟩) (.inl rfl) (.int .i64 a)) (fun b hb => by
        injection hb with hb
        subst hb
        obtain ⟨ys3, ho3⟩ := S2_own hS3
        refine ⟨by omega, fun a' ha' hc => ?_⟩
        have := own_ne hown3 ho3 (by decide) rfl
        rw [ha'] at this
        exact this (by rw [← hc]; rfl)))
      have HOW := Lib.hid ((hO3.far (p := ⟨g, j, none⟩) ne3 (.int .i64 z)).far (p := ⟨g, j + 1, none⟩) ne3 (.int .i64 a))
      clear hown3 hbx3 hAl hS3 hO3 hgA hgO ho2
      go_region
      go_wp2
      go_roundw
      case rel => exact ⟨k + 1, A3, c3, by omega, by go_num, by rw [HS.out]; exact own_drewN HW.out 1, HOW.out.drewN 1, by rw [HP.out]; exact HSW.out.drewN 1, below_drewN ((hbel3.setCell (p := ⟨g, j, none⟩) (by simp; omega) _).setCell (p := ⟨g, j + 1, none⟩) (by simp; omega) _) 1, by simp [World.setCell] at *; omega⟩
      case measure => simp [intOf]; omega
    · obtain rfl : k = m := by omega
      go_wp2
      go_ret
      exact ⟨_, An, cn, _, rfl, by omega, hOr, hSr, hbel⟩

set_option maxHeartbeats 4000000 in
theorem impl_PairsOf {n : Int} {A : Option Addr} {m c : Nat} {ls : List Cr} {w : World} (hr : Reads w 2 A m (crs ls)) (hm : m ≤ 1048576) :
    Calls Try.prog 32 #[.int .i64 n, .slice A m c] w fun e w' => ∃ A' n' c', e = .returned (.slice A' n' c') ∧ OwnsSS w' w.heap.size w'.heap.size A' n' c' (pairsOf n ls) ∧ n' + totSS (pairsOf n ls) ≤ 1048576 ∧ Below w.heap.size w w' := by
  have hl := hr.crlen
  cases hb : crossesOk n ls with
  | false =>
    have E := Lib.hid hb
    have S := Lib.hid (pairsOf_no hb)
    clear hb
    go_enter Try.func32, Try.ntmps32
    go_wp2_with fail
    refine (impl_CrossesOk hr hm).mono ?_
    rintro e w1 ⟨rfl, hb1⟩
    rw [E.out]
    go_wp2
    go_ret
    exact ⟨none, 0, 0, rfl, by rw [S.out]; exact nilSS hb1, by rw [S.out]; simp [totSS], hb1⟩
  | true =>
    have hf := crossFacts hb
    have h1 := hf.n1
    have h7 := hf.n7
    have h40 := hf.len
    obtain ⟨N, rfl⟩ := Int.eq_ofNat_of_zero_le (show 0 ≤ n by omega)
    have E := Lib.hid hb
    have S := Lib.hid (pairsOf_yes hb)
    have HL := Lib.hid hl
    clear hb hf
    go_enter Try.func32, Try.ntmps32
    go_wp2_with fail
    refine (impl_CrossesOk hr hm).mono ?_
    rintro e w1 ⟨rfl, hb1⟩
    rw [E.out]
    have z1 := hb1.size
    have hO := Row.new (w1.alloc (.cells #[] 34)) 40 [.slice (some ⟨w1.heap.size, 0, none⟩) 0 0]
    rw [World.size_alloc] at hO
    have hS := (own_emptyS2 w1 w1.heap.size).below (by go_grown : Below (w1.alloc (.cells #[] 34)).heap.size (w1.alloc (.cells #[] 34)) ((w1.alloc (.cells #[] 34)).alloc (.cells #[.slice (some ⟨w1.heap.size, 0, none⟩) 0 0] 40)))
    have hB : Below w1.heap.size w1 ((w1.alloc (.cells #[] 34)).alloc (.cells #[.slice (some ⟨w1.heap.size, 0, none⟩) 0 0] 40)) := by go_grown
    have hr1 := hr.below hb1
    go_wp2_with fail
    refine (impl_follow_PairsOf hr1 hm E.out hB hO (by omega) hS).mono ?_
    rintro e w2 ⟨v, A2, c2, lo, rfl, hlo, hO2, hS2, hb2⟩
    have s0 := hO2.cell_ (i := 0) rfl
    clear hO hS hB
    go_wp2
    go_ret
    have ht := pairsTo_tot N ls m
    exact ⟨A2, m, c2, rfl, by rw [S.out, HL.out]; exact (hS2.SS hlo).lower z1, by rw [S.out, HL.out]; omega, hb1.trans (hb2.mono z1)⟩
end Go.Proofs.Ytkpgfmkmbgapmaa
