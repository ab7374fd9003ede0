/- The contract of the reference's l03Walk toward the root: it returns the chain in new memory; the tree and the lengths are premises. -/
import Derived.Test.YtnghfocboodkhaaWalk
namespace Go.Proofs.Ytnghfocboodkhaa
open Go.ChangeShapes Go.WideShapes Go.ChangeAt Go.RowKit Go.Deep Go.Joins
set_option maxRecDepth 100000

def chI (ls : List Lb) (d : Nat → Int) (J v : Nat) : List Int := (chain ls d J v).map fun u : Nat => (u : Int)

set_option maxHeartbeats 8000000 in
theorem walk_up {N J : Nat} {ls : List Lb} {d : Nat → Int} (t : TD N ls J d) (hN : N ≤ 12) : ∀ (a v : Nat), v < N → d v < (a : Int) → ∀ (f : Int), (v ≠ J → ∀ x ∈ ls, par d v x = true → ((other x v : Nat) : Int) ≠ f) →
    ∀ (w : World) (A : Option Addr) (m c : Nat), Reads w 3 A m (lbs ls) → m ≤ 1048576 →
      Calls Try.prog 58 #[.agg #[.int .i64 (N : Int), .slice A m c], .int .i64 (v : Int), .int .i64 (J : Int), .int .i64 f] w fun e w' =>
        ∃ A' n' c', e = .returned (.slice A' n' c') ∧ w'.ownsRow w.heap.size 3 1 (.slice A' n' c') n' (ints (chI ls d J v)) ∧ n' ≤ 1200 ∧ Below w.heap.size w w' := by
  intro a
  induction a with
  | zero => intro v hv ha; have := t.nn v hv; omega
  | succ a ih =>
    intro v hv ha f hf w A m c hr hm
    have hlen : ls.length = m := by have := hr.1; rw [lbs_length] at this; omega
    have hbx0 := Row.new w 24 [.int .i64 (N : Int), .slice A m c]
    by_cases hvJ : v = J
    · subst hvJ
      have hc := Lib.hid (show chI ls d v v = [(v : Int)] by simp [chI, t.chain_root])
      clear ih hf
      go_enter Try.func58, Try.ntmps58
      go_wp2_with fail
      go_ret
      have ho := own_one (w.alloc (.cells #[.int .i64 (N : Int), .slice A m c] 24)) 3 (.int .i64 (v : Int))
      rw [World.size_alloc] at ho
      exact ⟨_, 1, 1, rfl, by rw [hc.out]; exact ownsRow_le ho (by omega), by omega, by go_grown⟩
    · obtain ⟨i0, x0, hx0, hp0⟩ := t.up v hv hvJ
      have hside := t.side (List.mem_of_getElem? hx0) (par_at hp0)
      have hu := hf hvJ x0 (List.mem_of_getElem? hx0) hp0
      have hi0 : i0 < m := by have := (List.getElem?_eq_some_iff.1 hx0).1; omega
      have hstep := t.chain_step hv hvJ hx0 hp0
      have hchl := t.chain_len (d (other x0 v)).toNat (other x0 v) hside.1 (Nat.le_refl _)
      have hnn := t.nn _ hside.1
      obtain ⟨i1, hi, hz0, hz1, hz2⟩ := info_parts info_int
      have hvj : ((v : Int) == (J : Int)) = false := by simp; omega
      have IH := Lib.hid ih
      have X0 := Lib.hid hx0
      have P0 := Lib.hid hp0
      have U0 := Lib.hid hu
      have SD := Lib.hid hside
      have ST := Lib.hid hstep
      have CL := Lib.hid hchl
      clear ih hx0 hp0 hu hf hside hstep hchl
      go_enter Try.func58, Try.ntmps58
      go_wp2_with fail
      go_loopw [9] (fun i wr => ∃ k : Nat, k ≤ i0 ∧ i = .int .i64 k ∧ Row wr w.heap.size 24 [.int .i64 (N : Int), .slice A m c] ∧ Below w.heap.size w wr) (fun i _ => m - (intOf i).toNat)
      case atStart => exact ⟨0, by omega, rfl, hbx0, by go_grown⟩
      case round =>
        obtain ⟨k, hk, rfl, hbx, hbel⟩ := hrel
        clear hbx0
        have b0 := hbx.cell_ (i := 0) rfl
        have b1 := hbx.cell_ (i := 1) rfl
        have zx := hbx.lt
        have HB := Lib.hid hbx
        clear hbx
        have hlt : k < m := by omega
        obtain ⟨b, o, x, rfl, hbB, hxk, c0, c1, c2⟩ := (hr.below hbel).lb hlt
        obtain ⟨ea, eb, hp, hq, hne, hl1, hl2⟩ := limb_nat t.ok hxk
        rw [ea] at c0
        rw [eb] at c1
        have XK := Lib.hid hxk
        clear ea eb hxk c2
        by_cases hki : k < i0
        · have hnp : ¬ par d v x = true := fun hpar => by
            have := t.uniq v hv hvJ _ _ _ _ XK.out X0.out hpar P0.out
            omega
          have NP := Lib.hid hnp
          clear hnp
          by_cases h1 : x.p = v
          · have e1 : ((x.p : Int) == (v : Int)) = true := by simp; omega
            have e2 : ((x.q : Int) == (v : Int)) = false := by simp; omega
            by_cases h2 : (x.q : Int) = f
            · have e3 : ((x.q : Int) == f) = true := by simp; omega
              clear h1 h2
              go_wp2_with fail
              go_roundw
              case rel => exact ⟨k + 1, by omega, by go_num, HB.out, hbel⟩
              case measure => simp [intOf]; omega
            · have e3 : ((x.q : Int) == f) = false := by simp; omega
              have hch : par d (x.q) x = true ∧ d x.q = d v + x.l ∧ other x x.q = v := by
                have ho : other x v = x.q := by simp [other, h1]
                rcases t.side (List.mem_of_getElem? XK.out) (.inl h1) with ⟨_, _, ⟨hpar, _⟩ | ⟨_, hpar, hd⟩⟩
                · exact absurd hpar NP.out
                · rw [ho] at hpar hd
                  exact ⟨hpar, hd, by rw [← ho]; exact other_other (.inl h1) hne⟩
              have CH := Lib.hid hch
              clear h1 h2 hch
              go_wp2_with fail
              refine (walk_down t hN 2000 x.q hq (by have := CH.out.2.1; have := t.nn v hv; omega) v k x XK.out CH.out.1 CH.out.2.2 _ _ _ _ (hr.below hbel) hm).mono ?_
              rintro e w1 ⟨⟨A1, cc1, rfl⟩, hb1⟩
              have HB1 := Lib.hid (HB.out.below hb1)
              have hbel1 := hbel.trans (hb1.mono hbel.size)
              clear hb1 hbel b0 b1
              go_wp2_with fail
              go_roundw
              case rel => exact ⟨k + 1, by omega, by go_num, HB1.out, hbel1⟩
              case measure => simp [intOf]; omega
          · have e1 : ((x.p : Int) == (v : Int)) = false := by simp; omega
            by_cases h3 : x.q = v
            · have e2 : ((x.q : Int) == (v : Int)) = true := by simp; omega
              by_cases h2 : (x.p : Int) = f
              · have e3 : ((x.p : Int) == f) = true := by simp; omega
                clear h1 h2 h3
                go_wp2_with fail
                go_roundw
                case rel => exact ⟨k + 1, by omega, by go_num, HB.out, hbel⟩
                case measure => simp [intOf]; omega
              · have e3 : ((x.p : Int) == f) = false := by simp; omega
                have hch : par d (x.p) x = true ∧ d x.p = d v + x.l ∧ other x x.p = v := by
                  have ho : other x v = x.p := by simp [other, h1]
                  rcases t.side (List.mem_of_getElem? XK.out) (.inr h3) with ⟨_, _, ⟨hpar, _⟩ | ⟨_, hpar, hd⟩⟩
                  · exact absurd hpar NP.out
                  · rw [ho] at hpar hd
                    exact ⟨hpar, hd, by rw [← ho]; exact other_other (.inr h3) hne⟩
                have CH := Lib.hid hch
                clear h1 h2 h3 hch
                go_wp2_with fail
                refine (walk_down t hN 2000 x.p hp (by have := CH.out.2.1; have := t.nn v hv; omega) v k x XK.out CH.out.1 CH.out.2.2 _ _ _ _ (hr.below hbel) hm).mono ?_
                rintro e w1 ⟨⟨A1, cc1, rfl⟩, hb1⟩
                have HB1 := Lib.hid (HB.out.below hb1)
                have hbel1 := hbel.trans (hb1.mono hbel.size)
                clear hb1 hbel b0 b1
                go_wp2_with fail
                go_roundw
                case rel => exact ⟨k + 1, by omega, by go_num, HB1.out, hbel1⟩
                case measure => simp [intOf]; omega
            · have e2 : ((x.q : Int) == (v : Int)) = false := by simp; omega
              clear h1 h3
              go_wp2_with fail
              go_roundw
              case rel => exact ⟨k + 1, by omega, by go_num, HB.out, hbel⟩
              case measure => simp [intOf]; omega
        · obtain rfl : k = i0 := by omega
          obtain rfl : x = x0 := by have := XK.out.symm.trans X0.out; injection this
          -- the other end of the limb, by whichever side
          have hnx : ∃ nx : Nat, other x v = nx ∧ ((x.p = v ∧ x.q = nx) ∨ (x.p ≠ v ∧ x.q = v ∧ x.p = nx)) := by
            rcases par_at P0.out with e | e
            · exact ⟨x.q, by simp [other, e], .inl ⟨e, rfl⟩⟩
            · have : x.p ≠ v := by omega
              exact ⟨x.p, by simp [other, this], .inr ⟨this, e, rfl⟩⟩
          obtain ⟨nx, eo, hside2⟩ := hnx
          have S2 := SD.out
          have U2 := U0.out
          have T2 := ST.out
          have C2 := CL.out
          rw [eo] at S2 U2 T2 C2 hnn
          have hlow : d v = d nx + x.l := by
            rcases S2 with ⟨_, _, ⟨_, hd⟩ | ⟨hf, _⟩⟩
            · exact hd
            · rw [P0.out] at hf; cases hf
          have hnxN := S2.1
          have hnv := S2.2.1
          have hdeep : nx ≠ J → ∀ y ∈ ls, par d nx y = true → ((other y nx : Nat) : Int) ≠ (v : Int) := by
            intro _ y hy hpy hc
            rcases t.side hy (par_at hpy) with ⟨_, _, ⟨_, hd⟩ | ⟨hf, _⟩⟩
            · have := (t.ok y hy).l1
              have : other y nx = v := by omega
              rw [this] at hd
              omega
            · rw [hpy] at hf; cases hf
          have E3 : ((nx : Int) == f) = false := by simp; exact U2
          have TT := Lib.hid T2
          have CC := Lib.hid C2
          have DD := Lib.hid hdeep
          clear S2 U2 T2 C2 hdeep eo SD U0 ST CL
          rcases hside2 with ⟨h1, h2⟩ | ⟨h1, h2, h3⟩
          · have e1 : ((x.p : Int) == (v : Int)) = true := by simp; omega
            have e2 : ((x.q : Int) == (v : Int)) = false := by simp; omega
            rw [h2] at c1 e2
            clear h1 h2
            go_wp2_with fail
            refine (IH.out nx hnxN (by omega) v DD.out _ _ _ _ (hr.below hbel) hm).mono ?_
            rintro e w1 ⟨A1, n1, cc1, rfl, ho1, hn1, hb1⟩
            have hbel1 := hbel.trans (hb1.mono hbel.size)
            have hl1 := own_len ho1
            have hpos : 0 < n1 := by
              obtain ⟨r, er⟩ := chain_cons (ls := ls) (d := d) (s := J) nx
              rw [hl1, chI, er]; simp
            have HO := Lib.hid ho1
            clear hl1 ho1 hb1 hbel b0 b1 c0 c1
            have hown := own_one w1 3 (.int .i64 (v : Int))
            go_wp2_with (at_builtin; refine wp_appn rfl _ _ 39 rfl w1.heap.size 3 i1 (.int .i64 0) 1 8 Try.underlying39 hi hz0 hz1 hz2 rfl (by decide) rfl hown rfl ((Reads.of_own HO.out).below (by go_grown)) (ints_one _) (by unfold maxLen; omega) (by omega) (by simp) ?_; intro A3 c3 w3 hown3 hg3)
            go_ret
            have hz := hbel1.size
            have hfull : chI ls d J v = (v : Int) :: chI ls d J nx := by simp [chI, TT.out]
            have hlen2 := CC.out
            have hn1b : n1 ≤ 1101 := by
              have := own_len HO.out
              rw [this, chI, List.length_map]
              omega
            exact ⟨A3, 1 + n1, c3, rfl, by rw [hfull]; exact ownsRow_le hown3 (by omega), by omega, (hbel1.alloc hz _).grown hg3 (by simp; omega) (fun q hq => by injection hq with hq; simp at hq; omega)⟩
          · have e1 : ((x.p : Int) == (v : Int)) = false := by simp; omega
            have e2 : ((x.q : Int) == (v : Int)) = true := by simp; omega
            rw [h3] at c0 e1
            clear h1 h2 h3
            go_wp2_with fail
            refine (IH.out nx hnxN (by omega) v DD.out _ _ _ _ (hr.below hbel) hm).mono ?_
            rintro e w1 ⟨A1, n1, cc1, rfl, ho1, hn1, hb1⟩
            have hbel1 := hbel.trans (hb1.mono hbel.size)
            have hl1 := own_len ho1
            have hpos : 0 < n1 := by
              obtain ⟨r, er⟩ := chain_cons (ls := ls) (d := d) (s := J) nx
              rw [hl1, chI, er]; simp
            have HO := Lib.hid ho1
            clear hl1 ho1 hb1 hbel b0 b1 c0 c1
            have hown := own_one w1 3 (.int .i64 (v : Int))
            go_wp2_with (at_builtin; refine wp_appn rfl _ _ 39 rfl w1.heap.size 3 i1 (.int .i64 0) 1 8 Try.underlying39 hi hz0 hz1 hz2 rfl (by decide) rfl hown rfl ((Reads.of_own HO.out).below (by go_grown)) (ints_one _) (by unfold maxLen; omega) (by omega) (by simp) ?_; intro A3 c3 w3 hown3 hg3)
            go_ret
            have hz := hbel1.size
            have hfull : chI ls d J v = (v : Int) :: chI ls d J nx := by simp [chI, TT.out]
            have hlen2 := CC.out
            have hn1b : n1 ≤ 1101 := by
              have := own_len HO.out
              rw [this, chI, List.length_map]
              omega
            exact ⟨A3, 1 + n1, c3, rfl, by rw [hfull]; exact ownsRow_le hown3 (by omega), by omega, (hbel1.alloc hz _).grown hg3 (by simp; omega) (fun q hq => by injection hq with hq; simp at hq; omega)⟩
end Go.Proofs.Ytnghfocboodkhaa
