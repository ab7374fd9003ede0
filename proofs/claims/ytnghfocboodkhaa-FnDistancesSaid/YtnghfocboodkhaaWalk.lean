/- Contracts of the reference's l03Walk over a tree: away from the root it finds nothing, toward the root it finds the chain; the tree and the lengths are premises. -/
import Derived.Test.YtnghfocboodkhaaKit2
import Derived.Test.YtnghfocboodkhaaPath
import Derived.Test.YtnghfocboodkhaaBodyS
namespace Go.Proofs.Ytnghfocboodkhaa
open Go.ChangeShapes Go.WideShapes Go.ChangeAt Go.RowKit Go.Deep Go.Joins
set_option maxRecDepth 100000

/-- The three ways in which a limb lies to a joint. -/
theorem limb_nat {N : Nat} {ls : List Lb} (ok : ∀ x ∈ ls, okLb N x) {k : Nat} {x : Lb} (hx : ls[k]? = some x) :
    x.a = (x.p : Int) ∧ x.b = (x.q : Int) ∧ x.p < N ∧ x.q < N ∧ x.p ≠ x.q ∧ 1 ≤ x.l ∧ x.l ≤ 100 := by
  have h := ok x (List.mem_of_getElem? hx)
  refine ⟨?_, ?_, h.p_lt, h.q_lt, h.ne, h.l1.1, h.l1.2⟩
  · unfold okLb at h; unfold Lb.p; omega
  · unfold okLb at h; unfold Lb.q; omega

set_option maxHeartbeats 8000000 in
theorem walk_down {N J : Nat} {ls : List Lb} {d : Nat → Int} (t : TD N ls J d) (hN : N ≤ 12) : ∀ (a v : Nat), v < N → 1100 - d v < (a : Int) → ∀ (u i0 : Nat) (x0 : Lb), ls[i0]? = some x0 → par d v x0 = true → other x0 v = u →
    ∀ (w : World) (A : Option Addr) (m c : Nat), Reads w 3 A m (lbs ls) → m ≤ 1048576 →
      Calls Try.prog 58 #[.agg #[.int .i64 (N : Int), .slice A m c], .int .i64 (v : Int), .int .i64 (J : Int), .int .i64 (u : Int)] w fun e w' => (∃ A' c', e = .returned (.slice A' 0 c')) ∧ Below w.heap.size w w' := by
  intro a
  induction a with
  | zero => intro v hv ha; have := t.nn v hv; omega
  | succ a ih =>
    intro v hv ha u i0 x0 hx0 hp0 hu w A m c hr hm
    have hlen : ls.length = m := by have := hr.1; rw [lbs_length] at this; omega
    have hvJ : v ≠ J := by
      rintro rfl
      rcases t.side (List.mem_of_getElem? hx0) (par_at hp0) with ⟨ho, _, ⟨_, hd⟩ | ⟨hf, _⟩⟩
      · have := t.nn _ ho
        have := t.root
        have := (t.ok x0 (List.mem_of_getElem? hx0)).l1
        omega
      · rw [hp0] at hf; cases hf
    have hvj : ((v : Int) == (J : Int)) = false := by simp; omega
    have hbx0 := Row.new w 24 [.int .i64 (N : Int), .slice A m c]
    have IH := Lib.hid ih
    have X0 := Lib.hid hx0
    have P0 := Lib.hid hp0
    have U0 := Lib.hid hu
    clear ih hx0 hp0 hu
    go_enter Try.func58, Try.ntmps58
    go_wp2_with fail
    go_loopw [9] (fun i wr => ∃ k : Nat, k ≤ m ∧ i = .int .i64 k ∧ Row wr w.heap.size 24 [.int .i64 (N : Int), .slice A m c] ∧ Below w.heap.size w wr) (fun i _ => m - (intOf i).toNat)
    case atStart => exact ⟨0, by omega, rfl, hbx0, by go_grown⟩
    case round =>
      obtain ⟨k, hk, rfl, hbx, hbel⟩ := hrel
      clear hbx0
      have b0 := hbx.cell_ (i := 0) rfl
      have b1 := hbx.cell_ (i := 1) rfl
      have zx := hbx.lt
      have HB := Lib.hid hbx
      clear hbx
      by_cases hlt : k < m
      · obtain ⟨b, o, x, rfl, hbB, hxk, c0, c1, c2⟩ := (hr.below hbel).lb hlt
        obtain ⟨ea, eb, hp, hq, hne, hl1, hl2⟩ := limb_nat t.ok hxk
        rw [ea] at c0
        rw [eb] at c1
        have XK := Lib.hid hxk
        clear ea eb hxk c2
        have HO : Hid (∀ (hvx : x.p = v ∨ x.q = v), other x v = (if x.p = v then x.q else x.p)) := fun _ => rfl
        by_cases h1 : x.p = v
        · have e1 : ((x.p : Int) == (v : Int)) = true := by simp; omega
          have e2 : ((x.q : Int) == (v : Int)) = false := by simp; omega
          by_cases h2 : x.q = u
          · have e3 : ((x.q : Int) == (u : Int)) = true := by simp; omega
            clear h1 h2
            go_wp2_with fail
            go_roundw
            case rel => exact ⟨k + 1, by omega, by go_num, HB.out, hbel⟩
            case measure => simp [intOf]; omega
          · have e3 : ((x.q : Int) == (u : Int)) = false := by simp; omega
            have hch : par d (x.q) x = true ∧ d x.q = d v + x.l ∧ other x x.q = v := by
              have ho : other x v = x.q := by simp [other, h1]
              rcases t.side (List.mem_of_getElem? XK.out) (.inl h1) with ⟨_, _, ⟨hpar, _⟩ | ⟨_, hpar, hd⟩⟩
              · have := t.uniq v hv hvJ _ _ _ _ XK.out X0.out hpar P0.out
                subst this
                have e := XK.out.symm.trans X0.out
                injection e with e
                subst e
                exact absurd (ho.symm.trans U0.out) h2
              · rw [ho] at hpar hd
                exact ⟨hpar, hd, by rw [← ho]; exact other_other (.inl h1) hne⟩
            have CH := Lib.hid hch
            clear h1 h2 hch
            go_wp2_with fail
            refine (IH.out x.q hq (by have := CH.out.2.1; omega) v k x XK.out CH.out.1 CH.out.2.2 _ _ _ _ (hr.below hbel) hm).mono ?_
            rintro e w1 ⟨⟨A1, cc1, rfl⟩, hb1⟩
            have HB1 := Lib.hid (HB.out.below hb1)
            have hbel1 := hbel.trans (hb1.mono hbel.size)
            clear hb1 hbel b0 b1
            go_wp2_with fail
            go_roundw
            case rel => exact ⟨k + 1, by omega, by go_num, HB1.out, hbel1⟩
            case measure => simp [intOf]; omega
        · have e1 : ((x.p : Int) == (v : Int)) = false := by simp; omega
          by_cases h3 : x.q = v
          · have e2 : ((x.q : Int) == (v : Int)) = true := by simp; omega
            by_cases h2 : x.p = u
            · have e3 : ((x.p : Int) == (u : Int)) = true := by simp; omega
              clear h1 h2 h3
              go_wp2_with fail
              go_roundw
              case rel => exact ⟨k + 1, by omega, by go_num, HB.out, hbel⟩
              case measure => simp [intOf]; omega
            · have e3 : ((x.p : Int) == (u : Int)) = false := by simp; omega
              have hch : par d (x.p) x = true ∧ d x.p = d v + x.l ∧ other x x.p = v := by
                have ho : other x v = x.p := by simp [other, h1]
                rcases t.side (List.mem_of_getElem? XK.out) (.inr h3) with ⟨_, _, ⟨hpar, _⟩ | ⟨_, hpar, hd⟩⟩
                · have := t.uniq v hv hvJ _ _ _ _ XK.out X0.out hpar P0.out
                  subst this
                  have e := XK.out.symm.trans X0.out
                  injection e with e
                  subst e
                  exact absurd (ho.symm.trans U0.out) h2
                · rw [ho] at hpar hd
                  exact ⟨hpar, hd, by rw [← ho]; exact other_other (.inr h3) hne⟩
              have CH := Lib.hid hch
              clear h1 h2 h3 hch
              go_wp2_with fail
              refine (IH.out x.p hp (by have := CH.out.2.1; omega) v k x XK.out CH.out.1 CH.out.2.2 _ _ _ _ (hr.below hbel) hm).mono ?_
              rintro e w1 ⟨⟨A1, cc1, rfl⟩, hb1⟩
              have HB1 := Lib.hid (HB.out.below hb1)
              have hbel1 := hbel.trans (hb1.mono hbel.size)
              clear hb1 hbel b0 b1
              go_wp2_with fail
              go_roundw
              case rel => exact ⟨k + 1, by omega, by go_num, HB1.out, hbel1⟩
              case measure => simp [intOf]; omega
          · have e2 : ((x.q : Int) == (v : Int)) = false := by simp; omega
            clear h1 h3
            go_wp2_with fail
            go_roundw
            case rel => exact ⟨k + 1, by omega, by go_num, HB.out, hbel⟩
            case measure => simp [intOf]; omega
      · obtain rfl : k = m := by omega
        go_wp2_with fail
        go_ret
        exact ⟨⟨_, _, rfl⟩, hbel.alloc hbel.size _⟩
end Go.Proofs.Ytnghfocboodkhaa
