/- The draws of valid pulls, and of a body with pulls; no condition beyond the length of the code. -/
import Derived.Test.YtcdachkaalkjlaaDrawBody2
import Derived.Test.YtcdachkaalkjlaaPulls
import Derived.Test.YtcdachkaalkjlaaKit3
namespace Go.Proofs.Ytcdachkaalkjlaa
open Go.ChangeShapes Go.WideShapes Go.ChangeAt Go.RowKit Go.Deep Go.Joins
set_option maxRecDepth 100000

theorem grown_far {w a b : World} {row row2 : Option Nat} (h : w.grownBy a row) (hg : a.grownBy b row2) (hr : ∀ k, row2 = some k → w.heap.size ≤ k) : w.grownBy b row :=
  ⟨hg.os.trans h.os, hg.tape.trans h.tape, hg.output.trans h.output, Nat.le_trans h.size hg.size, fun i hi hne => (hg.block i (Nat.lt_of_lt_of_le hi h.size) fun e => by have := hr i e.symm; omega).trans (h.block i hi hne)⟩
theorem grown_app {w a b : World} {row : Option Nat} {C : Option Addr} {lo hi m d : Nat} (h : w.grownBy a row) (hg : a.grownBy b (Value.slice C m d).ownBlock) (hC : Blk C lo hi) (hlo : w.heap.size ≤ lo) : w.grownBy b row := by
  refine grown_far h hg fun k hk => ?_
  cases C with
  | none => cases hk
  | some c =>
    have := (hC c rfl).1
    have e : c.block = k := by injection hk
    omega
theorem info_dp : (Try.prog.info? 3).map (fun i => (i.zero, i.size, i.bytes)) = some (some (.int .i64 0), 1, 8) := by kernel_rfl
def InP (ps : List Int) : Prop := ∀ x ∈ ps, -1 ≤ x ∧ x ≤ 500
theorem InP.snoc {ps : List Int} {x : Int} (h : InP ps) (h1 : -1 ≤ x) (h2 : x ≤ 500) : InP (ps ++ [x]) := by
  intro y hy
  rcases List.mem_append.1 hy with hy | hy
  · exact h y hy
  · rw [List.mem_singleton.1 hy]; exact ⟨h1, h2⟩
theorem pulls_set {N : Nat} {ls : List Lb} {ps : List Int} (h : bodyOk (N : Int) ls = true) (hl : ps.length = N) (h0 : 0 < N) (hin : InP ps) : pullsOk (N : Int) ls (ps.set 0 10) = true := by
  have hl2 : ((ps.set 0 10).length : Int) = N := by rw [List.length_set]; omega
  rw [pullsOk_in h hl2]
  have h1 : inAll (ps.set 0 10) (-1) 500 = true := decide_eq_true fun x hx => by
    rcases List.mem_or_eq_of_mem_set hx with hx | hx
    · exact hin x hx
    · rw [hx]; omega
  have h2 : someS (ps.set 0 10) = true := by
    cases ps with
    | nil => simp at hl; omega
    | cons y ys => simp [someS]
  rw [h1, h2]
  rfl

/-- Valid pulls of a body, and what became of the cursor. -/
def DrawnPulls (W0 w : World) (G : Nat) (A : Option Addr) (n c : Nat) (bs : List Int) (N : Nat) (ls : List Lb) (e : Ending) (w' : World) : Prop :=
  ∃ (B : Option Addr) (m d : Nat) (ps : List Int), e = .returned (.slice B m d) ∧ w'.ownsRow w.heap.size 3 1 (.slice B m d) m (ints ps) ∧ pullsOk (N : Int) ls ps = true ∧ m = N ∧ Cur W0 w' G A n c bs ∧ w.grownBy w' (some G)

set_option maxHeartbeats 4000000 in
theorem spec_l04Pulls {W0 w : World} {G n c : Nat} {A : Option Addr} {bs : List Int} {N m d : Nat} {B : Option Addr} {ls : List Lb} (hc : Cur W0 w G A n c bs) (hr : Reads w 3 B m (lbs ls)) (hm : m ≤ 1048576) (hok : bodyOk (N : Int) ls = true) (hBG : ∀ b o, B = some ⟨b, o, none⟩ → b ≠ G) :
    Calls Try.prog 62 #[.pointer (some ⟨G, 0, none⟩), .agg #[.int .i64 (N : Int), .slice B m d]] w (DrawnPulls W0 w G A n c bs N ls) := by
  have zG := hc.lt
  obtain ⟨h1, h12, _⟩ := body_short hok
  obtain ⟨i0, hi, hz0, hz1, hz2⟩ := info_parts info_dp
  have hx := (Row.new w 37 [.int .i64 (N : Int), .slice B m d]).alloc (.cells #[] 3)
  have ho := own_empty (w.alloc (.cells #[.int .i64 (N : Int), .slice B m d] 37)) 3 1
  rw [World.size_alloc] at ho
  have hC0 := (hc.alloc (.cells #[.int .i64 (N : Int), .slice B m d] 37)).alloc (.cells #[] 3)
  have hG0 : w.grownBy ((w.alloc (.cells #[.int .i64 (N : Int), .slice B m d] 37)).alloc (.cells #[] 3)) (some G) := grown_of_below (by go_grown) _
  have HOK := Lib.hid hok
  have HBG := Lib.hid hBG
  clear hc hok hBG
  go_enter Try.func62, Try.ntmps62
  go_wp2
  go_loopw [5, 6] (fun ov jv wr => ∃ (k : Nat) (C : Option Addr) (f : Nat) (ps : List Int), k ≤ N ∧ jv = .int .i64 k ∧ ov = .slice C k f ∧ InP ps ∧ wr.ownsRow (w.heap.size + 1) 3 1 (.slice C k f) k (ints ps) ∧ Row wr w.heap.size 37 [.int .i64 (N : Int), .slice B m d] ∧ Cur W0 wr G A n c bs ∧ w.grownBy wr (some G) ∧ w.heap.size + 1 ≤ wr.heap.size) (fun _ jv _ => N - (intOf jv).toNat)
  case atStart => exact ⟨0, _, 0, [], by omega, rfl, rfl, fun x hx => by simp at hx, ho, hx, hC0, hG0, by simp⟩
  case round =>
    obtain ⟨k, C, f, ps, hk, rfl, rfl, hin, hown, hbx, hcur, hgr, hz⟩ := hrel
    clear ho hx hC0 hG0
    have q0 := hbx.cell_ (i := 0) rfl
    have q1 := hbx.cell_ (i := 1) rfl
    by_cases hlt : k < N
    · have HIN := Lib.hid hin
      have HCU := Lib.hid hcur
      clear hin hcur
      go_wp2_with fail
      refine (spec_l01Below HCU.out (by omega) (by omega)).mono ?_
      rintro e w2 ⟨v, v0, v1, rfl, hc2, hg2⟩
      have ho2 := own_cur hown hg2 (own_blk hown) (by omega)
      have hb2 := row_cur hbx hg2 (by omega)
      have hgr2 := grown_trans hgr hg2
      have z2 := hg2.size
      have HC2 := Lib.hid hc2
      clear hown hbx hgr hc2 hg2 q0 q1
      go_wp2_with fail
      refine (spec_l01Once HC2.out (by omega) (by omega)).mono ?_
      rintro e w3 ⟨b, rfl, hc3, hg3⟩
      have ho3 := own_cur ho2 hg3 (own_blk ho2) (by omega)
      have hb3 := row_cur hb2 hg3 (by omega)
      have hgr3 := grown_trans hgr2 hg3
      have z3 := hg3.size
      have HC3 := Lib.hid hc3
      have HB3 := Lib.hid hb3
      have bA := own_blk ho3
      have zw : w.heap.size + 1 ≤ w3.heap.size := by omega
      clear ho2 hb2 hgr2 hc3 hg3 hb3
      cases b with
      | true =>
        have HN := Lib.hid (HIN.out.snoc (x := -1) (by omega) (by omega))
        go_wp2_with (at_builtin; refine wp_app rfl _ _ 22 rfl (w.heap.size + 1) 3 i0 (.int .i64 0) 1 8 Try.underlying22 hi hz0 hz1 hz2 rfl (by decide) rfl ho3 [.int .i64 (-1)] rfl (by simp [Value.oneCell']) rfl (by simp) (by unfold maxLen; omega) (by omega) zw ?_; intro A4 c4 w4 hown4 hg4)
        go_roundw
        case rel => exact ⟨k + 1, A4, c4, _, by omega, by go_num, rfl, HN.out, by rw [ints_append]; exact hown4, row_apart HB3.out hg4 bA (by omega), HC3.out.apart hg4 bA (by omega), grown_app hgr3 hg4 bA (by omega), by have := hg4.size; omega⟩
        case measure => simp [intOf]; omega
      | false =>
        have HN := Lib.hid (HIN.out.snoc (x := v - 1) (by omega) (by omega))
        go_wp2_with (at_builtin; refine wp_app rfl _ _ 22 rfl (w.heap.size + 1) 3 i0 (.int .i64 0) 1 8 Try.underlying22 hi hz0 hz1 hz2 rfl (by decide) rfl ho3 [.int .i64 (v - 1)] rfl (by simp [Value.oneCell']) rfl (by simp) (by unfold maxLen; omega) (by omega) zw ?_; intro A4 c4 w4 hown4 hg4)
        go_roundw
        case rel => exact ⟨k + 1, A4, c4, _, by omega, by go_num, rfl, HN.out, by rw [ints_append]; exact hown4, row_apart HB3.out hg4 bA (by omega), HC3.out.apart hg4 bA (by omega), grown_app hgr3 hg4 bA (by omega), by have := hg4.size; omega⟩
        case measure => simp [intOf]; omega
    · obtain rfl : k = N := by omega
      have hkl : ps.length = k := (own_len hown).symm
      have HKL := Lib.hid hkl
      have HIN := Lib.hid hin
      have HCU := Lib.hid hcur
      have hk0 : (0 : Int) < (k : Int) := by omega
      have hrk := hr.grown hgr fun b o e h => HBG.out b o e (by injection h)
      clear hin hcur hkl
      go_wp2_with fail
      refine (spec_BodyOk hrk hm).mono ?_
      rintro e w2 ⟨rfl, hb2⟩
      rw [HOK.out]
      have ho2 := own_below hown hb2
      have hbx2 := hbx.below hb2
      have hgr2 := grown_far hgr (grown_of_below hb2 none) nofun
      have hr2 := hrk.below hb2
      have HC2 := Lib.hid (HCU.out.below hb2)
      clear hown hbx hgr hrk hb2 q0 q1
      have q0 := hbx2.cell_ (i := 0) rfl
      have q1 := hbx2.cell_ (i := 1) rfl
      go_wp2_with fail
      refine (spec_PullsOk hr2 hm (Reads.of_own ho2) (by omega)).mono ?_
      rintro e w3 ⟨rfl, hb3⟩
      have ho3 := own_below ho2 hb3
      have hgr3 := grown_far hgr2 (grown_of_below hb3 none) nofun
      have HC3 := Lib.hid (HC2.out.below hb3)
      clear ho2 hgr2 hb3 hr2 hbx2 q0 q1
      cases hpo : pullsOk (k : Int) ls ps with
      | true =>
        have HPO := Lib.hid hpo
        clear hpo
        go_wp2
        go_ret
        exact ⟨C, k, f, ps, rfl, ownsRow_le ho3 (by omega), HPO.out, rfl, HC3.out, hgr3⟩
      | false =>
        clear hpo
        obtain ⟨y, ys, hps⟩ : ∃ y ys, ps = y :: ys := by
          cases ps with
          | nil => have := HKL.out; simp at this; omega
          | cons y ys => exact ⟨y, ys, rfl⟩
        have HPS := Lib.hid hps
        have hset := pulls_set HOK.out HKL.out (by omega) HIN.out
        rw [hps] at ho3 hset
        rw [List.set_cons_zero] at hset
        have HSET := Lib.hid hset
        obtain ⟨g, rfl, hg0, hgl, c0, f0⟩ := own_at (pre := []) (post := ints ys) (r := .int .i64 y) ho3 (m := 0) rfl
        have ho4 := own_set (pre := []) (post := ints ys) (r := .int .i64 y) ho3 (m := 0) rfl (.int .i64 10)
        have hgr4 := grown_far hgr3 (grown_setCell (World.grownBy.refl w3 (some g)) (p := ⟨g, 0, none⟩) (.inl rfl) (.int .i64 10)) (fun k hk => by injection hk with hk; omega)
        have HO4 := Lib.hid ho4
        have HG4 := Lib.hid hgr4
        clear hset hps ho3 ho4 hgr4 hgr3
        go_wp2
        go_ret
        exact ⟨_, k, f, 10 :: ys, rfl, ownsRow_le HO4.out (by omega), HSET.out, rfl, HC3.out.set_far (p := ⟨g, 0, none⟩) (by have := HC3.out.lo; simp; omega) (by simp; omega) _, HG4.out⟩
/-- A valid body and valid pulls, in memory of the call's own. -/
def DrawnHung (w : World) (e : Ending) (w' : World) : Prop :=
  ∃ (N : Nat) (ls : List Lb) (B : Option Addr) (m d : Nat) (C : Option Addr) (f : Nat) (ps : List Int), e = .returned (.tuple #[.agg #[.int .i64 (N : Int), .slice B m d], .slice C N f]) ∧ w'.ownsRow w.heap.size 68 3 (.slice B m d) m (lbs ls) ∧ w'.ownsRow w.heap.size 3 1 (.slice C N f) N (ints ps) ∧ pullsOk (N : Int) ls ps = true ∧ Below w.heap.size w w'
end Go.Proofs.Ytcdachkaalkjlaa
