/- Contracts of the reference's l03Joints, l03Length, PathBetween, DistanceOf and DistancesFrom; no condition beyond the slice's length. -/
import Derived.Test.YtnghfocboodkhaaWalkUp
import Derived.Test.YtnghfocboodkhaaLimbsAt
namespace Go.Proofs.Ytnghfocboodkhaa
open Go.ChangeShapes Go.WideShapes Go.ChangeAt Go.RowKit Go.Deep Go.Joins
set_option maxRecDepth 100000

theorem spec_l03Joints {n i j : Int} {A : Option Addr} {m c : Nat} {ls : List Lb} {w : World} (hr : Reads w 3 A m (lbs ls)) (hm : m ≤ 1048576) :
    Calls Try.prog 57 #[.agg #[.int .i64 n, .slice A m c], .int .i64 i, .int .i64 j] w fun e w' => e = .returned (.bool (isJ n ls i && isJ n ls j)) ∧ Below w.heap.size w w' := by
  have hx := Row.new w 24 [.int .i64 n, .slice A m c]
  cases hb : bodyOk n ls with
  | false =>
    have E := Lib.hid hb; clear hb
    go_enter Try.func57, Try.ntmps57
    go_wp2_with fail
    refine (spec_BodyOk (hr.below (by go_grown)) hm).mono ?_
    rintro e w1 ⟨rfl, hb1⟩
    rw [E.out]
    go_wp2
    go_ret
    exact ⟨ret_bool (by simp [isJ, E.out]), (by go_grown : Below w.heap.size w _).trans (hb1.mono (by simp))⟩
  | true =>
    obtain ⟨b1, b2, _, _⟩ := tree_of hb
    have E := Lib.hid hb; clear hb
    by_cases hi : 0 ≤ i ∧ i ≤ n - 1
    rotate_left
    · go_enter Try.func57, Try.ntmps57
      go_wp2_with fail
      refine (spec_BodyOk (hr.below (by go_grown)) hm).mono ?_
      rintro e w1 ⟨rfl, hb1⟩
      rw [E.out]
      have q0 := (hx.below hb1).cell_ (i := 0) rfl
      go_wp2_with (go_at_call 52; refine (l01In_f _ _ _ _ (by omega)).mono ?_; rintro e w' ⟨rfl, rfl⟩)
      go_ret
      exact ⟨ret_bool (by simp [isJ, E.out]; omega), (by go_grown : Below w.heap.size w _).trans (hb1.mono (by simp))⟩
    by_cases hj : 0 ≤ j ∧ j ≤ n - 1
    rotate_left
    · go_enter Try.func57, Try.ntmps57
      go_wp2_with fail
      refine (spec_BodyOk (hr.below (by go_grown)) hm).mono ?_
      rintro e w1 ⟨rfl, hb1⟩
      rw [E.out]
      have q0 := (hx.below hb1).cell_ (i := 0) rfl
      go_wp2_with (first | (go_at_call 52; refine (l01In_t _ _ _ _ ?_ ?_).mono ?_; omega; omega; rintro e w' ⟨rfl, rfl⟩) | (go_at_call 52; refine (l01In_f _ _ _ _ ?_).mono ?_; omega; rintro e w' ⟨rfl, rfl⟩))
      go_ret
      exact ⟨ret_bool (by simp [isJ, E.out]; omega), (by go_grown : Below w.heap.size w _).trans (hb1.mono (by simp))⟩
    go_enter Try.func57, Try.ntmps57
    go_wp2_with fail
    refine (spec_BodyOk (hr.below (by go_grown)) hm).mono ?_
    rintro e w1 ⟨rfl, hb1⟩
    rw [E.out]
    have q0 := (hx.below hb1).cell_ (i := 0) rfl
    go_wp2_with (go_at_call 52; refine (l01In_t _ _ _ _ (by omega) (by omega)).mono ?_; rintro e w' ⟨rfl, rfl⟩)
    go_ret
    exact ⟨ret_bool (by simp [isJ, E.out]; omega), (by go_grown : Below w.heap.size w _).trans (hb1.mono (by simp))⟩

def adj (y : Lb) (u v : Nat) : Prop := (y.p = u ∧ y.q = v) ∨ (y.p = v ∧ y.q = u)

set_option maxHeartbeats 4000000 in
theorem spec_l03Length {N u v : Nat} {L : Int} {A : Option Addr} {m c : Nat} {ls : List Lb} {w : World} (hr : Reads w 3 A m (lbs ls)) (hm : m ≤ 1048576) (ok : ∀ x ∈ ls, okLb N x) (hN : N ≤ 12) (huv : u ≠ v)
    (hL : ∀ y ∈ ls, adj y u v → y.l = L) (hex : ∃ y ∈ ls, adj y u v) :
    Calls Try.prog 59 #[.agg #[.int .i64 (N : Int), .slice A m c], .int .i64 (u : Int), .int .i64 (v : Int)] w fun e w' => e = .returned (.int .i64 L) ∧ Below w.heap.size w w' := by
  have hlen : ls.length = m := by have := hr.1; rw [lbs_length] at this; omega
  obtain ⟨y, hy, hadj⟩ := hex
  obtain ⟨i0, hi0⟩ := List.getElem?_of_mem hy
  have hi0m : i0 < m := by have := (List.getElem?_eq_some_iff.1 hi0).1; omega
  have hbx0 := Row.new w 24 [.int .i64 (N : Int), .slice A m c]
  have Y0 := Lib.hid hi0
  have AD := Lib.hid hadj
  have LL := Lib.hid hL
  have OK := Lib.hid ok
  clear hL hy hadj hi0 ok
  go_enter Try.func59, Try.ntmps59
  go_wp2_with fail
  go_loopw [7] (fun i wr => ∃ k : Nat, k ≤ i0 ∧ i = .int .i64 k ∧ Row wr w.heap.size 24 [.int .i64 (N : Int), .slice A m c] ∧ Below w.heap.size w wr) (fun i _ => m - (intOf i).toNat)
  case atStart => exact ⟨0, by omega, rfl, hbx0, by go_grown⟩
  case round =>
    obtain ⟨k, hk, rfl, hbx, hbel⟩ := hrel
    clear hbx0
    have b1 := hbx.cell_ (i := 1) rfl
    have zx := hbx.lt
    have HB := Lib.hid hbx
    clear hbx
    have hlt : k < m := by omega
    obtain ⟨b, o, x, rfl, hbB, hxk, c0, c1, c2⟩ := (hr.below hbel).lb hlt
    obtain ⟨ea, eb, hp, hq, hne, hl1, hl2⟩ := limb_nat OK.out hxk
    rw [ea] at c0
    rw [eb] at c1
    have XK := Lib.hid hxk
    have hkn : ¬ adj x u v → k < i0 := fun h => by
      apply Classical.byContradiction
      intro hc
      obtain rfl : k = i0 := by omega
      have e := XK.out.symm.trans Y0.out
      injection e with e
      subst e
      exact h AD.out
    have KN := Lib.hid hkn
    clear ea eb hxk hkn
    by_cases h1 : x.p = u
    · have e1 : ((x.p : Int) == (u : Int)) = true := by simp; omega
      have e2 : ((x.p : Int) == (v : Int)) = false := by simp; omega
      by_cases h2 : x.q = v
      · have e3 : ((x.q : Int) == (v : Int)) = true := by simp; omega
        have hr := Lib.hid (LL.out x (List.mem_of_getElem? XK.out) (.inl ⟨h1, h2⟩))
        clear h1 h2
        go_wp2_with fail
        go_ret
        exact ⟨ret_int hr.out, hbel.alloc hbel.size _⟩
      · have e3 : ((x.q : Int) == (v : Int)) = false := by simp; omega
        have hk2 : k < i0 := KN.out (by unfold adj; omega)
        clear h1 h2
        go_wp2_with fail
        go_roundw
        case rel => exact ⟨k + 1, by omega, by go_num, HB.out.alloc _, hbel.alloc hbel.size _⟩
        case measure => simp [intOf]; omega
    · have e1 : ((x.p : Int) == (u : Int)) = false := by simp; omega
      by_cases h3 : x.p = v
      · have e2 : ((x.p : Int) == (v : Int)) = true := by simp; omega
        by_cases h2 : x.q = u
        · have e3 : ((x.q : Int) == (u : Int)) = true := by simp; omega
          have hr := Lib.hid (LL.out x (List.mem_of_getElem? XK.out) (.inr ⟨h3, h2⟩))
          clear h1 h2 h3
          go_wp2_with fail
          go_ret
          exact ⟨ret_int hr.out, hbel.alloc hbel.size _⟩
        · have e3 : ((x.q : Int) == (u : Int)) = false := by simp; omega
          have hk2 : k < i0 := KN.out (by unfold adj; omega)
          clear h1 h2 h3
          go_wp2_with fail
          go_roundw
          case rel => exact ⟨k + 1, by omega, by go_num, HB.out.alloc _, hbel.alloc hbel.size _⟩
          case measure => simp [intOf]; omega
      · have e2 : ((x.p : Int) == (v : Int)) = false := by simp; omega
        have hk2 : k < i0 := KN.out (by unfold adj; omega)
        clear h1 h3
        go_wp2_with fail
        go_roundw
        case rel => exact ⟨k + 1, by omega, by go_num, HB.out.alloc _, hbel.alloc hbel.size _⟩
        case measure => simp [intOf]; omega

/-! ### The chain's own facts -/
structure Link (N : Nat) (ls : List Lb) (d : Nat → Int) (u v : Nat) : Prop where
  hu : u < N
  hv : v < N
  ne : u ≠ v
  lt : d v < d u
  ex : ∃ y ∈ ls, adj y u v
  all : ∀ y ∈ ls, adj y u v → y.l = d u - d v
theorem TD.links {N J : Nat} {ls : List Lb} {d : Nat → Int} (t : TD N ls J d) : ∀ (a v : Nat), v < N → d v < (a : Int) →
    (∀ u ∈ chain ls d J v, u < N) ∧ (∀ (k u u' : Nat), (chain ls d J v)[k]? = some u → (chain ls d J v)[k + 1]? = some u' → Link N ls d u u') ∧ (∀ (k u : Nat), (chain ls d J v)[k]? = some u → (chain ls d J v)[k + 1]? = none → u = J) := by
  intro a
  induction a with
  | zero => intro v hv ha; have := t.nn v hv; omega
  | succ a ih =>
    intro v hv ha
    by_cases hvJ : v = J
    · subst hvJ
      rw [t.chain_root]
      refine ⟨fun u hu => by simp at hu; subst hu; exact hv, fun k u u' _ h2 => by simp at h2, fun k u h1 _ => ?_⟩
      cases k with
      | zero => simpa using h1.symm
      | succ k => simp at h1
    · obtain ⟨i0, x0, hx0, hp0⟩ := t.up v hv hvJ
      have hx := List.mem_of_getElem? hx0
      rw [t.chain_step hv hvJ hx0 hp0]
      rcases t.side hx (par_at hp0) with ⟨ho, hon, ⟨_, hd⟩ | ⟨hf, _⟩⟩
      · have hl := (t.ok x0 hx).l1
        obtain ⟨i1, i2, i3⟩ := ih (other x0 v) ho (by omega)
        obtain ⟨r, er⟩ := chain_cons (ls := ls) (d := d) (s := J) (other x0 v)
        have hlink : Link N ls d v (other x0 v) := by
          have had : adj x0 v (other x0 v) := by
            unfold adj other
            rcases par_at hp0 with e | e
            · left; simp [e]
            · have : x0.p ≠ v := by have := (t.ok x0 hx).ne; omega
              right; simp [this, e]
          refine ⟨hv, ho, hon.symm, by omega, ⟨x0, hx, had⟩, fun y hy hay => ?_⟩
          have ht := t.tight y hy
          have hly := (t.ok y hy).l1
          rcases hay with ⟨e1, e2⟩ | ⟨e1, e2⟩
          · rw [e1, e2] at ht; omega
          · rw [e1, e2] at ht; omega
        refine ⟨fun u hu => ?_, fun k u u' h1 h2 => ?_, fun k u h1 h2 => ?_⟩
        · rcases List.mem_cons.1 hu with e | e
          · rw [e]; exact hv
          · exact i1 u e
        · cases k with
          | zero =>
            simp at h1
            rw [er] at h2
            simp at h2
            subst h1 h2
            exact hlink
          | succ k => exact i2 k u u' (by simpa using h1) (by simpa using h2)
        · cases k with
          | zero => rw [er] at h2; simp at h2
          | succ k => exact i3 k u (by simpa using h1) (by simpa using h2)
      · rw [hp0] at hf; cases hf
theorem isJ_t {n i : Int} {ls : List Lb} (h : isJ n ls i = true) : bodyOk n ls = true ∧ 0 ≤ i ∧ i ≤ n - 1 := by
  simpa [isJ] using h

def pathOf (n : Int) (ls : List Lb) (i j : Int) : List Int := if isJ n ls i && isJ n ls j then chI ls (dist n.toNat ls j.toNat) j.toNat i.toNat else []
theorem spec_PathBetween {n i j : Int} {A : Option Addr} {m c : Nat} {ls : List Lb} {w : World} (hr : Reads w 3 A m (lbs ls)) (hm : m ≤ 1048576) :
    Calls Try.prog 41 #[.agg #[.int .i64 n, .slice A m c], .int .i64 i, .int .i64 j] w fun e w' => ∃ A' n' c', e = .returned (.slice A' n' c') ∧ w'.ownsRow w.heap.size 3 1 (.slice A' n' c') n' (ints (pathOf n ls i j)) ∧ n' ≤ 1048576 ∧ Below w.heap.size w w' := by
  have hx := Row.new w 24 [.int .i64 n, .slice A m c]
  cases hb : (isJ n ls i && isJ n ls j) with
  | false =>
    have E := Lib.hid hb; clear hb
    go_enter Try.func41, Try.ntmps41
    go_wp2_with fail
    refine (spec_l03Joints (hr.below (by go_grown)) hm).mono ?_
    rintro e w1 ⟨rfl, hb1⟩
    rw [E.out]
    go_wp2
    go_ret
    have hB : Below w.heap.size w w1 := (by go_grown : Below w.heap.size w _).trans (hb1.mono (by simp))
    have hz := hB.size
    exact ⟨_, 0, 0, rfl, by rw [show pathOf n ls i j = [] by simp [pathOf, E.out]]; exact ownsRow_le (own_empty _ _ _) hz, by omega, hB.alloc hz _⟩
  | true =>
    simp only [Bool.and_eq_true] at hb
    obtain ⟨hok, hi1, hi2⟩ := isJ_t hb.1
    obtain ⟨_, hj1, hj2⟩ := isJ_t hb.2
    obtain ⟨h1, h2, h3, t⟩ := tree_of hok
    obtain ⟨N, rfl⟩ := Int.eq_ofNat_of_zero_le (show 0 ≤ n by omega)
    obtain ⟨I, rfl⟩ := Int.eq_ofNat_of_zero_le hi1
    obtain ⟨J, rfl⟩ := Int.eq_ofNat_of_zero_le hj1
    rw [Int.toNat_natCast] at t
    have td := t.td (s := J) (by omega)
    have E := Lib.hid hb
    clear hb hok t
    go_enter Try.func41, Try.ntmps41
    go_wp2_with fail
    refine (spec_l03Joints (hr.below (by go_grown)) hm).mono ?_
    rintro e w1 ⟨rfl, hb1⟩
    rw [E.out.1, E.out.2]
    have q0 := (hx.below hb1).cell_ (i := 0) rfl
    have q1 := (hx.below hb1).cell_ (i := 1) rfl
    have hB : Below w.heap.size w w1 := (by go_grown : Below w.heap.size w _).trans (hb1.mono (by simp))
    clear hb1 hx
    go_wp2_with fail
    refine (walk_up td (by omega) 2000 I (by omega) (by have := td.nn I (by omega); omega) (-1) (fun _ x _ _ => by omega) _ _ _ _ (hr.below hB) hm).mono ?_
    rintro e w2 ⟨A1, n1, c1, rfl, ho, hn, hb2⟩
    go_wp2
    go_ret
    exact ⟨A1, n1, c1, rfl, by rw [show pathOf N ls I J = chI ls (dist N ls J) J I by simp [pathOf, E.out.1, E.out.2]]; exact ownsRow_le ho hB.size, by omega, hB.trans (hb2.mono hB.size)⟩
end Go.Proofs.Ytnghfocboodkhaa
