/- Contracts of the cursor of a draw: a byte, a number below a bound; no condition beyond the length of the code. -/
import Derived.Test.YtjcfdkmlkhgfiaaDoorBytes
import Derived.IntWalk
namespace Go.Proofs.YtjcfdkmlkhgfiaaDoor
open Go.ChangeShapes Go.WideShapes Go.ChangeAt Go.RowKit Go.Deep Go.Joins
set_option maxRecDepth 100000

theorem band255 (x : Int) : 0 ≤ bits BinOp.and IntKind.i64 x 255 ∧ bits BinOp.and IntKind.i64 x 255 ≤ 255 := by
  have h : (BitVec.ofInt 64 x &&& BitVec.ofInt 64 255).toNat ≤ 255 := by
    rw [BitVec.toNat_and]
    exact Nat.le_trans Nat.and_le_right (by decide)
  have e : bits BinOp.and IntKind.i64 x 255 = ((BitVec.ofInt 64 x &&& BitVec.ofInt 64 255).toNat : Int) := by
    show IntKind.i64.wrap (((BitVec.ofInt 64 x &&& BitVec.ofInt 64 255).toNat : Nat) : Int) = _
    exact IntWalk.i64_in _ (by omega)
  rw [e]
  omega
/-- The cursor in block G stands somewhere in the code. -/
structure Cur (W0 w : World) (G : Nat) (A : Option Addr) (n c : Nat) (bs : List Int) : Prop where
  row : ∃ i : Nat, i ≤ n ∧ ∃ h : Int, Row w G 54 [.slice A n c, .int .i64 i, .int .i64 h]
  base : Below W0.heap.size W0 w
  lo : W0.heap.size ≤ G
  rd : Reads W0 1 A n (u8s bs)
  bd : ∀ x ∈ bs, 0 ≤ x ∧ x ≤ 255
  len : n ≤ 1048576
def OneByte (W0 w : World) (G : Nat) (A : Option Addr) (n c : Nat) (bs : List Int) (e : Ending) (w' : World) : Prop :=
  ∃ v : Int, 0 ≤ v ∧ v ≤ 255 ∧ e = .returned (.int .i64 v) ∧ Cur W0 w' G A n c bs ∧ w.grownBy w' (some G)

set_option maxHeartbeats 4000000 in
theorem spec_l01Byte {W0 w : World} {G n c : Nat} {A : Option Addr} {bs : List Int} (hc : Cur W0 w G A n c bs) :
    Calls Tryd.prog 34 #[.pointer (some ⟨G, 0, none⟩)] w (OneByte W0 w G A n c bs) := by
  obtain ⟨⟨i, hi, h, hrow⟩, hbase, hlo, hrd, hbd, hlen⟩ := hc
  have q0 := hrow.cell_ (i := 0) rfl
  have q1 := hrow.cell_ (i := 1) rfl
  have q2 := hrow.cell_ (i := 2) rfl
  have f2 := hrow.frozen 2
  obtain ⟨m1, r1⟩ : ∃ m1, wrap64 (h * 6364136223846793005) = m1 := ⟨_, rfl⟩
  obtain ⟨h2, r2⟩ : ∃ h2, wrap64 (m1 + 1442695040888963407) = h2 := ⟨_, rfl⟩
  go_enter Tryd.func34, Tryd.ntmps34
  go_wp2
  have R1 := hrow.set 2 (.int .i64 h2)
  simp only [List.set_cons_succ, List.set_cons_zero] at R1
  have hb1 := hbase.setCell (p := ⟨G, 2, none⟩) hlo (.int .i64 h2)
  have hg1 : w.grownBy (w.setCell ⟨G, 2, none⟩ (.int .i64 h2)) (some G) := grown_setCell (World.grownBy.refl w _) (.inl rfl) _
  clear q0 q1 q2 f2 r1 r2 hrow hbase
  generalize w.setCell ⟨G, 2, none⟩ (.int .i64 h2) = w1 at *
  have q0 := R1.cell_ (i := 0) rfl
  have q1 := R1.cell_ (i := 1) rfl
  have q2 := R1.cell_ (i := 2) rfl
  go_quiet (fail)
  go_wp2
  generalize hv : bits BinOp.and IntKind.i64 (bits BinOp.xor IntKind.i64 (h2 / 8589934592) (h2 / 35184372088832)) 255 = v
  have v0 : 0 ≤ v := by rw [← hv]; exact (band255 _).1
  have v1 : v ≤ 255 := by rw [← hv]; exact (band255 _).2
  clear hv
  by_cases hlt : i < n
  · obtain ⟨b, o, x, rfl, hbB, hx, c0⟩ := (hrd.below hb1).u8 hlt
    have x0 := (hbd x (List.mem_of_getElem? hx)).1
    have x1 := (hbd x (List.mem_of_getElem? hx)).2
    have l1 : (i : Int) < (n : Int) := by omega
    have s1 : IntKind.i64.wrap x = x := IntWalk.i64_in _ (by omega)
    have s2 : IntKind.i64.wrap (v + x) = v + x := IntWalk.i64_in _ (by omega)
    have f1 := R1.frozen 1
    have z0 := (band255 (v + x)).1
    have z1 := (band255 (v + x)).2
    clear hx
    go_quiet (fail)
    go_wp2
    go_quiet (fail)
    clear s1 s2
    generalize bits BinOp.and IntKind.i64 (v + x) 255 = v2 at *
    go_wp2
    go_ret
    have R2 := R1.set 1 (.int .i64 ((i : Int) + 1))
    simp only [List.set_cons_succ, List.set_cons_zero] at R2
    exact ⟨v2, z0, z1, rfl, ⟨⟨i + 1, by omega, h2, R2⟩, (below_drewN hb1 _).setCell (p := ⟨G, 1, none⟩) hlo (.int .i64 ((i : Int) + 1)), hlo, hrd, hbd, hlen⟩, grown_setCell (grown_drewN hg1 _) (p := ⟨G, 1, none⟩) (.inl rfl) (.int .i64 ((i : Int) + 1))⟩
  · have l1 : ¬ (i : Int) < (n : Int) := by omega
    have l2 : decide ((i : Int) < (n : Int)) = false := by simpa using l1
    go_quiet (fail)
    go_wp2
    go_ret
    exact ⟨v, v0, v1, rfl, ⟨⟨i, hi, h2, R1⟩, below_drewN hb1 _, hlo, hrd, hbd, hlen⟩, grown_drewN hg1 _⟩

/-- A number from lo to hi, and what became of the cursor. -/
def OneIn (W0 w : World) (G : Nat) (A : Option Addr) (n c : Nat) (bs : List Int) (lo hi : Int) (e : Ending) (w' : World) : Prop :=
  ∃ v : Int, lo ≤ v ∧ v ≤ hi ∧ e = .returned (.int .i64 v) ∧ Cur W0 w' G A n c bs ∧ w.grownBy w' (some G)
theorem spec_l01Below_zero {G : Nat} {N : Int} {w : World} (h : N ≤ 0) : Calls Tryd.prog 26 #[.pointer (some ⟨G, 0, none⟩), .int .i64 N] w fun e w' => e = .returned (.int .i64 0) ∧ w = w' := by
  go_enter Tryd.func26, Tryd.ntmps26
  go_wp2
  go_ret
  exact ⟨rfl, rfl⟩

set_option maxHeartbeats 4000000 in
theorem spec_l01Below {W0 w : World} {G n c : Nat} {A : Option Addr} {bs : List Int} {N : Int} (hc : Cur W0 w G A n c bs) (h1 : 1 ≤ N) (h2 : N ≤ 4000000000) :
    Calls Tryd.prog 26 #[.pointer (some ⟨G, 0, none⟩), .int .i64 N] w (OneIn W0 w G A n c bs 0 (N - 1)) := by
  have HC := Lib.hid hc
  clear hc
  by_cases h3 : N ≤ 256
  · go_enter Tryd.func26, Tryd.ntmps26
    go_wp2_with fail
    refine (spec_l01Byte HC.out).mono ?_
    rintro e w1 ⟨v, v0, v1, rfl, hc1, hg1⟩
    have HC1 := Lib.hid hc1
    have HG1 := Lib.hid hg1
    clear hc1 hg1
    go_wp2
    go_ret
    exact ⟨_, Int.emod_nonneg _ (by omega), by have := Int.emod_lt_of_pos v (show 0 < N by omega); omega, rfl, HC1.out, HG1.out⟩
  · have h4 : 256 < N := by omega
    clear h3
    go_enter Tryd.func26, Tryd.ntmps26
    go_wp2_with fail
    refine (spec_l01Byte HC.out).mono ?_
    rintro e w1 ⟨v, v0, v1, rfl, hc1, hg1⟩
    have HC1 := Lib.hid hc1
    have HG1 := Lib.hid hg1
    clear hc1 hg1
    go_wp2_with fail
    refine (spec_l01Byte HC1.out).mono ?_
    rintro e w2 ⟨u, u0, u1, rfl, hc1, hg1⟩
    have HC2 := Lib.hid hc1
    have HG2 := Lib.hid (grown_trans HG1.out hg1)
    clear hc1 hg1 HC1 HG1
    go_wp2_with fail
    refine (spec_l01Byte HC2.out).mono ?_
    rintro e w3 ⟨x, x0, x1, rfl, hc1, hg1⟩
    have HC3 := Lib.hid hc1
    have HG3 := Lib.hid (grown_trans HG2.out hg1)
    clear hc1 hg1 HC2 HG2
    go_wp2_with fail
    refine (spec_l01Byte HC3.out).mono ?_
    rintro e w4 ⟨y, y0, y1, rfl, hc1, hg1⟩
    have HC4 := Lib.hid hc1
    have HG4 := Lib.hid (grown_trans HG3.out hg1)
    clear hc1 hg1 HC3 HG3
    go_wp2
    go_ret
    exact ⟨_, Int.emod_nonneg _ (by omega), by have := Int.emod_lt_of_pos (v * 16777216 + u * 65536 + x * 256 + y) (show 0 < N by omega); omega, rfl, HC4.out, HG4.out⟩

theorem spec_l01Once {W0 w : World} {G n c : Nat} {A : Option Addr} {bs : List Int} {N : Int} (hc : Cur W0 w G A n c bs) (h1 : 1 ≤ N) (h2 : N ≤ 4000000000) :
    Calls Tryd.prog 24 #[.pointer (some ⟨G, 0, none⟩), .int .i64 N] w fun e w' => ∃ b, e = .returned (.bool b) ∧ Cur W0 w' G A n c bs ∧ w.grownBy w' (some G) := by
  have HC := Lib.hid hc
  clear hc
  go_enter Tryd.func24, Tryd.ntmps24
  go_wp2_with fail
  refine (spec_l01Below HC.out h1 h2).mono ?_
  rintro e w1 ⟨v, v0, v1, rfl, hc1, hg1⟩
  have HC1 := Lib.hid hc1
  have HG1 := Lib.hid hg1
  clear hc1 hg1
  go_wp2
  go_ret
  exact ⟨_, rfl, HC1.out, HG1.out⟩

theorem spec_l01PickInt {W0 w : World} {G n c m d : Nat} {A B : Option Addr} {bs xs : List Int} (hc : Cur W0 w G A n c bs) (hr : Reads w 1 B m (ints xs)) (hm : 1 ≤ m) (hm2 : m ≤ 1048576) (hB : ∀ b o, B = some ⟨b, o, none⟩ → b ≠ G) :
    Calls Tryd.prog 38 #[.pointer (some ⟨G, 0, none⟩), .slice B m d] w fun e w' => ∃ x, x ∈ xs ∧ e = .returned (.int .i64 x) ∧ Cur W0 w' G A n c bs ∧ w.grownBy w' (some G) := by
  have HC := Lib.hid hc
  clear hc
  go_enter Tryd.func38, Tryd.ntmps38
  go_wp2_with fail
  refine (spec_l01Below HC.out (by omega) (by omega)).mono ?_
  rintro e w1 ⟨v, v0, v1, rfl, hc1, hg1⟩
  have HC1 := Lib.hid hc1
  have HG1 := Lib.hid hg1
  obtain ⟨k, rfl⟩ := Int.eq_ofNat_of_zero_le v0
  have hk : k < m := by omega
  obtain ⟨b, o, x, rfl, hbB, hx, c0⟩ := (hr.grown hg1 (fun b o e h => hB b o e (by injection h))).int hk
  have HX := Lib.hid (List.mem_of_getElem? hx)
  have lk : (k : Int) < (m : Int) := by omega
  clear hc1 hg1 hx
  go_wp2
  go_ret
  exact ⟨x, HX.out, rfl, HC1.out, HG1.out⟩

theorem Cur.alloc {W0 w : World} {G n c : Nat} {A : Option Addr} {bs : List Int} (h : Cur W0 w G A n c bs) (o : Obj) : Cur W0 (w.alloc o) G A n c bs := by
  obtain ⟨⟨i, hi, x, hrow⟩, hbase, hlo, hrd, hbd, hlen⟩ := h
  exact ⟨⟨i, hi, x, hrow.alloc o⟩, hbase.alloc hbase.size o, hlo, hrd, hbd, hlen⟩
theorem Cur.lt {W0 w : World} {G n c : Nat} {A : Option Addr} {bs : List Int} (h : Cur W0 w G A n c bs) : G < w.heap.size := by
  obtain ⟨i, hi, x, hrow⟩ := h.row
  exact hrow.lt

set_option maxHeartbeats 4000000 in
theorem spec_l01New {w : World} {n c : Nat} {A : Option Addr} {bs : List Int} (hr : Reads w 1 A n (u8s bs)) (hb : ∀ x ∈ bs, 0 ≤ x ∧ x ≤ 255) (hn : n ≤ 1048576) :
    Calls Tryd.prog 23 #[.slice A n c] w fun e w' => ∃ G, e = .returned (.pointer (some ⟨G, 0, none⟩)) ∧ Cur w w' G A n c bs ∧ G < w'.heap.size ∧ Below w.heap.size w w' := by
  go_enter Tryd.func23, Tryd.ntmps23
  go_wp2
  go_loop [3, 4] (fun h i => ∃ (k : Nat) (x : Int), k ≤ n ∧ i = .int .i64 k ∧ h = .int .i64 x) (fun _ i => n - (intOf i).toNat)
  case atStart => exact ⟨0, _, by omega, rfl, rfl⟩
  case round =>
    obtain ⟨k, x, hk, rfl, rfl⟩ := hrel
    by_cases hlt : k < n
    · by_cases h4 : k < 4000
      · obtain ⟨b, o, y, rfl, hbB, hy, c0⟩ := hr.u8 hlt
        have y0 := (hb y (List.mem_of_getElem? hy)).1
        have y1 := (hb y (List.mem_of_getElem? hy)).2
        clear hy
        go_wp2
        go_round
        case rel => exact ⟨k + 1, _, by omega, by go_num, rfl⟩
        case measure => simp [intOf]; omega
      · have h4' : ¬ (k : Int) < 4000 := by omega
        go_wp2
        go_ret
        exact ⟨w.heap.size, rfl, ⟨⟨0, by omega, x, by simpa using Row.new w _ [.slice A n c, .int .i64 0, .int .i64 x]⟩, by go_grown, Nat.le_refl _, hr, hb, hn⟩, by simp, by go_grown⟩
    · go_wp2
      go_ret
      exact ⟨w.heap.size, rfl, ⟨⟨0, by omega, x, by simpa using Row.new w _ [.slice A n c, .int .i64 0, .int .i64 x]⟩, by go_grown, Nat.le_refl _, hr, hb, hn⟩, by simp, by go_grown⟩

theorem laws_big {w : World} {n c : Nat} {A : Option Addr} (hn : n ≤ 9223372036854775807) : Calls Tryd.prog 10 #[.slice A n c] w fun e w' => e = .returned (.bool (decide (1048576 < n))) ∧ w = w' := by
  go_enter Tryd.func10, Tryd.ntmps10
  go_wp2
  go_ret
  exact ⟨ret_bool (by simp; try omega), rfl⟩
end Go.Proofs.YtjcfdkmlkhgfiaaDoor
