/- More on the cursor of a draw: it keeps while other blocks turn; a natural number below a bound; no condition. -/
import Derived.Test.YtjcfdkmlkhgfiaaDoorDraw
import Derived.Test.YtjcfdkmlkhgfiaaDoorKit4
namespace Go.Proofs.YtjcfdkmlkhgfiaaDoor
open Go.ChangeShapes Go.WideShapes Go.ChangeAt Go.RowKit Go.Deep Go.Joins
set_option maxRecDepth 100000

section
variable {W0 w w' : World} {G n c : Nat} {A : Option Addr} {bs : List Int}
theorem Cur.next {row : Option Nat} (h : Cur W0 w G A n c bs) (hg : w.grownBy w' row) (hne : ∀ k, row = some k → W0.heap.size ≤ k ∧ k ≠ G) : Cur W0 w' G A n c bs := by
  obtain ⟨⟨i, hi, x, hrow⟩, hbase, hlo, hrd, hbd, hlen⟩ := h
  exact ⟨⟨i, hi, x, hrow.grown hg fun e => (hne G e.symm).2 rfl⟩, bel_next hbase hg fun k hk => (hne k hk).1, hlo, hrd, hbd, hlen⟩
theorem Cur.below (h : Cur W0 w G A n c bs) (hb : Below w.heap.size w w') : Cur W0 w' G A n c bs := h.next (grown_of_below hb none) nofun
theorem Cur.drewN (h : Cur W0 w G A n c bs) (q : Nat) : Cur W0 (w.drewN q) G A n c bs := by
  obtain ⟨hrow, hbase, hlo, hrd, hbd, hlen⟩ := h
  exact ⟨hrow, below_drewN hbase q, hlo, hrd, hbd, hlen⟩
theorem Cur.set_far (h : Cur W0 w G A n c bs) {p : Addr} (hp : W0.heap.size ≤ p.block) (hG : p.block ≠ G) (u : Value) : Cur W0 (w.setCell p u) G A n c bs :=
  h.next (grown_setCell (World.grownBy.refl w (some p.block)) (.inl rfl) u) fun k hk => by injection hk with hk; omega
theorem Cur.apart {B : Option Addr} {lo hi m d : Nat} (h : Cur W0 w G A n c bs) (hg : w.grownBy w' (Value.slice B m d).ownBlock) (hB : Blk B lo hi) (hG : G < lo) : Cur W0 w' G A n c bs := by
  refine h.next hg fun k hk => ?_
  have := h.lo
  cases B with
  | none => cases hk
  | some b =>
    have b1 := hB b rfl
    have e : b.block = k := by injection hk
    omega
end
theorem own_cur {w w' : World} {base size n c G lo hi : Nat} {e : TypeId} {A : Option Addr} {xs : List Value} (h : w.ownsRow base e size (.slice A n c) n xs) (hg : w.grownBy w' (some G)) (hA : Blk A lo hi) (hG : G < lo) : w'.ownsRow base e size (.slice A n c) n xs := by
  refine own_grown h hg ?_
  rintro g rfl hc
  have := (hA _ rfl).1
  injection hc with hc
  simp only at this
  omega
theorem row_cur {w w' : World} {p G : Nat} {t : TypeId} {cs : List Value} (h : Row w p t cs) (hg : w.grownBy w' (some G)) (hp : p ≠ G) : Row w' p t cs :=
  h.grown hg fun hc => hp (by injection hc)
theorem cell_cur {w w' : World} {b o G : Nat} {v : Value} (hg : w.grownBy w' (some G)) (h : w.cell? ⟨b, o, none⟩ = some v) (hb : b ≠ G) : w'.cell? ⟨b, o, none⟩ = some v :=
  (hg.cell_far ⟨b, o, none⟩ (World.block_lt_of_cell? w _ h) fun hc => hb (by injection hc)).trans h

/-- A natural number below N, and what became of the cursor. -/
def OneNat (W0 w : World) (G : Nat) (A : Option Addr) (n c : Nat) (bs : List Int) (N : Nat) (e : Ending) (w' : World) : Prop :=
  ∃ k : Nat, k < N ∧ e = .returned (.int .i64 (k : Int)) ∧ Cur W0 w' G A n c bs ∧ w.grownBy w' (some G)
theorem l01Below_nat {W0 w : World} {G n c : Nat} {A : Option Addr} {bs : List Int} {N : Nat} {x : Int} (hc : Cur W0 w G A n c bs) (hx : x = (N : Int)) (h1 : 1 ≤ N) (h2 : N ≤ 4000000000) :
    Calls Tryd.prog 26 #[.pointer (some ⟨G, 0, none⟩), .int .i64 x] w (OneNat W0 w G A n c bs N) := by
  subst hx
  refine (spec_l01Below hc (by omega) (by omega)).mono ?_
  rintro e w1 ⟨v, v0, v1, rfl, hc1, hg1⟩
  obtain ⟨k, rfl⟩ := Int.eq_ofNat_of_zero_le v0
  exact ⟨k, by omega, rfl, hc1, hg1⟩
end Go.Proofs.YtjcfdkmlkhgfiaaDoor
