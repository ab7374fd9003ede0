/- The draw of a body, and a number out of the code; no condition beyond the length of the code. -/
import Derived.Test.YtnghfocboodkhaaDrawBody2
import Derived.Test.YtnghfocboodkhaaDistLaw
namespace Go.Proofs.Ytnghfocboodkhaa
open Go.ChangeShapes Go.WideShapes Go.ChangeAt Go.RowKit Go.Deep Go.Joins
set_option maxRecDepth 100000
open Go.Sort

/-- A valid body in memory of the call's own. -/
def DrawnBodyL (w : World) (e : Ending) (w' : World) : Prop :=
  ∃ (N : Nat) (ls : List Lb) (B : Option Addr) (m d : Nat), e = .returned (.agg #[.int .i64 (N : Int), .slice B m d]) ∧ w'.ownsRow w.heap.size 52 3 (.slice B m d) m (lbs ls) ∧ bodyOk (N : Int) ls = true ∧ Below w.heap.size w w'
theorem spec_DrawBody {w : World} {n c : Nat} {A : Option Addr} {bs : List Int} (hr : Reads w 1 A n (u8s bs)) (hb : ∀ x ∈ bs, 0 ≤ x ∧ x ≤ 255) (hn : n ≤ 1048576) :
    Calls Try.prog 46 #[.slice A n c] w (DrawnBodyL w) := by
  have hR := Row.new w 24 [.int .i64 0, .slice none 0 0]
  have hb0 : Below w.heap.size w (w.alloc (.cells #[.int .i64 0, .slice none 0 0] 24)) := by go_grown
  go_enter Try.func46, Try.ntmps46
  go_wp2_with fail
  refine (spec_l01New (hr.below (by go_grown)) hb hn).mono ?_
  rintro e w1 ⟨G, rfl, hc1, hG, hb1⟩
  have hlo := hc1.lo
  simp only [World.size_alloc] at hlo
  have HC1 := Lib.hid hc1
  clear hc1 hb1
  go_wp2_with fail
  refine (spec_l02Body HC1.out).mono ?_
  rintro e w2 ⟨N, ls, B, m, d, rfl, ho, hok, hc2⟩
  obtain ⟨h1, h12, hl⟩ := body_short hok
  obtain ⟨Nn, rfl⟩ := Int.eq_ofNat_of_zero_le (show 0 ≤ N by omega)
  have hR2 := hR.below hc2.base
  have s0 := hR2.cell_ (i := 0) rfl
  have s1 := hR2.cell_ (i := 1) rfl
  have f0 := hR2.frozen 0
  have f1 := hR2.frozen 1
  have hB2 : Below w.heap.size w w2 := hb0.trans (hc2.base.mono (by simp))
  have HOK := Lib.hid hok
  have zw1 : w.heap.size < w1.heap.size := by omega
  clear hc2 hok hl
  go_wp2
  refine bodyPost_ret (v := .agg #[.int .i64 (Nn : Int), .slice B m d]) (by simp [results, Try.results46, go_sem, s0, s1]) rfl ⟨Nn, ls, B, m, d, rfl, ?_, HOK.out, ?_⟩
  · exact ownsRow_le (ownsRow_setCell_below (ownsRow_setCell_below ho zw1 _) zw1 _) (by omega)
  · exact (hB2.setCell (by simp) _).setCell (by simp) _

def atV (bs : List Int) (i : Nat) : Int := if bs.length = 0 then 0 else bs.getD ((i * 5 + 1) % bs.length) 0
theorem atV_bd {bs : List Int} (hb : ∀ x ∈ bs, 0 ≤ x ∧ x ≤ 255) (i : Nat) : 0 ≤ atV bs i ∧ atV bs i ≤ 255 := by
  unfold atV
  split
  · omega
  · rename_i h
    have hl : (i * 5 + 1) % bs.length < bs.length := Nat.mod_lt _ (by omega)
    rw [List.getD_eq_getElem?_getD, List.getElem?_eq_getElem hl, Option.getD_some]
    exact hb _ (List.getElem_mem hl)

theorem laws_at {A : Option Addr} {n c i : Nat} {iv : Int} {bs : List Int} {w : World} (hiv : iv = (i : Int)) (hr : Reads w 1 A n (u8s bs)) (hb : ∀ x ∈ bs, 0 ≤ x ∧ x ≤ 255) (hn : n ≤ 1048576) (hi : i ≤ 100) :
    Calls Try.prog 47 #[.slice A n c, .int .i64 iv] w fun e w' => e = .returned (.int .i64 (atV bs i)) ∧ Below w.heap.size w w' := by
  subst hiv
  have hl := hr.lenB
  by_cases h0 : n = 0
  · have S := Lib.hid (show atV bs i = 0 by unfold atV; rw [if_pos (by omega)])
    have e1 : ((n : Int) == 0) = true := by simp [h0]
    clear hl h0
    go_enter Try.func47, Try.ntmps47
    go_wp2
    go_ret
    exact ⟨ret_int S.out.symm, Below.refl _ _⟩
  · have hlt : (i * 5 + 1) % n < n := Nat.mod_lt _ (by omega)
    obtain ⟨b, o, x, rfl, hbB, hx, c0⟩ := hr.u8 hlt
    have S := Lib.hid (show atV bs i = x by unfold atV; rw [if_neg (by omega), hl, List.getD_eq_getElem?_getD, hx]; rfl)
    have hbx := hb x (List.mem_of_getElem? hx)
    have e1 : ((n : Int) == 0) = false := by simp; omega
    have e2 : ((i : Int) * 5 + 1).tmod (n : Int) = (((i * 5 + 1) % n : Nat) : Int) := by
      rw [Int.tmod_eq_emod_of_nonneg (by omega), Int.natCast_emod]
      rfl
    have e3 : ((i : Int) * 5 + 1) % (n : Int) = (((i * 5 + 1) % n : Nat) : Int) := by
      rw [Int.natCast_emod]; rfl
    obtain ⟨q, hq⟩ : ∃ q, q = (i * 5 + 1) % n := ⟨_, rfl⟩
    rw [← hq] at e2 e3 hlt c0
    have lq : (q : Int) < (n : Int) := by omega
    have hne : ¬ (n : Int) = 0 := by omega
    clear hx hl h0 hq
    go_enter Try.func47, Try.ntmps47
    go_wp2
    go_ret
    exact ⟨ret_int S.out.symm, Below.refl _ _⟩
theorem chI_ends {N i j : Nat} {ls : List Lb} (t : Tree N ls) (hi : i < N) (hj : j < N) : ∃ L, (chI ls (dist N ls j) j i).length = L + 1 ∧ L ≤ 1100 ∧ (chI ls (dist N ls j) j i)[0]? = some (i : Int) ∧ (chI ls (dist N ls j) j i)[L]? = some (j : Int) := by
  have td := t.td hj
  obtain ⟨h1, h2⟩ := chI_len td hi
  obtain ⟨r, er⟩ := chain_cons (ls := ls) (d := dist N ls j) (s := j) i
  have hnn := td.nn i hi
  obtain ⟨_, _, l3⟩ := td.links 2000 i hi (by omega)
  refine ⟨(chI ls (dist N ls j) j i).length - 1, by omega, by omega, by simp [chI, er], ?_⟩
  have hlen : (chI ls (dist N ls j) j i).length = (chain ls (dist N ls j) j i).length := by simp [chI]
  have hlt : (chain ls (dist N ls j) j i).length - 1 < (chain ls (dist N ls j) j i).length := by omega
  have hu : (chain ls (dist N ls j) j i)[(chain ls (dist N ls j) j i).length - 1]? = some ((chain ls (dist N ls j) j i)[(chain ls (dist N ls j) j i).length - 1]'hlt) := List.getElem?_eq_getElem hlt
  have := l3 _ _ hu (List.getElem?_eq_none (by omega))
  rw [this] at hu
  rw [hlen]
  simp only [chI, List.getElem?_map, hu, Option.map_some]
theorem distOf_nat {N a b : Nat} {ls : List Lb} (h : bodyOk (N : Int) ls = true) (ha : a < N) (hb : b < N) : distOf (N : Int) ls (a : Int) (b : Int) = dist N ls a b := by
  simp [distOf, isJ_in h ha, isJ_in h hb]
theorem chI_at {N i j : Nat} {ls : List Lb} (t : Tree N ls) (hi : i < N) (hj : j < N) {q : Nat} {x y : Int} (hx : (chI ls (dist N ls j) j i)[q]? = some x) (hy : (chI ls (dist N ls j) j i)[q + 1]? = some y) :
    ∃ u v : Nat, x = u ∧ y = v ∧ u < N ∧ v < N ∧ dist N ls u v = dist N ls j u - dist N ls j v := by
  simp only [chI, List.getElem?_map, Option.map_eq_some_iff] at hx hy
  obtain ⟨u, hu, rfl⟩ := hx
  obtain ⟨v, hv, rfl⟩ := hy
  have td := t.td hj
  obtain ⟨_, l2, _⟩ := td.links 2000 i hi (by have := t.bound hj i; omega)
  have l := l2 q u v hu hv
  exact ⟨u, v, rfl, rfl, l.hu, l.hv, link_dist t hj l⟩
end Go.Proofs.Ytnghfocboodkhaa
