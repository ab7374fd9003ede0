/- Plain law of controls: what ControlOk and PullsOf compute; no program in sight. -/
import Derived.Test.YtbgdnlcjliaigaaSort
import Derived.Test.YtbgdnlcjliaigaaLimb
import Derived.Test.YtbgdnlcjliaigaaDist
namespace Go.Proofs.Ytbgdnlcjliaigaa
open Go.ChangeShapes Go.WideShapes Go.ChangeAt Go.RowKit Go.Deep Go.Joins
set_option maxRecDepth 100000

def cordOk (n J : Int) (x : Lb) : Bool := decide (0 ≤ x.a ∧ x.a ≤ n - 1 ∧ 0 ≤ x.b ∧ x.b ≤ J - 1 ∧ 1 ≤ J ∧ 0 ≤ x.l ∧ x.l ≤ 500)
def ctlNum (h : Int) (ar : List Int) (cs : List Lb) : Bool := decide (0 ≤ h ∧ h ≤ 500 ∧ 1 ≤ ar.length ∧ ar.length ≤ 8 ∧ cs.length ≤ 12)
def ctlOk (h : Int) (ar : List Int) (cs : List Lb) (J : Int) : Bool :=
  ctlNum h ar cs && (inAll ar (-50) 50 && (cs.all (cordOk ar.length J) && decide (cs.map Lb.b).Nodup))
theorem ctl_no1 {h J : Int} {ar : List Int} {cs : List Lb} (hn : ¬(0 ≤ h ∧ h ≤ 500 ∧ 1 ≤ ar.length ∧ ar.length ≤ 8 ∧ cs.length ≤ 12)) : ctlOk h ar cs J = false := by
  have : ctlNum h ar cs = false := decide_eq_false hn
  simp [ctlOk, this]
theorem ctl_no2 {h J : Int} {ar : List Int} {cs : List Lb} (hn : inAll ar (-50) 50 = false) : ctlOk h ar cs J = false := by simp [ctlOk, hn]
theorem ctl_no3 {h J : Int} {ar : List Int} {cs : List Lb} {x : Lb} {k : Nat} (hx : cs[k]? = some x) (hn : ¬(0 ≤ x.a ∧ x.a ≤ (ar.length : Int) - 1 ∧ 0 ≤ x.b ∧ x.b ≤ J - 1 ∧ 1 ≤ J ∧ 0 ≤ x.l ∧ x.l ≤ 500)) : ctlOk h ar cs J = false := by
  have h1 : cordOk ar.length J x = false := decide_eq_false hn
  have : cs.all (cordOk ar.length J) = false := by
    rw [Bool.eq_false_iff]
    intro ha
    rw [List.all_eq_true.1 ha x (List.mem_of_getElem? hx)] at h1
    cases h1
  simp [ctlOk, this]
theorem ctl_no4 {h J : Int} {ar : List Int} {cs : List Lb} {x y : Lb} {k j : Nat} (hx : cs[k]? = some x) (hj : j < k) (hy : cs[j]? = some y) (hb : y.b = x.b) : ctlOk h ar cs J = false := by
  have : decide (cs.map Lb.b).Nodup = false := by
    refine decide_eq_false fun hn => ?_
    have h1 := List.getElem?_eq_some_iff.1 hx
    have h2 := List.getElem?_eq_some_iff.1 hy
    have := List.pairwise_iff_getElem.1 hn j k (by simpa using h2.1) (by simpa using h1.1) hj
    simp only [List.getElem_map] at this
    rw [h1.2, h2.2] at this
    exact this hb
  simp [ctlOk, this]
/-- The cords up to the k-th are good. -/
def Cords (n J : Int) (cs : List Lb) (k : Nat) : Prop := ∀ i x, i < k → cs[i]? = some x → cordOk n J x = true ∧ ∀ j y, j < i → cs[j]? = some y → y.b ≠ x.b
def Apart (cs : List Lb) (b : Int) (i : Nat) : Prop := ∀ j y, j < i → cs[j]? = some y → y.b ≠ b
theorem Apart.zero (cs : List Lb) (b : Int) : Apart cs b 0 := fun j y hj => absurd hj (by omega)
theorem Apart.next {cs : List Lb} {b : Int} {i : Nat} {y : Lb} (h : Apart cs b i) (hy : cs[i]? = some y) (hb : y.b ≠ b) : Apart cs b (i + 1) := by
  intro j z hj hz
  rcases Nat.lt_or_ge j i with hlt | hge
  · exact h j z hlt hz
  · obtain rfl : j = i := by omega
    rw [hy] at hz
    obtain rfl := Option.some.inj hz
    exact hb
theorem Cords.zero (n J : Int) (cs : List Lb) : Cords n J cs 0 := fun i x hi => absurd hi (by omega)
theorem Cords.next {n J : Int} {cs : List Lb} {k : Nat} {x : Lb} (h : Cords n J cs k) (hx : cs[k]? = some x) (h1 : 0 ≤ x.a ∧ x.a ≤ n - 1 ∧ 0 ≤ x.b ∧ x.b ≤ J - 1 ∧ 1 ≤ J ∧ 0 ≤ x.l ∧ x.l ≤ 500) (ha : Apart cs x.b k) : Cords n J cs (k + 1) := by
  intro i y hi hy
  rcases Nat.lt_or_ge i k with hlt | hge
  · exact h i y hlt hy
  · obtain rfl : i = k := by omega
    rw [hx] at hy
    obtain rfl := Option.some.inj hy
    exact ⟨decide_eq_true h1, ha⟩
theorem ctl_yes {h J : Int} {ar : List Int} {cs : List Lb} (hn : 0 ≤ h ∧ h ≤ 500 ∧ 1 ≤ ar.length ∧ ar.length ≤ 8 ∧ cs.length ≤ 12) (hin : inAll ar (-50) 50 = true) (hc : Cords ar.length J cs cs.length) : ctlOk h ar cs J = true := by
  have h1 : ctlNum h ar cs = true := decide_eq_true hn
  have h2 : cs.all (cordOk ar.length J) = true := by
    refine List.all_eq_true.2 fun x hx => ?_
    obtain ⟨i, hi⟩ := List.getElem?_of_mem hx
    exact (hc i x (List.getElem?_eq_some_iff.1 hi).1 hi).1
  have h3 : decide (cs.map Lb.b).Nodup = true := by
    refine decide_eq_true (List.pairwise_iff_getElem.2 fun i j hi hj hij => ?_)
    simp only [List.length_map] at hi hj
    simp only [List.getElem_map]
    exact (hc j _ hj (List.getElem?_eq_getElem hj)).2 i _ hij (List.getElem?_eq_getElem hi)
  simp [ctlOk, h1, h2, h3, hin]
structure CtlFacts (h J : Int) (ar : List Int) (cs : List Lb) : Prop where
  num : 0 ≤ h ∧ h ≤ 500 ∧ 1 ≤ ar.length ∧ ar.length ≤ 8 ∧ cs.length ≤ 12
  rng : inAll ar (-50) 50 = true
  cord : ∀ x ∈ cs, 0 ≤ x.a ∧ x.a ≤ (ar.length : Int) - 1 ∧ 0 ≤ x.b ∧ x.b ≤ J - 1 ∧ 1 ≤ J ∧ 0 ≤ x.l ∧ x.l ≤ 500
theorem ctlFacts {h J : Int} {ar : List Int} {cs : List Lb} (hk : ctlOk h ar cs J = true) : CtlFacts h J ar cs := by
  simp only [ctlOk, Bool.and_eq_true] at hk
  exact ⟨of_decide_eq_true hk.1, hk.2.1, fun x hx => of_decide_eq_true (List.all_eq_true.1 hk.2.2.1 x hx)⟩
/-- The pulls when k cords have been laid. -/
def pullTo (h : Int) (ar : List Int) (cs : List Lb) : Nat → Nat → Int
  | 0 => fun _ => -1
  | k + 1 => match cs[k]? with
    | some x => upd (pullTo h ar cs k) x.q (max (h + ar.getD x.p 0 - x.l) 0)
    | none => pullTo h ar cs k
theorem pullTo_step {h : Int} {ar : List Int} {cs : List Lb} {k : Nat} {x : Lb} {a : Int} (hx : cs[k]? = some x) (ha : ar[x.p]? = some a) : pullTo h ar cs (k + 1) = upd (pullTo h ar cs k) x.q (max (h + a - x.l) 0) := by
  simp [pullTo, hx, ha]
def pullsOf (h : Int) (ar : List Int) (cs : List Lb) (J : Int) : List Int := if ctlOk h ar cs J && decide (1 ≤ J ∧ J ≤ 12) then tab (pullTo h ar cs cs.length) J.toNat else []
theorem pullsOf_no1 {h J : Int} {ar : List Int} {cs : List Lb} (hk : ctlOk h ar cs J = false) : pullsOf h ar cs J = [] := by simp [pullsOf, hk]
theorem pullsOf_no2 {h J : Int} {ar : List Int} {cs : List Lb} (hk : ¬(1 ≤ J ∧ J ≤ 12)) : pullsOf h ar cs J = [] := by
  have : decide (1 ≤ J ∧ J ≤ 12) = false := decide_eq_false hk
  simp [pullsOf, this]
theorem pullsOf_yes {h : Int} {J : Nat} {ar : List Int} {cs : List Lb} (hk : ctlOk h ar cs J = true) (h1 : 1 ≤ J) (h2 : J ≤ 12) : pullsOf h ar cs J = tab (pullTo h ar cs cs.length) J := by
  have : decide (1 ≤ (J : Int) ∧ (J : Int) ≤ 12) = true := decide_eq_true (by omega)
  simp [pullsOf, this, hk]
end Go.Proofs.Ytbgdnlcjliaigaa
