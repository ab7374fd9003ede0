/- Contracts of the reference's SlackStrings and of LowestPoint of both sides; no condition beyond the slices' lengths. -/
import Derived.Test.YtcdachkaalkjlaaSlack
namespace Go.Proofs.Ytcdachkaalkjlaa
open Go.ChangeShapes Go.WideShapes Go.ChangeAt Go.RowKit Go.Deep Go.Joins
set_option maxRecDepth 100000

theorem slack_gen {n : Int} {ls : List Lb} {ps : List Int} : slackS n ls ps = slackTo ps (hangPose n ls ps) (hangPose n ls ps).length := by
  cases h : pullsOk n ls ps with
  | false => rw [slackS_no h, hangPose_no h]; rfl
  | true =>
    obtain ⟨h1, h2, _, _⟩ := tree_of (pullsFacts h).body
    obtain ⟨N, rfl⟩ := Int.eq_ofNat_of_zero_le (show 0 ≤ n by omega)
    rw [slackS_yes h, hangPose_yes h, tab_length]
theorem hang_len {n : Int} {ls : List Lb} {ps : List Int} : (hangPose n ls ps).length ≤ ps.length := by
  cases h : pullsOk n ls ps with
  | false => rw [hangPose_no h]; simp
  | true =>
    have h3 := pullsFacts h
    obtain ⟨h1, h2, _, _⟩ := tree_of h3.body
    obtain ⟨N, rfl⟩ := Int.eq_ofNat_of_zero_le (show 0 ≤ n by omega)
    rw [hangPose_yes h, tab_length]
    have := h3.len
    omega

def lowTo (L : List Int) (k : Nat) : Int := (L.take k).foldl min (L.headD 0)
theorem lowTo_step {L : List Int} {k : Nat} {x : Int} (hx : L[k]? = some x) : lowTo L (k + 1) = min (lowTo L k) x := by simp [lowTo, take_snoc hx]
theorem fold_min (L : List Int) : ∀ a : Int, L.foldl min a ≤ a ∧ (∀ x ∈ L, L.foldl min a ≤ x) ∧ (L.foldl min a = a ∨ L.foldl min a ∈ L) := by
  induction L with
  | nil => intro a; simp
  | cons y ys ih =>
    intro a
    obtain ⟨h1, h2, h3⟩ := ih (min a y)
    simp only [List.foldl_cons]
    refine ⟨by omega, fun x hx => ?_, ?_⟩
    · rcases List.mem_cons.1 hx with rfl | hx
      · omega
      · exact h2 x hx
    · rcases h3 with h3 | h3
      · by_cases h : a ≤ y
        · left; omega
        · right; simp; left; omega
      · right; simp [h3]
theorem low_sorted {L : List Int} {x : Int} (hx : (sortL L)[0]? = some x) : x = lowTo L L.length := by
  cases L with
  | nil => simp [sortL, sortTo] at hx
  | cons y ys =>
    obtain ⟨h1, h2, h3⟩ := fold_min (y :: ys) y
    have hl : lowTo (y :: ys) (y :: ys).length = (y :: ys).foldl min y := by simp [lowTo]
    rw [hl]
    generalize hf : (y :: ys).foldl min y = f at h1 h2 h3
    have hm : f ∈ y :: ys := by
      rcases h3 with h3 | h3
      · rw [h3]; simp
      · exact h3
    have hxm : x ∈ y :: ys := (sortL_perm _).mem_iff.1 (List.mem_of_getElem? hx)
    have a1 := h2 x hxm
    have a2 : x ≤ f := by
      have hms := (sortL_perm (y :: ys)).mem_iff.2 hm
      obtain ⟨i, hi⟩ := List.getElem?_of_mem hms
      rcases Nat.eq_zero_or_pos i with h0 | h0
      · subst h0; rw [hx] at hi; injection hi with hi; omega
      · have e1 := List.getElem?_eq_some_iff.1 hx
        have e2 := List.getElem?_eq_some_iff.1 hi
        have := List.pairwise_iff_getElem.1 (sortL_up (y :: ys)) 0 i e1.1 e2.1 h0
        rw [e1.2, e2.2] at this
        exact this
    omega
theorem lowTo_one {L : List Int} {x : Int} (hx : L[0]? = some x) : lowTo L 0 = x := by
  cases L with
  | nil => simp at hx
  | cons y ys => simpa [lowTo] using hx
def lowS (n : Int) (ls : List Lb) (ps : List Int) : Int := if pullsOk n ls ps then lowTo (hangPose n ls ps) (hangPose n ls ps).length else -2001
theorem lowS_yes {n : Int} {ls : List Lb} {ps : List Int} (h : pullsOk n ls ps = true) : lowS n ls ps = lowTo (hangPose n ls ps) (hangPose n ls ps).length := by simp [lowS, h]
theorem lowS_no {n : Int} {ls : List Lb} {ps : List Int} (h : pullsOk n ls ps = false) : lowS n ls ps = -2001 := by simp [lowS, h]
theorem hang_yes_len {n : Int} {ls : List Lb} {ps : List Int} (h : pullsOk n ls ps = true) : 1 ≤ (hangPose n ls ps).length ∧ (hangPose n ls ps).length ≤ 12 := by
  obtain ⟨h1, h2, _, _⟩ := tree_of (pullsFacts h).body
  obtain ⟨N, rfl⟩ := Int.eq_ofNat_of_zero_le (show 0 ≤ n by omega)
  rw [hangPose_yes h, tab_length]
  omega
end Go.Proofs.Ytcdachkaalkjlaa
