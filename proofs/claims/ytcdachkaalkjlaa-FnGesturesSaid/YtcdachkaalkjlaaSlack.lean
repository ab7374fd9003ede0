/- Contracts of SlackStrings and LowestPoint of both sides; no condition beyond the slices' lengths. -/
import Derived.Test.YtcdachkaalkjlaaHangS
import Derived.Test.YtcdachkaalkjlaaKit3
namespace Go.Proofs.Ytcdachkaalkjlaa
open Go.ChangeShapes Go.WideShapes Go.ChangeAt Go.RowKit Go.Deep Go.Joins
set_option maxRecDepth 100000

def slackB (ps hs : List Int) (k : Nat) : Bool := match ps[k]?, hs[k]? with | some p, some h => decide (0 ≤ p ∧ p < h) | _, _ => false
theorem slackB_at {ps hs : List Int} {k : Nat} {p h : Int} (hp : ps[k]? = some p) (hh : hs[k]? = some h) : slackB ps hs k = decide (0 ≤ p ∧ p < h) := by simp [slackB, hp, hh]
def slackTo (ps hs : List Int) (k : Nat) : List Int := ((List.range k).filter (slackB ps hs)).map fun j : Nat => (j : Int)
theorem slackTo_yes {ps hs : List Int} {k : Nat} (h : slackB ps hs k = true) : slackTo ps hs (k + 1) = slackTo ps hs k ++ [(k : Int)] := by simp [slackTo, List.range_succ, h]
theorem slackTo_no {ps hs : List Int} {k : Nat} (h : slackB ps hs k = false) : slackTo ps hs (k + 1) = slackTo ps hs k := by simp [slackTo, List.range_succ, h]
def slackS (n : Int) (ls : List Lb) (ps : List Int) : List Int := if pullsOk n ls ps then slackTo ps (tab (hangF n.toNat ls ps) n.toNat) n.toNat else []
theorem slackS_yes {N : Nat} {ls : List Lb} {ps : List Int} (h : pullsOk (N : Int) ls ps = true) : slackS N ls ps = slackTo ps (tab (hangF N ls ps) N) N := by simp [slackS, h]
theorem slackS_no {n : Int} {ls : List Lb} {ps : List Int} (h : pullsOk n ls ps = false) : slackS n ls ps = [] := by simp [slackS, h]
end Go.Proofs.Ytcdachkaalkjlaa
