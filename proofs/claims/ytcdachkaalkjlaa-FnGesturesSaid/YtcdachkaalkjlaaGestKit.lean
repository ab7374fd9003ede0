/- Small words for the law of gestures; no condition. -/
import Derived.Test.YtcdachkaalkjlaaGestLaw
import Derived.Test.YtcdachkaalkjlaaSmoothI
import Derived.Test.YtcdachkaalkjlaaDrawPoses
import Derived.Test.YtcdachkaalkjlaaSame
namespace Go.Proofs.Ytcdachkaalkjlaa
open Go.ChangeShapes Go.WideShapes Go.ChangeAt Go.RowKit Go.Deep Go.Joins
set_option maxRecDepth 100000

theorem step_symm {n : Int} {ls : List Lb} {p q : List Int} (hp : poseOk n ls p = true) (hq : poseOk n ls q = true) : stepSize q p = stepSize p q := by
  have fp := poseFacts hp
  have fq := poseFacts hq
  have hl : p.length = q.length := by have := fp.len; have := fq.len; omega
  rw [stepSize_yes (pose_step hp hq), stepSize_yes (pose_step hq hp), stepTo_symm, hl]
theorem step_bd {n : Int} {ls : List Lb} {p q : List Int} (hp : poseOk n ls p = true) (hq : poseOk n ls q = true) : 0 ≤ stepSize p q ∧ stepSize p q ≤ 4000 := by
  rw [stepSize_yes (pose_step hp hq)]
  exact stepTo_bd (poseFacts hp).rng (poseFacts hq).rng _
theorem hi_pose {n : Int} {ls : List Lb} {p q : List Int} (hp : poseOk n ls p = true) (hq : poseOk n ls q = true) : poseOk n ls (bothTo hiF p q p.length) = true :=
  both_pose hp hq (fun a b h1 h2 h3 h4 => by unfold hiF; omega) (fun a b a' b' l h1 h2 h3 h4 => by unfold hiF; omega)
theorem lo_pose {n : Int} {ls : List Lb} {p q : List Int} (hp : poseOk n ls p = true) (hq : poseOk n ls q = true) : poseOk n ls (bothTo loF p q p.length) = true :=
  both_pose hp hq (fun a b h1 h2 h3 h4 => by unfold loF; omega) (fun a b a' b' l h1 h2 h3 h4 => by unfold loF; omega)
end Go.Proofs.Ytcdachkaalkjlaa
