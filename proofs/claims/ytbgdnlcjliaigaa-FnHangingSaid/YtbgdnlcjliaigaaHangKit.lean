/- Small words for the law of hanging; no condition. -/
import Derived.Test.YtbgdnlcjliaigaaHangLaw
import Derived.Test.YtbgdnlcjliaigaaSame
import Derived.Test.YtbgdnlcjliaigaaDrawPulls
namespace Go.Proofs.Ytbgdnlcjliaigaa
open Go.ChangeShapes Go.WideShapes Go.ChangeAt Go.RowKit Go.Deep Go.Joins
set_option maxRecDepth 100000

theorem info_ho : (Try.prog.info? 3).map (fun i => (i.zero, i.size, i.bytes)) = some (some (.int .i64 0), 1, 8) := by kernel_rfl
theorem own_setI {w : World} {base n c g k : Nat} {e : TypeId} {xs : List Int} (h : w.ownsRow base e 1 (.slice (some ⟨g, 0, none⟩) n c) n (ints xs)) (hk : k < xs.length) (v : Int) :
    (w.setCell ⟨g, k, none⟩ (.int .i64 v)).ownsRow base e 1 (.slice (some ⟨g, 0, none⟩) n c) n (ints (xs.set k v)) := by
  have hx : xs[k]? = some (xs[k]'hk) := List.getElem?_eq_getElem hk
  have e1 : ints xs = ints (xs.take k) ++ .int .i64 (xs[k]'hk) :: ints (xs.drop (k + 1)) := by
    conv => lhs; rw [← List.take_append_drop k xs, drop_cons hx]
    rw [ints_append]; rfl
  have e2 : ints (xs.set k v) = ints (xs.take k) ++ .int .i64 v :: ints (xs.drop (k + 1)) := by
    rw [List.set_eq_take_append_cons_drop, if_pos hk, ints_append]; rfl
  rw [e1] at h
  rw [e2]
  exact own_set h (by rw [ints_length, take_len hx]) _
end Go.Proofs.Ytbgdnlcjliaigaa
