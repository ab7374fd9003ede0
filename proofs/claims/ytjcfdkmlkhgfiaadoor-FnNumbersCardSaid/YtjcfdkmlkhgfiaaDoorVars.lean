/- What the laid list gives beyond the table: strconv.ErrSyntax holds an interface value; and the contracts of ParseUint of both sides. -/
import Derived.Test.YtjcfdkmlkhgfiaaDoorDoorKit
import Derived.Test.YtjcfdkmlkhgfiaaDoorNumLaw
import Derived.WalkSmall
import Derived.Shelf.Strconv.ErrVarAll
namespace Go.Proofs.YtjcfdkmlkhgfiaaDoor
open Go.ChangeShapes Go.WideShapes Go.ChangeAt Go.RowKit Go.Deep Go.Joins
set_option maxRecDepth 100000

theorem gES : Tryd.prog.globalNamed "strconv.ErrSyntax" = some 1 := by kernel_rfl
theorem gER : Tryd.prog.globalNamed "strconv.ErrRange" = some 2 := by kernel_rfl
theorem tES : (Tryd.prog.globals[1]?).map (·.type) = some 48 := by kernel_rfl
theorem starES : "*" ++ "errors.errorString" = "*errors.errorString" := by decide
theorem rowES (u : TypeId) (h : Tryd.prog.typeName? 3 u = some "*errors.errorString") : u = 85 :=
  typeName_ptr_named (nm := "errors.errorString") (by rw [starES]; kernel_rfl) (by kernel_rfl) (by decide) u (by rw [starES]; exact h)
theorem cellsES : Tryd.prog.cellsOf 87 = 1 := by kernel_rfl
theorem cellsStr : Tryd.prog.cellsOf 9 = 1 := by kernel_rfl

def Vars (w : World) : Prop := 2 ≤ w.heap.size ∧ ∃ tp p, w.var? Tryd.prog "strconv.ErrSyntax" = some #[.iface tp p]

theorem Vars.below {w w' : World} (h : Vars w) (hb : Below w.heap.size w w') : Vars w' := by
  obtain ⟨hs, tp, p, hv⟩ := h
  exact ⟨Nat.le_trans hs hb.size, tp, p, var?_below hb gES (by omega) hv⟩

theorem var?_lt {w : World} {n : String} {g : Nat} {cs : Array Value} (hg : Tryd.prog.globalNamed n = some g) (h : w.var? Tryd.prog n = some cs) : g < w.heap.size := by
  unfold World.var? at h
  simp only [hg, Option.bind_some] at h
  rcases Nat.lt_or_ge g w.heap.size with h' | h'
  · exact h'
  · simp [Array.getElem?_eq_none h'] at h

theorem laidVars {W : World} {a b c d : String × DataW Unit} {rest : List (String × DataW Unit)} (h : laidMet Tryd.prog (a :: b :: c :: d :: ("strconv.ErrSyntax", Rows.laid_strconv_ErrSyntax) :: rest) W) : Vars W := by
  obtain ⟨a0, s0, hv0, -, -, -⟩ := laid_sentinel h.tail.tail.tail.tail gES tES Tryd.underlying48 rowES Tryd.underlying85 Tryd.underlying87 rfl rfl Tryd.underlying9 cellsES cellsStr
  exact ⟨var?_lt gES hv0, _, _, hv0⟩
end Go.Proofs.YtjcfdkmlkhgfiaaDoor
