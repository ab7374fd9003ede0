/- Plain words for a row that grows while another is read: where the grown row may lie; no condition beyond lengths. -/
import Derived.Test.YtcdachkaalkjlaaKit2
namespace Go.Proofs.Ytcdachkaalkjlaa
open Go.ChangeShapes Go.WideShapes Go.ChangeAt Go.RowKit Go.Deep Go.Joins
set_option maxRecDepth 100000

/-- A slice does not lie in a block. -/
def Off (A : Option Addr) (b : Nat) : Prop := ∀ a, A = some a → a.block ≠ b
theorem Off.of_blk {A : Option Addr} {lo hi b : Nat} (h : Blk A lo hi) (hb : b < lo ∨ hi ≤ b) : Off A b := fun a ha => by have := h a ha; omega
theorem Off.row {A : Option Addr} {b n c : Nat} (h : Off A b) : some b ≠ (Value.slice A n c).ownBlock := by
  intro hc
  cases A with
  | none => cases hc
  | some a =>
    have e : b = a.block := by injection hc
    exact h a rfl e.symm
theorem Reads.off {w w' : World} {size n : Nat} {A B : Option Addr} {xs : List Value} {m c : Nat} (h : Reads w size A n xs) (hg : w.grownBy w' (Value.slice B m c).ownBlock) (ho : ∀ b o, A = some ⟨b, o, none⟩ → Off B b) : Reads w' size A n xs :=
  h.grown hg fun b o e => (ho b o e).row
theorem Row.off {w w' : World} {g : Nat} {t : TypeId} {cs : List Value} {B : Option Addr} {m c : Nat} (h : Row w g t cs) (hg : w.grownBy w' (Value.slice B m c).ownBlock) (ho : Off B g) : Row w' g t cs := h.grown hg ho.row
theorem own_off {w w' : World} {base size n c m d g : Nat} {e : TypeId} {B : Option Addr} {xs : List Value} (h : w.ownsRow base e size (.slice (some ⟨g, 0, none⟩) n c) n xs) (hg : w.grownBy w' (Value.slice B m d).ownBlock) (ho : Off B g) :
    w'.ownsRow base e size (.slice (some ⟨g, 0, none⟩) n c) n xs :=
  own_grown h hg fun g' e' hc => by
    injection e' with e'
    injection e' with e' _
    subst e'
    exact ho.row hc.symm
/-- Append of one element; where the row may lie behind it. -/
theorem wp_app_off {P : Program} {ops : Array Oper} {rest : List Oper} {o : Oper} {a : Act} {Q : Exit → Act → World → Prop} {W0 : World} (wr : World) (hgd : o.guard = none) (s x : Operand) (t : TypeId)
    (ho : o.op = .call { callee := .builtin .append, args := #[s, x], argTypes := #[t, t] })
    (base : Nat) (e : TypeId) (i : TypeInfo) (z : Value) (size bytes : Nat) (ht : P.underlying t = some (.slice e)) (hi : P.info? e = some i) (hz : i.zero = some z)
    (hsize : i.size = size) (hby : i.bytes = bytes) (hzs : z.cells.size = size) (hsz : 0 < size)
    {A : Option Addr} {n c : Nat} {xs : List Value} (hs : a.eval s = .slice A n c) (hown : wr.ownsRow base e size (.slice A n c) n xs)
    (news : List Value) (hl : news.length = size) (h1 : ∀ u ∈ news, u.oneCell' = true) {g : Nat} (hx : a.eval x = .slice (some ⟨g, 0, none⟩) 1 1) (hgz : g = wr.heap.size)
    (h63 : n + 1 ≤ maxLen) (hbytes : (n + 1) * bytes ≤ 140737488355328) (hbase : base ≤ wr.heap.size) (hW : W0 = wr.alloc (.cells news.toArray e))
    (h : ∀ g' c' w', w'.ownsRow base e size (.slice (some ⟨g', 0, none⟩) (n + 1) c') (n + 1) (xs ++ news) → wr.grownBy w' (Value.slice A n c).ownBlock → (∀ b, b < wr.heap.size → Off A b → Off (some ⟨g', 0, none⟩) b) → wpList P ops Q rest (a.put o.dst (.slice (some ⟨g', 0, none⟩) (n + 1) c')) w') :
    wpList P ops Q (o :: rest) a W0 := by
  subst hW hgz
  refine wpList_append_lies _ hgd s x t ho base e i z size bytes ht hi hz hsize hby hzs hsz (.slice A n c) n xs hs (hown.alloc _) ⟨wr.heap.size, 0, none⟩ 1 1 news hx (by omega)
    (World.news_of_block (cs := news.toArray) (heap_alloc_new wr _)) h1 (by omega) h63 hbytes (by simp; omega) (wr.heap.size + 1) (by simp) ?_
  intro g cap w' h2 h3 h4 _
  refine h g cap w' h2 (grown_trans (World.grownBy_alloc wr _ _) h3) fun b hb hoff => ?_
  rintro a' ha' hc
  injection ha' with ha'
  subst ha'
  rcases h4 with h4 | h4
  · cases A with
    | none => cases h4
    | some a0 =>
      have e0 : a0.block = g := by injection h4
      exact hoff a0 rfl (e0.trans hc)
  · simp only at hc
    omega
end Go.Proofs.Ytcdachkaalkjlaa
