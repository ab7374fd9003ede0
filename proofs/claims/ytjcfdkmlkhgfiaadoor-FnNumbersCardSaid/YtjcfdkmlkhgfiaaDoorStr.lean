/- Plain words for strings: a row of bytes that is appended to and turned into a string, and how two strings compare; no condition beyond lengths. -/
import Derived.Test.YtjcfdkmlkhgfiaaDoorKit2
import Derived.Lib.UnsafeStr
import Derived.Laws.IdiomStrings
import Derived.Lib.BufferWrite
import Derived.Deep.RegionLaw
namespace Go.Proofs.YtjcfdkmlkhgfiaaDoor
open Go.ChangeShapes Go.WideShapes Go.ChangeAt Go.RowKit Go.Deep Go.Joins
set_option maxRecDepth 100000

def bys (l : List UInt8) : List Value := l.map fun b => .int .u8 (b.toNat : Int)

theorem bys_length (l : List UInt8) : (bys l).length = l.length := by simp [bys]

theorem bys_append (a b : List UInt8) : bys (a ++ b) = bys a ++ bys b := by simp [bys]

theorem bys_one (l : List UInt8) : ∀ v ∈ bys l, v.oneCell' = true := by
  intro u hu
  simp only [bys, List.mem_map] at hu
  obtain ⟨x, _, rfl⟩ := hu
  rfl

theorem info_u8 : (Tryd.prog.info? 5).map (fun i => (i.zero, i.size, i.bytes)) = some (some (.int .u8 0), 1, 1) := by kernel_rfl
/-- Append of a few elements that a fresh row holds, at a step of a region that draws its order. -/
theorem step_appm {P : Program} {ops : Array Oper} {o : Oper} {a : Act} {K : Act → World → Prop} {Q : Exit → Act → World → Prop} {E : Prop} {W0 : World} (wr : World) (m : Nat) (hgd : o.guard = none) (s x : Operand) (t : TypeId)
    (ho : o.op = .call { callee := .builtin .append, args := #[s, x], argTypes := #[t, t] })
    (base : Nat) (e : TypeId) (i : TypeInfo) (z : Value) (size bytes : Nat) (ht : P.underlying t = some (.slice e)) (hi : P.info? e = some i) (hz : i.zero = some z)
    (hsize : i.size = size) (hby : i.bytes = bytes) (hzs : z.cells.size = size) (hsz : 0 < size)
    {A : Option Addr} {n c : Nat} {xs : List Value} (hs : a.eval s = .slice A n c) (hown : wr.ownsRow base e size (.slice A n c) n xs)
    (news : List Value) (hl : news.length = m * size) (h1 : ∀ u ∈ news, u.oneCell' = true) (hm : 0 < m) {g : Nat} (hx : a.eval x = .slice (some ⟨g, 0, none⟩) m m) (hgz : g = wr.heap.size)
    (h63 : n + m ≤ maxLen) (hbytes : (n + m) * bytes ≤ 140737488355328) (hbase : base ≤ wr.heap.size) (hW : W0 = wr.alloc (.cells news.toArray e))
    (h : ∀ g' c' w', w'.ownsRow base e size (.slice (some ⟨g', 0, none⟩) (n + m) c') (n + m) (xs ++ news) → wr.grownBy w' (Value.slice A n c).ownBlock → K (a.put o.dst (.slice (some ⟨g', 0, none⟩) (n + m) c')) w') :
    if Region.wanted o (yielded ops a.tmps) = true then Oper.wp P o a W0 K Q else E := by
  subst hW hgz
  refine step_append_lies _ hgd s x t ho base e i z size bytes ht hi hz hsize hby hzs hsz (.slice A n c) n xs hs (hown.alloc _) ⟨wr.heap.size, 0, none⟩ m m news hx hl
    (World.news_of_block (cs := news.toArray) (heap_alloc_new wr _)) h1 hm h63 hbytes (by simp; omega) _ rfl ?_
  intro g cap w' h2 h3 _ _
  exact h g cap w' h2 (grown_trans (World.grownBy_alloc wr _ _) h3)

theorem conv_back {w : World} {base n c : Nat} {A : Option Addr} {l : List UInt8} (h : w.ownsRow base 5 1 (.slice A n c) n (bys l)) :
    (convert 24 9 (.slice A n c)).run Tryd.prog w = .ok (.string ⟨l.toArray⟩) w := by
  have hl : n = l.length := by have := h.1; rw [bys_length] at this; omega
  rcases Nat.eq_zero_or_pos n with h0 | h0
  · obtain rfl : l = [] := List.eq_nil_of_length_eq_zero (by omega)
    subst h0
    rw [run_convert_bytes_string w 24 9 5 A 0 c Tryd.underlying24 Tryd.underlying5 Tryd.underlying9]
    cases A <;> rfl
  · obtain ⟨g, rest, rfl, _, _, _, _, hrow⟩ := row_of_own h h0
    subst hl
    refine run_convert_bytes_back w 24 9 5 _ c l Tryd.underlying24 Tryd.underlying5 Tryd.underlying9 fun j hj => ?_
    rw [Go.WideShapes.add_plain, Nat.zero_add]
    refine hrow.cell_ ?_
    rw [List.getElem?_append_left (by rw [bys_length]; exact hj)]
    simp [bys, hj]

theorem byte1 {x : Int} (h0 : 0 ≤ x) (h1 : x ≤ 255) : [Value.int .u8 x] = bys [UInt8.ofNat x.toNat] := by
  have : ((UInt8.ofNat x.toNat).toNat : Int) = x := by simp; omega
  show _ = [Value.int .u8 ((UInt8.ofNat x.toNat).toNat : Int)]
  rw [this]

theorem str_ext {s : ByteArray} : (⟨s.data.toList.toArray⟩ : ByteArray) = s := by simp
end Go.Proofs.YtjcfdkmlkhgfiaaDoor
