/- The argument of crossings, opened; no condition. -/
import Derived.Test.YtkpgfmkmbgapmaaCross
namespace Go.Proofs.Ytkpgfmkmbgapmaa
open Go.ChangeShapes Go.WideShapes Go.ChangeAt Go.RowKit Go.Deep Go.Joins
set_option maxRecDepth 100000

theorem reads_crs {w : World} {b o n : Nat} {ls : List Cr} (hl : ls.length = n) (hb : 0 < n → b < w.heap.size)
    (h : ∀ i x, ls[i]? = some x → w.cell? ⟨b, o + (i * 2 + 0), none⟩ = some (.int .i64 x.at_) ∧ w.cell? ⟨b, o + (i * 2 + 1), none⟩ = some (.bool x.front)) :
    Reads w 2 (some ⟨b, o, none⟩) n (crs ls) := by
  refine ⟨by rw [crs_length, hl], fun hn => ⟨b, o, rfl, hb hn, fun j u hu => ?_⟩⟩
  have hj : j < ls.length * 2 := by have := (List.getElem?_eq_some_iff.1 hu).1; rwa [crs_length] at this
  have hk : j / 2 < ls.length := by omega
  have hr : j % 2 < 2 := Nat.mod_lt _ (by omega)
  have e : j = j / 2 * 2 + j % 2 := by omega
  rw [e, crs_get ls _ hk _ hr] at hu
  obtain ⟨h0, h1⟩ := h (j / 2) _ (List.getElem?_eq_getElem hk)
  rw [e]
  have : j % 2 = 0 ∨ j % 2 = 1 := by omega
  rcases this with e' | e' <;> rw [e'] at hu ⊢ <;> simp only [Cr.cs, List.getElem?_cons_zero, List.getElem?_cons_succ, Option.some.injEq] at hu <;> subst hu <;> assumption

section
variable {H : Type} {enc : TypeId × Value → H} {w : World} {base : Nat}
theorem cells_lawCross : Try.prog.cellsOf 52 = 2 := by kernel_rfl
theorem open_crossS {r : Reach} {b0 : Nat} {v : Value} {d : DataW H} {p : List MemPlace} (hv : Value.okWide Try.prog w r b0 22 v) (h : DataW.Trod enc Try.prog w base (fun _ => true) true 22 v d p) :
    ∃ (A : Option Addr) (n c : Nat) (ls : List Cr), v = .slice A n c ∧ Reads w 2 A n (crs ls) ∧ n ≤ 9223372036854775807 := by
  obtain ⟨a0, len0, cap0, rfl⟩ := okWide_slice Try.underlying22 hv
  obtain ⟨fuel, hf⟩ := h
  rcases open_slice_fields Try.underlying22 Try.underlying52 (by kernel_rfl) (by kernel_rfl) hf with ⟨hcs, _⟩ | ⟨a, len, cap, m, Dt, Pl, hcs, _, hl, hm, hmm, _, hi⟩
  · have e1 : (Value.slice a0 len0 cap0) = .slice none 0 0 := by simpa [Value.cells] using hcs
    exact ⟨none, 0, 0, [], e1, Reads.none_, by omega⟩
  · have e1 : (Value.slice a0 len0 cap0) = .slice (some a) len cap := by simpa [Value.cells] using hcs
    simp only [if_true] at hmm
    subst hmm
    have pick : ∀ i, i < len → ∃ x : Cr, w.cell? (a.add (i * 2 + 0)) = some (.int .i64 x.at_) ∧ w.cell? (a.add (i * 2 + 1)) = some (.bool x.front) := by
      intro i hil
      obtain ⟨ys, n, _, _, _, hf⟩ := hi i (by omega)
      obtain ⟨v0, y0, hc0, _, ht0⟩ := hf 0 _ rfl
      obtain ⟨v1, y1, hc1, _, ht1⟩ := hf 1 _ rfl
      obtain ⟨z, hz, _, _⟩ := DataW.trod_int Try.underlying3 ht0
      obtain ⟨z', hz', _⟩ := DataW.trod_bool Try.underlying4 ht1
      injection hz with hz _
      injection hz' with hz' _
      subst hz hz'
      exact ⟨⟨z, z'⟩, hc0, hc1⟩
    obtain ⟨ls, hlen, hq⟩ := choice_list pick
    refine ⟨some a, len, _, ls, e1, ?_, by unfold maxLen at hm; omega⟩
    rcases Nat.eq_zero_or_pos len with h0 | h0
    · subst h0
      have : ls = [] := List.eq_nil_of_length_eq_zero hlen
      subst this
      exact ⟨by simp [crs], fun h => absurd h (by omega)⟩
    · obtain ⟨x, hx, _⟩ := pick 0 h0
      obtain ⟨b, o, rfl, _⟩ := addr_plain hx ⟨_, hx⟩
      refine reads_crs hlen (fun _ => ?_) (fun i x hx => ?_)
      · rw [Go.WideShapes.add_plain] at hx
        exact World.block_lt_of_cell? _ _ hx
      · have := hq i x hx
        simpa only [Go.WideShapes.add_plain] using this
end
end Go.Proofs.Ytkpgfmkmbgapmaa
