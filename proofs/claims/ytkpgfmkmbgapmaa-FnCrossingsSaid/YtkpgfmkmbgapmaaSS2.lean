/- Slices of slices of integers: the argument opened, its size counted, its copy made; lengths at most 2^20 in all. -/
import Derived.Test.YtkpgfmkmbgapmaaSS
import Derived.Test.YtkpgfmkmbgapmaaOpenI
namespace Go.Proofs.Ytkpgfmkmbgapmaa
open Go.ChangeShapes Go.WideShapes Go.ChangeAt Go.RowKit Go.Deep Go.Joins
set_option maxRecDepth 100000

theorem cells_is : Try.prog.cellsOf 34 = 1 := by kernel_rfl
section
variable {H : Type} {enc : TypeId × Value → H} {w : World} {base : Nat}
theorem open_intS0 {fuel : Nat} {cs : List Value} {x : DataW H × List MemPlace} (hf : DataW.trod enc Try.prog w base (fun _ => true) true fuel 34 cs = some x) :
    ∃ s : Sl × List Int, cs = [s.1.v] ∧ Reads w 1 s.1.A s.1.n (ints s.2) ∧ s.1.n ≤ 9223372036854775807 := by
  rcases open_ints Try.underlying34 Try.underlying3 cells_i hf with ⟨hcs, hx⟩ | ⟨a, len, cap, zs, hcs, _, hl, hm, hz, hx, hcell, hwz⟩
  · exact ⟨⟨⟨none, 0, 0⟩, []⟩, hcs, Reads.none_, by simp⟩
  · simp only [if_true] at hz
    refine ⟨⟨⟨some a, len, cap⟩, zs.take len⟩, hcs, ⟨by simp [ints, hz]; omega, fun hn => ?_⟩, by show len ≤ _; unfold maxLen at hm; omega⟩
    have hn : 0 < len := hn
    obtain ⟨b, o, rfl, hat⟩ := ints_at hcell (by omega)
    refine ⟨b, o, rfl, World.block_lt_of_cell? _ _ (hat 0 (by omega)), fun j u hu => ?_⟩
    rw [ints_get] at hu
    cases hq : (zs.take len)[j]? with
    | none => rw [hq] at hu; cases hu
    | some z =>
      rw [hq] at hu
      have hu' : Value.int .i64 z = u := by simpa using hu
      subst hu'
      have hj : j < len := by have := (List.getElem?_eq_some_iff.1 hq).1; simp at this; omega
      have hz' : zs.getD j 0 = z := by rw [List.getElem?_take_of_lt hj] at hq; simp [List.getD, hq]
      rw [← hz']
      exact hat j (by omega)
theorem open_intSS {r : Reach} {b0 : Nat} {v : Value} {d : DataW H} {p : List MemPlace} (hv : Value.okWide Try.prog w r b0 40 v) (h : DataW.Trod enc Try.prog w base (fun _ => true) true 40 v d p) :
    ∃ (A : Option Addr) (n c : Nat) (xss : List (List Int)), v = .slice A n c ∧ ReadsSS w A n xss ∧ n ≤ 9223372036854775807 ∧ ∀ xs ∈ xss, xs.length ≤ 9223372036854775807 := by
  obtain ⟨a0, len, cap, rfl⟩ := okWide_slice Try.underlying40 hv
  obtain ⟨fuel, hf⟩ := h
  rcases open_slice Try.underlying40 hf with ⟨hcs, hx⟩ | ⟨a, len', cap', m, n, D, Pl, hcs, _, hl, hm, hmm, hx, hi⟩
  · simp only [Value.cells] at hcs
    have e1 : (Value.slice a0 len cap) = .slice none 0 0 := by simpa using hcs
    injection e1 with e1 e2 e3
    subst e1 e2 e3
    exact ⟨none, 0, 0, [], rfl, ⟨[], Reads.none_, rfl, fun i r xs h => by simp at h⟩, by omega, by simp⟩
  · have e1 : (Value.slice a0 len cap) = .slice (some a) len' cap' := by simpa [Value.cells] using hcs
    injection e1 with e1 e2 e3
    subst e1 e2 e3
    simp only [if_true] at hmm
    have hall : ∀ i, i < len → ∃ s : Sl × List Int, w.cell? (a.add i) = some s.1.v ∧ Reads w 1 s.1.A s.1.n (ints s.2) ∧ s.1.n ≤ 9223372036854775807 := by
      intro i hil
      obtain ⟨cs', hc, ht'⟩ := hi i (by omega)
      rw [cells_is] at hc
      obtain ⟨s, hs, hr, hn⟩ := open_intS0 ht'
      obtain ⟨_, hcl, hat⟩ := World.cells?_some hc
      have := hat 0 (by omega)
      rw [hs] at this
      refine ⟨s, ?_, hr, hn⟩
      simpa [Addr.add] using this
    obtain ⟨l, hll, hq⟩ := choice_list hall
    refine ⟨some a, len, cap, l.map (·.2), rfl, ⟨l.map (·.1), ⟨by simp [hll], fun hn => ?_⟩, by simp, fun i r xs hr hxs => ?_⟩, by unfold maxLen at hm; omega, fun xs hxs => ?_⟩
    · obtain ⟨s, h0, _⟩ := hall 0 hn
      obtain ⟨b, o, rfl, _⟩ := addr_plain h0 ⟨_, h0⟩
      refine ⟨b, o, rfl, World.block_lt_of_cell? _ _ h0, fun j u hu => ?_⟩
      rw [List.getElem?_map, List.getElem?_map] at hu
      cases hlj : l[j]? with
      | none => rw [hlj] at hu; simp at hu
      | some s' =>
        rw [hlj] at hu
        have hu' : s'.1.v = u := by simpa using hu
        subst hu'
        have h3 := (hq j s' hlj).1
        rw [Go.WideShapes.add_plain] at h3
        exact h3
    · rw [List.getElem?_map] at hr hxs
      cases hlj : l[i]? with
      | none => rw [hlj] at hr; simp at hr
      | some s' =>
        rw [hlj] at hr hxs
        simp at hr hxs
        subst hr hxs
        exact (hq i s' hlj).2.1
    · obtain ⟨s', hs', rfl⟩ := List.mem_map.1 hxs
      obtain ⟨i, hi'⟩ := List.getElem?_of_mem hs'
      have h3 := hq i s' hi'
      rw [h3.2.1.len]
      exact h3.2.2
end

theorem toIntSS_info : (Try.prog.info? 34).map (fun i => (i.zero, i.size, i.bytes)) = some (some (.slice none 0 0), 1, 24) := by kernel_rfl
end Go.Proofs.Ytkpgfmkmbgapmaa
