/- Slices of slices of integers: the argument opened, its size counted, its copy made; lengths at most 2^20 in all. -/
import Derived.Test.YtcdachkaalkjlaaSS
import Derived.Test.YtcdachkaalkjlaaOpenI
namespace Go.Proofs.Ytcdachkaalkjlaa
open Go.ChangeShapes Go.WideShapes Go.ChangeAt Go.RowKit Go.Deep Go.Joins
set_option maxRecDepth 100000

theorem cells_is : Try.prog.cellsOf 22 = 1 := by kernel_rfl
section
variable {H : Type} {enc : TypeId × Value → H} {w : World} {base : Nat}
theorem open_intS0 {fuel : Nat} {cs : List Value} {x : DataW H × List MemPlace} (hf : DataW.trod enc Try.prog w base (fun _ => true) true fuel 22 cs = some x) :
    ∃ s : Sl × List Int, cs = [s.1.v] ∧ Reads w 1 s.1.A s.1.n (ints s.2) ∧ s.1.n ≤ 9223372036854775807 := by
  rcases open_ints Try.underlying22 Try.underlying3 cells_i hf with ⟨hcs, hx⟩ | ⟨a, len, cap, zs, hcs, _, hl, hm, hz, hx, hcell, hwz⟩
  · exact ⟨⟨⟨none, 0, 0⟩, []⟩, hcs, Reads.none_, by simp⟩
  · simp only [if_true] at hz
    refine ⟨⟨⟨some a, len, cap⟩, zs.take len⟩, hcs, ⟨by simp [ints, hz]; omega, fun hn => ?_⟩, by show len ≤ _; unfold maxLen at hm; omega⟩
    have hn : 0 < len := hn
    obtain ⟨b, o, rfl, hat⟩ := ints_at hcell (by omega)
    refine ⟨b, o, rfl, World.block_lt_of_cell? _ _ (hat 0 (by omega)), fun j u hu => ?_⟩
    rw [ints_get] at hu
    cases hq : (zs.take len)[j]? with
    | none => rw [hq] at hu; cases hu
    | some z =>
      rw [hq] at hu
      have hu' : Value.int .i64 z = u := by simpa using hu
      subst hu'
      have hj : j < len := by have := (List.getElem?_eq_some_iff.1 hq).1; simp at this; omega
      have hz' : zs.getD j 0 = z := by rw [List.getElem?_take_of_lt hj] at hq; simp [List.getD, hq]
      rw [← hz']
      exact hat j (by omega)
theorem open_intSS {r : Reach} {b0 : Nat} {v : Value} {d : DataW H} {p : List MemPlace} (hv : Value.okWide Try.prog w r b0 31 v) (h : DataW.Trod enc Try.prog w base (fun _ => true) true 31 v d p) :
    ∃ (A : Option Addr) (n c : Nat) (xss : List (List Int)), v = .slice A n c ∧ ReadsSS w A n xss ∧ n ≤ 9223372036854775807 ∧ ∀ xs ∈ xss, xs.length ≤ 9223372036854775807 := by
  obtain ⟨a0, len, cap, rfl⟩ := okWide_slice Try.underlying31 hv
  obtain ⟨fuel, hf⟩ := h
  rcases open_slice Try.underlying31 hf with ⟨hcs, hx⟩ | ⟨a, len', cap', m, n, D, Pl, hcs, _, hl, hm, hmm, hx, hi⟩
  · simp only [Value.cells] at hcs
    have e1 : (Value.slice a0 len cap) = .slice none 0 0 := by simpa using hcs
    injection e1 with e1 e2 e3
    subst e1 e2 e3
    exact ⟨none, 0, 0, [], rfl, ⟨[], Reads.none_, rfl, fun i r xs h => by simp at h⟩, by omega, by simp⟩
  · have e1 : (Value.slice a0 len cap) = .slice (some a) len' cap' := by simpa [Value.cells] using hcs
    injection e1 with e1 e2 e3
    subst e1 e2 e3
    simp only [if_true] at hmm
    have hall : ∀ i, i < len → ∃ s : Sl × List Int, w.cell? (a.add i) = some s.1.v ∧ Reads w 1 s.1.A s.1.n (ints s.2) ∧ s.1.n ≤ 9223372036854775807 := by
      intro i hil
      obtain ⟨cs', hc, ht'⟩ := hi i (by omega)
      rw [cells_is] at hc
      obtain ⟨s, hs, hr, hn⟩ := open_intS0 ht'
      obtain ⟨_, hcl, hat⟩ := World.cells?_some hc
      have := hat 0 (by omega)
      rw [hs] at this
      refine ⟨s, ?_, hr, hn⟩
      simpa [Addr.add] using this
    obtain ⟨l, hll, hq⟩ := choice_list hall
    refine ⟨some a, len, cap, l.map (·.2), rfl, ⟨l.map (·.1), ⟨by simp [hll], fun hn => ?_⟩, by simp, fun i r xs hr hxs => ?_⟩, by unfold maxLen at hm; omega, fun xs hxs => ?_⟩
    · obtain ⟨s, h0, _⟩ := hall 0 hn
      obtain ⟨b, o, rfl, _⟩ := addr_plain h0 ⟨_, h0⟩
      refine ⟨b, o, rfl, World.block_lt_of_cell? _ _ h0, fun j u hu => ?_⟩
      rw [List.getElem?_map, List.getElem?_map] at hu
      cases hlj : l[j]? with
      | none => rw [hlj] at hu; simp at hu
      | some s' =>
        rw [hlj] at hu
        have hu' : s'.1.v = u := by simpa using hu
        subst hu'
        have h3 := (hq j s' hlj).1
        rw [Go.WideShapes.add_plain] at h3
        exact h3
    · rw [List.getElem?_map] at hr hxs
      cases hlj : l[i]? with
      | none => rw [hlj] at hr; simp at hr
      | some s' =>
        rw [hlj] at hr hxs
        simp at hr hxs
        subst hr hxs
        exact (hq i s' hlj).2.1
    · obtain ⟨s', hs', rfl⟩ := List.mem_map.1 hxs
      obtain ⟨i, hi'⟩ := List.getElem?_of_mem hs'
      have h3 := hq i s' hi'
      rw [h3.2.1.len]
      exact h3.2.2
end

set_option maxHeartbeats 1000000 in
theorem szIntSS_t {A : Option Addr} {n c : Nat} {xss : List (List Int)} {left : Int} {w : World} (hr : ReadsSS w A n xss) (h0 : left ≤ 1048576) (h : ((n + totSS xss : Nat) : Int) ≤ left) :
    Calls Try.prog 23 #[.slice A n c, .int .i64 left] w fun e w' => e = .returned (.int .i64 (left - ((n + totSS xss : Nat) : Int))) ∧ w = w' := by
  go_enter Try.func23, Try.ntmps23
  go_wp2
  go_loop [1, 5] (fun q i => ∃ k : Nat, k ≤ n ∧ i = .int .i64 k ∧ q = .int .i64 (left - ((n + totSS (xss.take k) : Nat) : Int))) (fun _ i => n - (intOf i).toNat)
  case atStart => exact ⟨0, Nat.zero_le _, rfl, by simp [totSS]⟩
  case round =>
    obtain ⟨k, hk, rfl, rfl⟩ := hrel
    by_cases hlt : k < n
    · obtain ⟨b, o, r, xs, rfl, hbB, hx, c0, hr0, hr1⟩ := hr.row hlt
      have hle := totSS_row hx
      have HE := Lib.hid (totSS_take hx)
      clear hx hr0
      obtain ⟨T, hT⟩ : ∃ T, T = totSS (xss.take k) := ⟨_, rfl⟩
      rw [← hT] at hle
      have HT := Lib.hid hT
      rw [← hT]
      clear hT
      go_wp2_with (go_at_call 48; refine (szIntS_t _ _ _ _ _ (by omega) (by omega)).mono ?_; rintro e w' ⟨rfl, rfl⟩)
      go_round
      case rel => exact ⟨k + 1, by omega, by go_num, by rw [HE.out, ← HT.out]; go_num⟩
      case measure => simp [intOf]; omega
    · obtain rfl : k = n := by omega
      have e : totSS (xss.take k) = totSS xss := by rw [List.take_of_length_le (by have := hr.len; omega)]
      rw [e]
      clear e
      go_wp2
      go_ret
      exact ⟨rfl, rfl⟩

set_option maxHeartbeats 1000000 in
theorem szIntSS_f {A : Option Addr} {n c : Nat} {xss : List (List Int)} {left : Int} {w : World} (hr : ReadsSS w A n xss) (hm : n ≤ 9223372036854775807) (hl : ∀ xs ∈ xss, xs.length ≤ 9223372036854775807) (h0 : left ≤ 1048576) (h1 : 0 ≤ left) (h : left < ((n + totSS xss : Nat) : Int)) :
    Calls Try.prog 23 #[.slice A n c, .int .i64 left] w fun e w' => e = .returned (.int .i64 (-1)) ∧ w = w' := by
  by_cases hn : left < n
  · go_enter Try.func23, Try.ntmps23
    go_wp2
    go_ret
    exact ⟨rfl, rfl⟩
  go_enter Try.func23, Try.ntmps23
  go_wp2
  go_loop [1, 5] (fun q i => ∃ k : Nat, k ≤ n ∧ i = .int .i64 k ∧ q = .int .i64 (left - ((n + totSS (xss.take k) : Nat) : Int)) ∧ ((n + totSS (xss.take k) : Nat) : Int) ≤ left) (fun _ i => n - (intOf i).toNat)
  case atStart => exact ⟨0, Nat.zero_le _, rfl, by simp [totSS], by simp [totSS]; omega⟩
  case round =>
    obtain ⟨k, hk, rfl, rfl, hinv⟩ := hrel
    by_cases hlt : k < n
    · obtain ⟨b, o, r, xs, rfl, hbB, hx, c0, hr0, hr1⟩ := hr.row hlt
      have HE := Lib.hid (totSS_take hx)
      have hlx := hl xs (List.mem_of_getElem? hx)
      clear hx hr0
      obtain ⟨T, hT⟩ : ∃ T, T = totSS (xss.take k) := ⟨_, rfl⟩
      rw [← hT] at hinv
      have HT := Lib.hid hT
      rw [← hT]
      clear hT
      by_cases hc : (r.n : Int) ≤ left - ((n + T : Nat) : Int)
      · go_wp2_with (go_at_call 48; refine (szIntS_t _ _ _ _ _ (by omega) (by omega)).mono ?_; rintro e w' ⟨rfl, rfl⟩)
        go_round
        case rel => exact ⟨k + 1, by omega, by go_num, by rw [HE.out, ← HT.out]; go_num, by rw [HE.out, ← HT.out]; omega⟩
        case measure => simp [intOf]; omega
      · go_wp2_with (go_at_call 48; refine (szIntS_f _ _ _ _ _ (by omega) (by omega) (by omega) (by omega)).mono ?_; rintro e w' ⟨rfl, rfl⟩)
        go_ret
        exact ⟨rfl, rfl⟩
    · obtain rfl : k = n := by omega
      have e : totSS (xss.take k) = totSS xss := by rw [List.take_of_length_le (by have := hr.len; omega)]
      rw [e] at hinv
      omega

theorem toIntSS_info : (Try.prog.info? 22).map (fun i => (i.zero, i.size, i.bytes)) = some (some (.slice none 0 0), 1, 24) := by kernel_rfl

set_option maxHeartbeats 4000000 in
theorem toIntSS_any {A : Option Addr} {n c : Nat} {xss : List (List Int)} {w : World} (hr : ReadsSS w A n xss) (hn : n + totSS xss ≤ 1048576) :
    Calls Try.prog 26 #[.slice A n c] w fun e w' => ∃ g, e = .returned (.slice (some ⟨g, 0, none⟩) n n) ∧ OwnsSS w' w.heap.size w'.heap.size (some ⟨g, 0, none⟩) n n xss ∧ Below w.heap.size w w' := by
  obtain ⟨i0, hi, hz0, hz1, hz2⟩ := info_parts toIntSS_info
  have hmk := fun W => run_make_rowN (P := Try.prog) 31 22 i0 _ Try.underlying31 hi hz0 .i64 .i64 n n (Nat.le_refl _) (by rw [hz2]; omega) (by omega) W
  rw [hz1] at hmk
  clear hi hz0 hz1 hz2
  go_enter Try.func26, Try.ntmps26
  go_wp2
  clear hmk
  go_loopw [4] (fun i wr => ∃ (k : Nat) (rs : List Sl) (rest : List Value), k ≤ n ∧ i = .int .i64 k ∧ rs.length = k ∧ rest.length = n - k ∧ Row wr w.heap.size 22 (rs.map Sl.v ++ rest) ∧
    (∀ (i : Nat) (r : Sl) (xs : List Int), rs[i]? = some r → xss[i]? = some xs → wr.ownsRow (w.heap.size + 1) 3 1 (.slice r.A r.n r.c) r.n (ints xs) ∧ Blk r.A (w.heap.size + 1) wr.heap.size) ∧ Apart rs ∧ Below w.heap.size w wr) (fun i _ => n - (intOf i).toNat)
  case atStart => exact ⟨0, [], _, by omega, rfl, rfl, by rw [made_length]; simp, Row.made _ _ _ _, fun i r xs h => by simp at h, fun i j r s _ h => by simp at h, by go_grown⟩
  case round =>
    obtain ⟨k, rs, rest, hk, rfl, hrs, hrest, hrow, hin, hap, hbel⟩ := hrel
    by_cases hlt : k < n
    · obtain ⟨b, o, r, xs, rfl, hbB, hx, c0, hr0, hr1⟩ := (hr.below hbel).row hlt
      obtain ⟨r0, rest, rfl⟩ : ∃ r0 r, rest = r0 :: r := by
        match rest, hrest with
        | r0 :: r, _ => exact ⟨r0, r, rfl⟩
        | [], h => simp at h; omega
      have hsz := totSS_row hx
      have hrn : r.n ≤ 1048576 := by omega
      have hlw := hrow.lt
      have HX := Lib.hid hx
      clear hx hsz hr1
      have HL : Hid (rest.length = n - (k + 1)) := Lib.hid (by simp at hrest; omega)
      have HIN := Lib.hid hin
      have HAP := Lib.hid hap
      have HRS := Lib.hid hrs
      clear hrest hin hap hrs
      go_wp2_with fail
      refine (toIntS_any _ _ _ _ _ hr0 (by omega)).mono ?_
      rintro e w2 ⟨g, rfl, ho, hb2⟩
      have hrow2 := hrow.below hb2
      have hbk := own_blk ho
      have hsz2 := hb2.size
      have hm : k = (rs.map Sl.v).length := by simp [HRS.out]
      have d0 : w2.cell? ⟨w.heap.size, k, none⟩ = some r0 := hrow2.cell_ (by rw [List.getElem?_append_right (by omega), ← hm]; simp)
      have f0 := hrow2.frozen k
      obtain ⟨s, hs⟩ : ∃ s : Sl, s = ⟨some ⟨g, 0, none⟩, r.n, r.n⟩ := ⟨_, rfl⟩
      have hset := hrow2.set k (.slice (some ⟨g, 0, none⟩) r.n r.n)
      rw [set_append_cons _ _ _ _ hm] at hset
      have HR : Hid (Row (w2.setCell ⟨w.heap.size, k, none⟩ (.slice (some ⟨g, 0, none⟩) r.n r.n)) w.heap.size 22 ((rs ++ [s]).map Sl.v ++ rest)) := Lib.hid (by rw [hs]; simpa [Sl.v] using hset)
      have HG : w2.grownBy (w2.setCell ⟨w.heap.size, k, none⟩ (.slice (some ⟨g, 0, none⟩) r.n r.n)) (some w.heap.size) := grown_setCell (World.grownBy.refl _ _) (.inl rfl) _
      have HN : Hid (∀ (i : Nat) (r' : Sl) (xs' : List Int), (rs ++ [s])[i]? = some r' → xss[i]? = some xs' → (w2.setCell ⟨w.heap.size, k, none⟩ (.slice (some ⟨g, 0, none⟩) r.n r.n)).ownsRow (w.heap.size + 1) 3 1 (.slice r'.A r'.n r'.c) r'.n (ints xs') ∧ Blk r'.A (w.heap.size + 1) w2.heap.size) := Lib.hid (by
        intro i r' xs' h1 h2
        rcases Nat.lt_or_ge i rs.length with hi | hi
        · rw [List.getElem?_append_left hi] at h1
          obtain ⟨o1, k1⟩ := HIN.out i r' xs' h1 h2
          have k2 : Blk r'.A (w.heap.size + 1) w2.heap.size := fun a e => ⟨(k1 a e).1, Nat.lt_of_lt_of_le (k1 a e).2 hsz2⟩
          exact ⟨own_grown_lo (own_below o1 hb2) k2 HG (fun b hb => by cases hb; omega), k2⟩
        · rw [List.getElem?_append_right hi] at h1
          have hi0 : i - rs.length = 0 := by have := (List.getElem?_eq_some_iff.1 h1).1; simp at this; omega
          rw [hi0] at h1
          simp at h1
          have hik : i = k := by have := HRS.out; omega
          subst hik
          have h3 := HX.out
          rw [h3] at h2
          obtain rfl := Option.some.inj h2
          subst h1
          rw [hs]
          have k2 : Blk (some ⟨g, 0, none⟩) (w.heap.size + 1) w2.heap.size := fun a e => ⟨by have := (hbk a e).1; omega, (hbk a e).2⟩
          exact ⟨own_grown_lo (ownsRow_le ho (by omega)) k2 HG (fun b hb => by cases hb; omega), k2⟩)
      have HA : Hid (Apart (rs ++ [s])) := Lib.hid (by
        intro i j r' s' hij h1 h2 a b ha hb
        rcases Nat.lt_or_ge j rs.length with hj | hj
        · rw [List.getElem?_append_left (by omega)] at h1
          rw [List.getElem?_append_left hj] at h2
          exact HAP.out i j r' s' hij h1 h2 a b ha hb
        · rw [List.getElem?_append_right hj] at h2
          have hj0 : j - rs.length = 0 := by have := (List.getElem?_eq_some_iff.1 h2).1; simp at this; omega
          rw [hj0] at h2
          simp at h2
          rw [List.getElem?_append_left (by omega)] at h1
          subst h2
          rw [hs] at hb
          have hxi : xss[i]? = some (xss[i]'(by have := hr.len; have := HRS.out; omega)) := List.getElem?_eq_getElem _
          have h4 := ((HIN.out i r' _ h1 hxi).2 a ha).2
          have h5 := (hbk b hb).1
          omega)
      have HB : Below w.heap.size w (w2.setCell ⟨w.heap.size, k, none⟩ (.slice (some ⟨g, 0, none⟩) r.n r.n)) := (hbel.trans (hb2.mono hbel.size)).setCell (Nat.le_refl _) _
      have HK : Hid ((rs ++ [s]).length = k + 1) := Lib.hid (by simp [HRS.out])
      clear hrow hrow2 hset hm hs HIN HAP HRS HX ho hb2 hbk HG hbel hr0
      go_wp2
      go_roundw
      case rel => exact ⟨k + 1, rs ++ [s], rest, by omega, by go_num, HK.out, HL.out, HR.out, fun i r' xs' h1 h2 => by have := HN.out i r' xs' h1 h2; exact ⟨this.1, by simpa using this.2⟩, HA.out, HB⟩
      case measure => simp [intOf]; omega
    · go_wp2
      go_ret
      obtain rfl : k = n := by omega
      have hl := hr.len
      have hr0 : rest = [] := List.eq_nil_of_length_eq_zero (by omega)
      subst hr0
      rw [List.append_nil] at hrow
      have hlw := hrow.lt
      refine ⟨_, rfl, ⟨rs, hrow.own (Nat.le_refl _) (Nat.le_refl _) (by unfold maxLen; omega) (by simp [hrs]) (List.take_of_length_le (by simp [hrs])), fun a e => by cases e; exact ⟨Nat.le_refl _, hlw⟩, by omega, fun i r xs h1 h2 => ?_, hap, Nat.le_refl _⟩, hbel⟩
      obtain ⟨o1, k1⟩ := hin i r xs h1 h2
      exact ⟨ownsRow_le o1 (by omega), fun a e => ⟨by have := (k1 a e).1; omega, (k1 a e).2⟩⟩
end Go.Proofs.Ytcdachkaalkjlaa
