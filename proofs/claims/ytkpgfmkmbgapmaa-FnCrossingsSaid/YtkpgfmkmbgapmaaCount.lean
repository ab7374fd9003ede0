/- Contracts of CountFront of both sides, and the sum over all puppets; no condition beyond the slice's length. -/
import Derived.Test.YtkpgfmkmbgapmaaPairsI
import Derived.Test.YtkpgfmkmbgapmaaCrossLaw
namespace Go.Proofs.Ytkpgfmkmbgapmaa
open Go.ChangeShapes Go.WideShapes Go.ChangeAt Go.RowKit Go.Deep Go.Joins
set_option maxRecDepth 100000

def cntTo (p : Int) (xss : List (List Int)) (k : Nat) : Nat := (xss.take k).countP fun xs => decide (xs.head? = some p)
theorem cntTo_step {p y : Int} {ys : List Int} {xss : List (List Int)} {k : Nat} (hx : xss[k]? = some (y :: ys)) : cntTo p xss (k + 1) = cntTo p xss k + if y = p then 1 else 0 := by
  unfold cntTo
  rw [take_snoc hx, List.countP_append]
  simp [List.countP_cons]
theorem cntTo_le (p : Int) (xss : List (List Int)) (k : Nat) : cntTo p xss k ≤ k := by
  have := List.countP_le_length (p := fun xs : List Int => decide (xs.head? = some p)) (l := xss.take k)
  have h2 := List.length_take_le k xss
  unfold cntTo
  omega
def frontOf (n : Int) (ls : List Cr) (p : Int) : Int := if crossesOk n ls then (if 0 ≤ p ∧ p ≤ n - 1 then (cntTo p (pairsOf n ls) (pairsOf n ls).length : Int) else -1) else -1
theorem frontOf_no {n p : Int} {ls : List Cr} (h : crossesOk n ls = false) : frontOf n ls p = -1 := by simp [frontOf, h]
theorem frontOf_out {n p : Int} {ls : List Cr} (h2 : p < 0 ∨ n - 1 < p) : frontOf n ls p = -1 := by
  unfold frontOf
  split
  · rw [if_neg (by omega)]
  · rfl
theorem frontOf_in {n p : Int} {ls : List Cr} (h : crossesOk n ls = true) (h0 : 0 ≤ p) (h1 : p ≤ n - 1) : frontOf n ls p = (cntTo p (pairsOf n ls) (pairsOf n ls).length : Int) := by
  simp [frontOf, h, h0, h1]

set_option maxHeartbeats 4000000 in
theorem impl_CountFront {n p : Int} {A : Option Addr} {m c : Nat} {ls : List Cr} {w : World} (hr : Reads w 2 A m (crs ls)) (hm : m ≤ 1048576) :
    Calls Try.prog 30 #[.int .i64 n, .slice A m c, .int .i64 p] w fun e w' => e = .returned (.int .i64 (frontOf n ls p)) ∧ Below w.heap.size w w' := by
  cases hb : crossesOk n ls with
  | false =>
    have E := Lib.hid hb
    have S := Lib.hid (frontOf_no (p := p) hb)
    clear hb
    go_enter Try.func30, Try.ntmps30
    go_wp2_with fail
    refine (impl_CrossesOk hr hm).mono ?_
    rintro e w1 ⟨rfl, hb1⟩
    rw [E.out]
    go_wp2
    go_ret
    exact ⟨ret_int S.out.symm, hb1⟩
  | true =>
    have hf := crossFacts hb
    have h1 := hf.n1
    have h7 := hf.n7
    have E := Lib.hid hb
    clear hb hf
    by_cases hp : p < 0 ∨ n - 1 < p
    · have S := Lib.hid (frontOf_out (ls := ls) hp)
      go_enter Try.func30, Try.ntmps30
      go_wp2_with fail
      refine (impl_CrossesOk hr hm).mono ?_
      rintro e w1 ⟨rfl, hb1⟩
      rw [E.out]
      go_wp2_with fail
      refine (within_f _ _ _ _ hp).mono ?_
      rintro e w' ⟨rfl, rfl⟩
      go_wp2
      go_ret
      exact ⟨ret_int S.out.symm, hb1⟩
    obtain ⟨p0, p1⟩ : 0 ≤ p ∧ p ≤ n - 1 := by omega
    clear hp
    obtain ⟨N, rfl⟩ := Int.eq_ofNat_of_zero_le (show 0 ≤ n by omega)
    have S := Lib.hid (frontOf_in E.out p0 p1)
    have PA : Hid (∀ k, k < ls.length → ∃ a b : Int, (pairsOf (N : Int) ls)[k]? = some [a, b] ∧ a ≠ b ∧ 0 ≤ a ∧ a < N ∧ 0 ≤ b ∧ b < N) := Lib.hid fun k hk => pairs_at E.out hk
    have HPL := Lib.hid (ca_pairs_len E.out)
    go_enter Try.func30, Try.ntmps30
    go_wp2_with fail
    refine (impl_CrossesOk hr hm).mono ?_
    rintro e w1 ⟨rfl, hb1⟩
    rw [E.out]
    go_wp2_with fail
    refine (within_t _ _ _ _ p0 p1).mono ?_
    rintro e w' ⟨rfl, rfl⟩
    go_wp2_with fail
    refine (impl_PairsOf (hr.below hb1) hm).mono ?_
    rintro e w2 ⟨A2, n2, c2, rfl, ho2, ht2, hb2⟩
    have hB2 := hb1.trans (hb2.mono hb1.size)
    have rd := ho2.reads
    have hln := rd.len
    rw [hln] at S HPL
    have hn2 : n2 ≤ 1048576 := by omega
    generalize pairsOf (N : Int) ls = xss at *
    clear ho2 hb2 hb1 hln ht2
    go_wp2
    go_loop [7, 25] (fun ov iv => ∃ k : Nat, k ≤ n2 ∧ iv = .int .i64 k ∧ ov = .int .i64 (cntTo p xss k : Int)) (fun _ iv => n2 - (intOf iv).toNat)
    case atStart => exact ⟨0, by omega, rfl, by simp [cntTo]⟩
    case round =>
      obtain ⟨k, hk, rfl, rfl⟩ := hrel
      by_cases hlt : k < n2
      · obtain ⟨b, o, r, xs, rfl, hbB, hx, c0, hr0, hr1⟩ := rd.row hlt
        obtain ⟨a, z, hx2, _⟩ := PA.out k (by have := HPL.out; omega)
        obtain rfl : xs = [a, z] := by rw [hx] at hx2; exact Option.some.inj hx2
        obtain ⟨b', o', a', hA', hbB', ha', d0⟩ := hr0.int (k := 0) (by simp at hr1; omega)
        obtain rfl : a = a' := by simpa using ha'
        have HST := Lib.hid (cntTo_step (p := p) hx)
        have hle := cntTo_le p xss k
        have hr2 : 0 < r.n := by simp at hr1; omega
        obtain ⟨rA, rn, rc⟩ := r
        simp only at hA' hr0 hr1 c0 hr2
        subst hA'
        have lr : (0 : Int) < (rn : Int) := by omega
        rw [Nat.add_zero] at d0
        clear hx hx2 ha' hr0 hr1
        by_cases hap : a = p
        · have e1 : (a == p) = true := by simp [hap]
          rw [if_pos hap] at HST
          clear hap
          go_wp2
          go_round
          case rel => exact ⟨k + 1, by omega, by go_num, by rw [HST.out]; go_num⟩
          case measure => simp [intOf]; omega
        · have e1 : (a == p) = false := by simp [hap]
          rw [if_neg hap] at HST
          clear hap
          go_wp2
          go_round
          case rel => exact ⟨k + 1, by omega, by go_num, by rw [HST.out]; go_num⟩
          case measure => simp [intOf]; omega
      · obtain rfl : k = n2 := by omega
        go_wp2
        go_ret
        exact ⟨ret_int S.out.symm, hB2⟩

set_option maxHeartbeats 4000000 in
theorem spec_CountFront {n p : Int} {A : Option Addr} {m c : Nat} {ls : List Cr} {w : World} (hr : Reads w 2 A m (crs ls)) (hm : m ≤ 1048576) :
    Calls Try.prog 29 #[.int .i64 n, .slice A m c, .int .i64 p] w fun e w' => e = .returned (.int .i64 (frontOf n ls p)) ∧ Below w.heap.size w w' := by
  cases hb : crossesOk n ls with
  | false =>
    have E := Lib.hid hb
    have S := Lib.hid (frontOf_no (p := p) hb)
    clear hb
    go_enter Try.func29, Try.ntmps29
    go_wp2_with fail
    refine (spec_CrossesOk hr hm).mono ?_
    rintro e w1 ⟨rfl, hb1⟩
    rw [E.out]
    go_wp2
    go_ret
    exact ⟨ret_int S.out.symm, hb1⟩
  | true =>
    have hf := crossFacts hb
    have h1 := hf.n1
    have h7 := hf.n7
    have E := Lib.hid hb
    clear hb hf
    by_cases hp : p < 0 ∨ n - 1 < p
    · have S := Lib.hid (frontOf_out (ls := ls) hp)
      go_enter Try.func29, Try.ntmps29
      go_wp2_with fail
      refine (spec_CrossesOk hr hm).mono ?_
      rintro e w1 ⟨rfl, hb1⟩
      rw [E.out]
      go_wp2_with fail
      refine (l01In_f _ _ _ _ hp).mono ?_
      rintro e w' ⟨rfl, rfl⟩
      go_wp2
      go_ret
      exact ⟨ret_int S.out.symm, hb1⟩
    obtain ⟨p0, p1⟩ : 0 ≤ p ∧ p ≤ n - 1 := by omega
    clear hp
    obtain ⟨N, rfl⟩ := Int.eq_ofNat_of_zero_le (show 0 ≤ n by omega)
    have S := Lib.hid (frontOf_in E.out p0 p1)
    have PA : Hid (∀ k, k < ls.length → ∃ a b : Int, (pairsOf (N : Int) ls)[k]? = some [a, b] ∧ a ≠ b ∧ 0 ≤ a ∧ a < N ∧ 0 ≤ b ∧ b < N) := Lib.hid fun k hk => pairs_at E.out hk
    have HPL := Lib.hid (ca_pairs_len E.out)
    go_enter Try.func29, Try.ntmps29
    go_wp2_with fail
    refine (spec_CrossesOk hr hm).mono ?_
    rintro e w1 ⟨rfl, hb1⟩
    rw [E.out]
    go_wp2_with fail
    refine (l01In_t _ _ _ _ p0 p1).mono ?_
    rintro e w' ⟨rfl, rfl⟩
    go_wp2_with fail
    refine (spec_PairsOf (hr.below hb1) hm).mono ?_
    rintro e w2 ⟨A2, n2, c2, rfl, ho2, ht2, hb2⟩
    have hB2 := hb1.trans (hb2.mono hb1.size)
    have rd := ho2.reads
    have hln := rd.len
    rw [hln] at S HPL
    have hn2 : n2 ≤ 1048576 := by omega
    generalize pairsOf (N : Int) ls = xss at *
    clear ho2 hb2 hb1 hln ht2
    go_wp2
    go_loop [7, 9] (fun ov iv => ∃ k : Nat, k ≤ n2 ∧ iv = .int .i64 k ∧ ov = .int .i64 (cntTo p xss k : Int)) (fun _ iv => n2 - (intOf iv).toNat)
    case atStart => exact ⟨0, by omega, rfl, by simp [cntTo]⟩
    case round =>
      obtain ⟨k, hk, rfl, rfl⟩ := hrel
      by_cases hlt : k < n2
      · obtain ⟨b, o, r, xs, rfl, hbB, hx, c0, hr0, hr1⟩ := rd.row hlt
        obtain ⟨a, z, hx2, _⟩ := PA.out k (by have := HPL.out; omega)
        obtain rfl : xs = [a, z] := by rw [hx] at hx2; exact Option.some.inj hx2
        obtain ⟨b', o', a', hA', hbB', ha', d0⟩ := hr0.int (k := 0) (by simp at hr1; omega)
        obtain rfl : a = a' := by simpa using ha'
        have HST := Lib.hid (cntTo_step (p := p) hx)
        have hle := cntTo_le p xss k
        have hr2 : 0 < r.n := by simp at hr1; omega
        obtain ⟨rA, rn, rc⟩ := r
        simp only at hA' hr0 hr1 c0 hr2
        subst hA'
        have lr : (0 : Int) < (rn : Int) := by omega
        rw [Nat.add_zero] at d0
        clear hx hx2 ha' hr0 hr1
        by_cases hap : a = p
        · have e1 : (a == p) = true := by simp [hap]
          rw [if_pos hap] at HST
          clear hap
          go_wp2
          go_round
          case rel => exact ⟨k + 1, by omega, by go_num, by rw [HST.out]; go_num⟩
          case measure => simp [intOf]; omega
        · have e1 : (a == p) = false := by simp [hap]
          rw [if_neg hap] at HST
          clear hap
          go_wp2
          go_round
          case rel => exact ⟨k + 1, by omega, by go_num, by rw [HST.out]; go_num⟩
          case measure => simp [intOf]; omega
      · obtain rfl : k = n2 := by omega
        go_wp2
        go_ret
        exact ⟨ret_int S.out.symm, hB2⟩

/-! ### The sum over all puppets -/
def sumN (f : Nat → Nat) : Nat → Nat
  | 0 => 0
  | k + 1 => sumN f k + f k
theorem sumN_add (f g : Nat → Nat) (n : Nat) : sumN (fun k => f k + g k) n = sumN f n + sumN g n := by
  induction n with
  | zero => rfl
  | succ n ih => simp only [sumN, ih]; omega
theorem sumN_one (a : Nat) : ∀ n, sumN (fun k => if a = k then 1 else 0) n = if a < n then 1 else 0 := by
  intro n
  induction n with
  | zero => simp [sumN]
  | succ n ih =>
    rw [sumN, ih]
    by_cases h1 : a < n
    · rw [if_pos h1, if_neg (by omega), if_pos (by omega)]
    · rw [if_neg h1]
      by_cases h2 : a = n
      · rw [if_pos h2, if_pos (by omega)]
      · rw [if_neg h2, if_neg (by omega)]
theorem cnt_sum {N : Nat} : ∀ xss : List (List Int), (∀ xs ∈ xss, ∃ (a : Nat) (ys : List Int), xs = (a : Int) :: ys ∧ a < N) → sumN (fun k => xss.countP fun xs => decide (xs.head? = some (k : Int))) N = xss.length := by
  intro xss
  induction xss with
  | nil =>
    intro _
    have : ∀ n, sumN (fun _ => 0) n = 0 := by
      intro n
      induction n with
      | zero => rfl
      | succ n ih => rw [sumN, ih]
    exact this N
  | cons xs xss ih =>
    intro h
    obtain ⟨a, ys, rfl, ha⟩ := h _ (List.mem_cons_self ..)
    have e : (fun k : Nat => ((((a : Int) :: ys) :: xss).countP fun xs => decide (xs.head? = some (k : Int)))) = fun k : Nat => (xss.countP fun xs => decide (xs.head? = some (k : Int))) + if a = k then 1 else 0 := by
      funext k
      rw [List.countP_cons]
      congr 1
      by_cases h : a = k
      · simp [h]
      · have : ¬ ((a : Int) = (k : Int)) := by omega
        simp [h, this]
    rw [e, sumN_add, ih (fun xs hx => h xs (List.mem_cons_of_mem _ hx)), sumN_one, if_pos ha, List.length_cons]
theorem front_sum {N : Nat} {ls : List Cr} (h : crossesOk (N : Int) ls = true) : sumN (fun k => cntTo (k : Int) (pairsOf N ls) (pairsOf N ls).length) N = ls.length := by
  have e := ca_pairs_len h
  have := cnt_sum (N := N) (pairsOf N ls) fun xs hx => by
    obtain ⟨k, hk⟩ := List.getElem?_of_mem hx
    have hl := (List.getElem?_eq_some_iff.1 hk).1
    obtain ⟨a, b, h1, _, a0, a1, _⟩ := pairs_at h (k := k) (by omega)
    rw [hk] at h1
    obtain ⟨x, rfl⟩ := Int.eq_ofNat_of_zero_le a0
    exact ⟨x, [b], Option.some.inj h1, by omega⟩
  rw [e] at this
  simpa [cntTo] using this
end Go.Proofs.Ytkpgfmkmbgapmaa
