/- Plain law of fields: the fields of a line, joined by single spaces, have the same fields; no program in sight. -/
import Derived.Test.YtjcfdkmlkhgfiaaDoorStrS
import Derived.Test.YtjcfdkmlkhgfiaaDoorSplitS
import Derived.Test.YtjcfdkmlkhgfiaaDoorDoorKit
namespace Go.Proofs.YtjcfdkmlkhgfiaaDoor
open Go.ChangeShapes Go.WideShapes Go.ChangeAt Go.RowKit Go.Deep Go.Joins
set_option maxRecDepth 100000

def J (ws : List ByteArray) : List UInt8 := ws.flatMap fun w => w.data.toList ++ [32]

theorem J_cons (w : ByteArray) (ws : List ByteArray) : J (w :: ws) = w.data.toList ++ 32 :: J ws := by simp [J]

theorem J_snoc {ws : List ByteArray} {k : Nat} {x : ByteArray} (h : ws[k]? = some x) : J (ws.take (k + 1)) = J (ws.take k) ++ x.data.toList ++ [32] := by
  rw [take_snoc h]; simp [J]

def Word (l : List UInt8) : Prop := l ≠ [] ∧ ∀ b ∈ l, b.toNat ≠ 32 ∧ badB b = false

theorem word_scan {L : List UInt8} {i : Nat} {acc : List (Nat × Nat)} (h : scan L i = (acc, none)) : ∀ m, 0 < m → (∀ t, t < m → ∃ b, L[i + t]? = some b ∧ b.toNat ≠ 32) → scan L (i + m) = (acc, some i) := by
  intro m
  induction m with
  | zero => intro h0; omega
  | succ m ih =>
    intro _ hw
    obtain ⟨b, hb, hne⟩ := hw m (by omega)
    rcases Nat.eq_zero_or_pos m with h0 | h0
    · subst h0
      exact scan_cn h hb hne
    · exact scan_cs (ih h0 fun t ht => hw t (by omega)) hb hne

def offs : Nat → List ByteArray → List (Nat × Nat)
  | _, [] => []
  | i, w :: ws => (i, i + w.data.toList.length) :: offs (i + w.data.toList.length + 1) ws

theorem offs_len : ∀ (ws : List ByteArray) (i : Nat), (offs i ws).length = ws.length := by
  intro ws
  induction ws with
  | nil => intro i; rfl
  | cons w ws ih => intro i; simp [offs, ih]

theorem scan_J : ∀ (ws : List ByteArray), (∀ w ∈ ws, Word w.data.toList) → ∀ (P : List UInt8) (acc : List (Nat × Nat)), scan (P ++ J ws) P.length = (acc, none) → scan (P ++ J ws) (P ++ J ws).length = (acc ++ offs P.length ws, none) := by
  intro ws
  induction ws with
  | nil => intro _ P acc h; simpa [J, offs] using h
  | cons w ws ih =>
    intro hw P acc h
    obtain ⟨hne, hall⟩ := hw w (List.mem_cons_self ..)
    have e : P ++ J (w :: ws) = (P ++ w.data.toList ++ [32]) ++ J ws := by rw [J_cons]; simp
    have hl : (P ++ w.data.toList ++ [32]).length = P.length + w.data.toList.length + 1 := by simp; omega
    have hpos : 0 < w.data.toList.length := List.length_pos_iff.2 hne
    have s1 : scan (P ++ J (w :: ws)) (P.length + w.data.toList.length) = (acc, some P.length) := by
      refine word_scan h _ hpos fun t ht => ?_
      have hx : w.data.toList[t]? = some (w.data.toList[t]'ht) := List.getElem?_eq_getElem ht
      refine ⟨w.data.toList[t]'ht, ?_, (hall _ (List.getElem_mem ht)).1⟩
      rw [J_cons, List.getElem?_append_right (by omega), Nat.add_sub_cancel_left, List.getElem?_append_left ht]
      exact hx
    have s2 : scan (P ++ J (w :: ws)) (P.length + w.data.toList.length + 1) = (acc ++ [(P.length, P.length + w.data.toList.length)], none) := by
      refine scan_ss s1 (b := 32) ?_ rfl
      rw [J_cons, List.getElem?_append_right (by omega), Nat.add_sub_cancel_left, List.getElem?_append_right (by omega), Nat.sub_self]
      rfl
    rw [e] at s2 ⊢
    rw [← hl] at s2
    have := ih (fun w hw' => hw w (List.mem_cons_of_mem _ hw')) _ _ s2
    rw [this, hl]
    simp [offs]

theorem ext_list (L : List UInt8) (a b : Nat) : (⟨L.toArray⟩ : ByteArray).extract a b = ⟨((L.drop a).take (b - a)).toArray⟩ := by
  apply ByteArray.ext
  rw [ByteArray.data_extract]
  simp [List.extract_eq_take_drop]

theorem subs_J : ∀ (ws : List ByteArray) (P : List UInt8), subs ⟨(P ++ J ws).toArray⟩ (offs P.length ws) = ws := by
  intro ws
  induction ws with
  | nil => intro P; rfl
  | cons w ws ih =>
    intro P
    have e : P ++ J (w :: ws) = (P ++ w.data.toList ++ [32]) ++ J ws := by rw [J_cons]; simp
    have hl : (P ++ w.data.toList ++ [32]).length = P.length + w.data.toList.length + 1 := by simp; omega
    have h2 := ih (P ++ w.data.toList ++ [32])
    rw [hl, ← e] at h2
    have h1 : (⟨(P ++ J (w :: ws)).toArray⟩ : ByteArray).extract P.length (P.length + w.data.toList.length) = w := by
      rw [ext_list, J_cons, List.drop_left, Nat.add_sub_cancel_left, List.take_left]
    show (⟨(P ++ J (w :: ws)).toArray⟩ : ByteArray).extract P.length (P.length + w.data.toList.length) :: subs ⟨(P ++ J (w :: ws)).toArray⟩ (offs (P.length + w.data.toList.length + 1) ws) = w :: ws
    rw [h1, h2]

theorem ranges_J {ws : List ByteArray} (h : ∀ w ∈ ws, Word w.data.toList) : ranges (J ws) = offs 0 ws := by
  have := scan_J ws h [] [] rfl
  simp only [List.nil_append, List.length_nil] at this
  exact ranges_n this

/-! ### The fields of a line are words -/
structure InvS (l : List UInt8) (i : Nat) (st : List (Nat × Nat) × Option Nat) : Prop where
  acc : ∀ r ∈ st.1, r.1 < r.2 ∧ r.2 ≤ i ∧ ∀ t c, r.1 ≤ t → t < r.2 → l[t]? = some c → c.toNat ≠ 32
  cur : ∀ a, st.2 = some a → a < i ∧ ∀ t c, a ≤ t → t < i → l[t]? = some c → c.toNat ≠ 32

theorem scan_inv (l : List UInt8) : ∀ i, i ≤ l.length → InvS l i (scan l i) := by
  intro i
  induction i with
  | zero => intro _; exact ⟨fun r hr => by simp [scan] at hr, fun a h => by simp [scan] at h⟩
  | succ i ih =>
    intro hi
    have h := ih (by omega)
    have hb : l[i]? = some (l[i]'(by omega)) := List.getElem?_eq_getElem (by omega)
    generalize l[i]'(by omega) = b at hb
    have up : ∀ r ∈ (scan l i).1, r.1 < r.2 ∧ r.2 ≤ i + 1 ∧ ∀ t c, r.1 ≤ t → t < r.2 → l[t]? = some c → c.toNat ≠ 32 := fun r hr => ⟨(h.acc r hr).1, Nat.le_succ_of_le (h.acc r hr).2.1, (h.acc r hr).2.2⟩
    cases hs : scan l i with
    | mk acc o =>
      rw [hs] at h up
      cases o with
      | none =>
        by_cases e : b.toNat = 32
        · rw [scan_sn hs hb e]
          exact ⟨up, fun a h => by cases h⟩
        · rw [scan_cn hs hb e]
          refine ⟨up, fun a ha => ?_⟩
          obtain rfl := Option.some.inj ha
          refine ⟨by omega, fun t c h1 h2 hc => ?_⟩
          obtain rfl : t = i := by omega
          rw [hb] at hc
          obtain rfl := Option.some.inj hc
          exact e
      | some a =>
        obtain ⟨c1, c2⟩ := h.cur a rfl
        by_cases e : b.toNat = 32
        · rw [scan_ss hs hb e]
          refine ⟨fun r hr => ?_, fun a h => by cases h⟩
          rcases List.mem_append.1 hr with hr | hr
          · exact up r hr
          · rw [List.mem_singleton.1 hr]
            exact ⟨c1, by simp only; omega, c2⟩
        · rw [scan_cs hs hb e]
          refine ⟨up, fun a' ha => ?_⟩
          obtain rfl := Option.some.inj ha
          refine ⟨by omega, fun t c h1 h2 hc => ?_⟩
          rcases Nat.lt_or_ge t i with h3 | h3
          · exact c2 t c h1 h3 hc
          · obtain rfl : t = i := by omega
            rw [hb] at hc
            obtain rfl := Option.some.inj hc
            exact e

theorem ranges_inv {l : List UInt8} {r : Nat × Nat} (h : r ∈ ranges l) : r.1 < r.2 ∧ r.2 ≤ l.length ∧ ∀ t c, r.1 ≤ t → t < r.2 → l[t]? = some c → c.toNat ≠ 32 := by
  have hi := scan_inv l l.length (Nat.le_refl _)
  cases hs : scan l l.length with
  | mk acc o =>
    rw [hs] at hi
    cases o with
    | none => rw [ranges_n hs] at h; exact hi.acc r h
    | some a =>
      rw [ranges_s hs] at h
      rcases List.mem_append.1 h with h | h
      · exact hi.acc r h
      · rw [List.mem_singleton.1 h]
        obtain ⟨c1, c2⟩ := hi.cur a rfl
        exact ⟨c1, Nat.le_refl _, c2⟩

theorem fieldsOk_parts {s : ByteArray} (h : fieldsOk s = true) : s.size ≤ 600 ∧ (∀ b ∈ s.data.toList, badB b = false) ∧ (ranges s.data.toList).length ≤ 24 := by
  simp only [fieldsOk, Bool.and_eq_true, decide_eq_true_eq, Bool.not_eq_true'] at h
  exact ⟨h.1, fun b hb => by simpa using List.any_eq_false.1 h.2.1 b hb, h.2.2⟩

theorem fields_word {s x : ByteArray} (h : fieldsOk s = true) (hx : x ∈ fieldsOf s) : Word x.data.toList ∧ x.data.toList.length ≤ 600 := by
  obtain ⟨h1, h2, _⟩ := fieldsOk_parts h
  rw [fields_yes h] at hx
  simp only [subs, List.mem_map] at hx
  obtain ⟨r, hr, rfl⟩ := hx
  obtain ⟨r1, r2, r3⟩ := ranges_inv hr
  have hl : s.data.toList.length = s.size := by first | (simp; done) | (simp; rfl)
  have e : (s.extract r.1 r.2).data.toList = (s.data.toList.drop r.1).take (r.2 - r.1) := by
    have := ext_list s.data.toList r.1 r.2
    rw [str_ext] at this
    rw [this]
  rw [e]
  refine ⟨⟨fun h0 => ?_, fun b hb => ?_⟩, by rw [List.length_take, List.length_drop]; omega⟩
  · have := congrArg List.length h0
    rw [List.length_take, List.length_drop, List.length_nil] at this
    omega
  · obtain ⟨t, ht⟩ := List.getElem?_of_mem hb
    have htl := (List.getElem?_eq_some_iff.1 ht).1
    rw [List.length_take, List.length_drop] at htl
    rw [List.getElem?_take_of_lt (by omega), List.getElem?_drop] at ht
    exact ⟨r3 (r.1 + t) b (by omega) (by omega) ht, h2 b (List.mem_of_getElem? ht)⟩

theorem fields_len {s : ByteArray} (h : fieldsOk s = true) : (fieldsOf s).length ≤ 24 := by
  rw [fields_yes h, subs, List.length_map]
  exact (fieldsOk_parts h).2.2

theorem J_len : ∀ ws : List ByteArray, (∀ w ∈ ws, w.data.toList.length ≤ 600) → (J ws).length ≤ 601 * ws.length := by
  intro ws
  induction ws with
  | nil => intro _; simp [J]
  | cons w ws ih =>
    intro h
    have h1 := h w (List.mem_cons_self ..)
    have h2 := ih fun w hw => h w (List.mem_cons_of_mem _ hw)
    rw [J_cons, List.length_append, List.length_cons, List.length_cons]
    omega

theorem fields_again {s : ByteArray} (h : fieldsOk s = true) (hz : (J (fieldsOf s)).length ≤ 600) : fieldsOk ⟨(J (fieldsOf s)).toArray⟩ = true ∧ fieldsOf ⟨(J (fieldsOf s)).toArray⟩ = fieldsOf s := by
  have hw : ∀ w ∈ fieldsOf s, Word w.data.toList := fun w hw => (fields_word h hw).1
  have hr := ranges_J hw
  have hok : fieldsOk ⟨(J (fieldsOf s)).toArray⟩ = true := by
    simp only [fieldsOk, Bool.and_eq_true, decide_eq_true_eq, Bool.not_eq_true']
    refine ⟨?_, ?_, ?_⟩
    · show (J (fieldsOf s)).toArray.size ≤ 600
      simpa using hz
    · rw [List.any_eq_false]
      intro b hb
      have hb' : b ∈ J (fieldsOf s) := hb
      simp only [J, List.mem_flatMap, List.mem_append, List.mem_singleton] at hb'
      obtain ⟨x, hx, hb' | rfl⟩ := hb'
      · rw [((hw x hx).2 b hb').2]; simp
      · simp [badB]
    · show (ranges (J (fieldsOf s))).length ≤ 24
      rw [hr, offs_len]
      exact fields_len h
  refine ⟨hok, ?_⟩
  rw [fields_yes hok]
  show subs _ (ranges (J (fieldsOf s))) = _
  rw [hr]
  exact subs_J (fieldsOf s) []

theorem J_step {ws : List ByteArray} {k : Nat} {x : ByteArray} (h : ws[k]? = some x) : ((⟨(J (ws.take k)).toArray⟩ : ByteArray) ++ x) ++ ⟨#[32]⟩ = ⟨(J (ws.take (k + 1))).toArray⟩ := by
  have e : x = ⟨x.data.toList.toArray⟩ := str_ext.symm
  rw [J_snoc h]
  conv => lhs; rw [e]
  rw [cat_str]
  exact cat_str _ [32]

theorem itoa_m3 : Lib.itoa (-3) = [45, 51] := by
  rw [show (-3 : Int) = -((3 : Nat) : Int) from rfl, Lib.itoa_neg 3 (by decide), Lib.decDigits_one (by decide)]
  rfl

theorem laws_sameTexts_t {A B : Option Addr} {n m c d : Nat} {xs : List ByteArray} {w : World} (ha : Reads w 1 A n (strs xs)) (hb : Reads w 1 B m (strs xs)) (hn : n ≤ 1048576) :
    Calls Tryd.prog 17 #[.slice A n c, .slice B m d] w fun e w' => e = .returned (.bool true) ∧ Below w.heap.size w w' := by
  have e1 := ha.strlen
  have e2 := hb.strlen
  obtain rfl : n = m := by omega
  clear e1 e2
  go_enter Tryd.func17, Tryd.ntmps17
  go_wp2
  go_loopw [5] (fun i wr => ∃ k q : Nat, k ≤ n ∧ i = .int .i64 k ∧ wr = w.drewN q) (fun i _ => n - (intOf i).toNat)
  case atStart => exact ⟨0, 0, Nat.zero_le _, rfl, rfl⟩
  case round =>
    obtain ⟨k, q, hk, rfl, rfl⟩ := hrel
    by_cases hlt : k < n
    · obtain ⟨b, o, x, rfl, hbB, hx, c0⟩ := ha.str hlt
      obtain ⟨b', o', x', rfl, hbB', hx', c1⟩ := hb.str hlt
      obtain rfl : x = x' := by rw [hx] at hx'; exact Option.some.inj hx'
      clear hx hx'
      have l1 : (k : Int) < (n : Int) := by omega
      go_wp2
      go_quiet (fail)
      go_wp2
      go_roundw
      case rel => exact ⟨k + 1, _, by omega, by go_num, rfl⟩
      case measure => simp [intOf]; omega
    · go_wp2
      go_ret
      exact ⟨rfl, below_drewN (Below.refl _ _) _⟩
end Go.Proofs.YtjcfdkmlkhgfiaaDoor
