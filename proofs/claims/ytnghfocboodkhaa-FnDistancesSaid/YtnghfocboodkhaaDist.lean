/- The contract of the relaxation of distances: for limbs that are valid it returns, in new memory, the table of the plain function dist. -/
import Derived.Test.YtnghfocboodkhaaLimb
import Derived.Test.YtnghfocboodkhaaIn
import Derived.Test.YtnghfocboodkhaaInts
namespace Go.Proofs.Ytnghfocboodkhaa
open Go.ChangeShapes Go.WideShapes Go.ChangeAt Go.RowKit Go.Deep Go.Joins
set_option maxRecDepth 100000

def tab (f : Nat → Int) (n : Nat) : List Int := (List.range n).map f
theorem tab_length (f : Nat → Int) (n : Nat) : (tab f n).length = n := by simp [tab]
theorem tab_get (f : Nat → Int) (n i : Nat) (h : i < n) : (tab f n)[i]? = some (f i) := by simp [tab, List.getElem?_map, List.getElem?_range h]
theorem tab_set (f : Nat → Int) (n i : Nat) (x : Int) : (tab f n).set i x = tab (upd f i x) n := by
  apply List.ext_getElem?
  intro j
  by_cases hj : j < n
  · rw [tab_get _ _ _ hj, List.getElem?_set]
    by_cases e : i = j
    · subst e; simp [tab_length, hj, upd]
    · rw [if_neg e, tab_get _ _ _ hj, upd_ne _ _ (fun h => e h.symm)]
  · rw [List.getElem?_eq_none (by simp [tab_length]; omega), List.getElem?_eq_none (by simp [tab_length]; omega)]
theorem tab_congr {f g : Nat → Int} {n : Nat} (h : ∀ j, j < n → f j = g j) : tab f n = tab g n := List.map_congr_left fun j hj => h j (by simpa using hj)
theorem ints_set (xs : List Int) (i : Nat) (x : Int) : (ints xs).set i (.int .i64 x) = ints (xs.set i x) := by simp [ints, List.map_set]
theorem made_tab (n : Nat) : (madeCells #[.int .i64 0] (n * 1)).toList = ints (tab (fun _ => 0) n) := by
  apply List.ext_getElem?
  intro j
  by_cases hj : j < n
  · rw [ints_get, tab_get _ _ _ hj]
    simp [madeCells, hj, Nat.mod_one]
  · rw [List.getElem?_eq_none (by simp [madeCells]; omega), List.getElem?_eq_none (by simp [ints, tab]; omega)]

section
variable {w : World} {g : Nat} {t : TypeId} {f : Nat → Int} {n i : Nat}
theorem Row.tab_at (h : Row w g t (ints (tab f n))) (hi : i < n) : w.cell? ⟨g, i, none⟩ = some (.int .i64 (f i)) := h.cell_ (by rw [ints_get, tab_get _ _ _ hi]; rfl)
theorem Row.tab_put (h : Row w g t (ints (tab f n))) (x : Int) {f' : Nat → Int} (hf : ∀ j, j < n → f' j = upd f i x j) : Row (w.setCell ⟨g, i, none⟩ (.int .i64 x)) g t (ints (tab f' n)) := by
  have h1 := h.set i (.int .i64 x)
  rw [ints_set, tab_set] at h1
  rw [tab_congr hf]
  exact h1
end

theorem info_int : (Try.prog.info? 3).map (fun i => (i.zero, i.size, i.bytes)) = some (some (.int .i64 0), 1, 8) := by kernel_rfl

theorem round_facts {N S q : Nat} {ls : List Lb} {x : Lb} (hS : S < N) (hN : N ≤ 12) (ok : ∀ x ∈ ls, okLb N x) (r : Nat) (hx : ls[q]? = some x) :
    ∃ (p q' : Nat) (l : Int) (f f' : Nat → Int), x.a = (p : Int) ∧ x.b = (q' : Int) ∧ x.l = l ∧ (ls.take q).foldl rl (iter (pass ls) r (start S)) = f ∧ (ls.take (q + 1)).foldl rl (iter (pass ls) r (start S)) = f' ∧
      p < N ∧ q' < N ∧ p ≠ q' ∧ (1 ≤ l ∧ l ≤ 100) ∧ (-1 ≤ f p ∧ f p ≤ 1100) ∧ (-1 ≤ f q' ∧ f q' ≤ 1100) ∧
      ((0 ≤ f p ∧ f q' < 0 ∧ f' = upd f q' (f p + l)) ∨ (f p < 0 ∧ 0 ≤ f q' ∧ f' = upd f p (f q' + l)) ∨ (0 ≤ f p ∧ 0 ≤ f q' ∧ f' = f) ∨ (f p < 0 ∧ f q' < 0 ∧ f' = f)) := by
  have okx := ok x (List.mem_of_getElem? hx)
  have hinv := inv_fold ok (ls.take q) _ (fun y hy => List.mem_of_mem_take hy) (inv_iter hS ok r)
  have bd : ∀ v, -1 ≤ (ls.take q).foldl rl (iter (pass ls) r (start S)) v ∧ (ls.take q).foldl rl (iter (pass ls) r (start S)) v ≤ 1100 := fun v =>
    ⟨hinv.low v, by have := hinv.small v; have := cnt_le (reach ((ls.take q).foldl rl (iter (pass ls) r (start S)))) N; omega⟩
  refine ⟨x.p, x.q, x.l, _, _, by unfold okLb at okx; unfold Lb.p; omega, by unfold okLb at okx; unfold Lb.q; omega, rfl, rfl, rfl, okx.p_lt, okx.q_lt, okx.ne, okx.l1, bd _, bd _, ?_⟩
  rw [take_snoc hx, List.foldl_append]
  simp only [List.foldl_cons, List.foldl_nil]
  rcases rl_cases ((ls.take q).foldl rl (iter (pass ls) r (start S))) x okx.ne with ⟨h1, h2, e⟩ | ⟨h1, h2, e⟩ | ⟨h1, h2, e⟩
  · exact .inl ⟨h1, h2, e⟩
  · exact .inr (.inl ⟨h2, h1, e⟩)
  · by_cases h3 : 0 ≤ (ls.take q).foldl rl (iter (pass ls) r (start S)) x.p
    · exact .inr (.inr (.inl ⟨h3, by omega, e⟩))
    · exact .inr (.inr (.inr ⟨by omega, by omega, e⟩))

set_option maxRecDepth 100000 in
set_option maxHeartbeats 4000000 in
theorem impl_distances {N S m c : Nat} {s : Int} {A : Option Addr} {ls : List Lb} {w : World} (hr : Reads w 3 A m (lbs ls)) (ok : ∀ x ∈ ls, okLb N x) (hN : N ≤ 12) (hm : m ≤ 1048576) (hs : s = (S : Int)) (hS : S < N) :
    Calls Try.prog 56 #[.agg #[.int .i64 (N : Int), .slice A m c], .int .i64 s] w fun e w' => ∃ g, e = .returned (.slice (some ⟨g, 0, none⟩) N N) ∧ w'.ownsRow w.heap.size 3 1 (.slice (some ⟨g, 0, none⟩) N N) N (ints (tab (dist N ls S) N)) ∧ Below w.heap.size w w' := by
  subst hs
  obtain ⟨i0, hi, hz0, hz1, hz2⟩ := info_parts info_int
  have hmk := fun W => run_make_rowN (P := Try.prog) 39 3 i0 _ Try.underlying39 hi hz0 .i64 .i64 N N (Nat.le_refl _) (by rw [hz2]; omega) (by omega) W
  rw [hz1] at hmk
  clear hi hz0 hz1 hz2
  have hlen : ls.length = m := by have := hr.1; rw [lbs_length] at this; omega
  go_enter Try.func56, Try.ntmps56
  go_wp2
  clear hmk
  go_loopw [14] (fun i wr => ∃ k : Nat, k ≤ N ∧ i = .int .i64 k ∧ Row wr w.heap.size 24 [.int .i64 N, .slice A m c] ∧ Row wr (w.heap.size + 1) 3 (ints (tab (fun j => if j < k then -1 else 0) N)) ∧ Below w.heap.size w wr) (fun i _ => N - (intOf i).toNat)
  case atStart => exact ⟨0, by omega, rfl, (Row.new w _ [.int .i64 N, .slice A m c]).alloc _, by have h := Row.made (w.alloc (.cells #[.int .i64 N, .slice A m c] 24)) #[.int .i64 0] (N * 1) 3; rw [made_tab, World.size_alloc] at h; simpa using h, by go_grown⟩
  case round =>
    obtain ⟨k, hk, rfl, hbx, hrow, hbel⟩ := hrel
    by_cases hlt : k < N
    · have c0 := hrow.tab_at hlt
      have f0 := hrow.frozen k
      have HR := Lib.hid (hrow.tab_put (i := k) (-1) (f' := fun j => if j < k + 1 then -1 else 0) (fun j hj => by unfold upd; by_cases e : j = k <;> simp [e] <;> (try omega) <;> (congr 1; simp; omega)))
      have HB := Lib.hid (hbx.far (p := ⟨w.heap.size + 1, k, none⟩) (by simp) (.int .i64 (-1)))
      clear hrow hbx
      go_wp2
      go_roundw
      case rel => exact ⟨k + 1, by omega, by go_num, HB.out, HR.out, hbel.setCell (by simp) _⟩
      case measure => simp [intOf]; omega
    · obtain rfl : k = N := by omega
      have c1 := hrow.tab_at hS
      have f1 := hrow.frozen S
      have b0 := hbx.cell_ (i := 0) rfl
      have b1 := hbx.cell_ (i := 1) rfl
      have HR := Lib.hid (hrow.tab_put (i := S) 0 (f' := start S) (fun j hj => by unfold upd start; by_cases e : j = S <;> simp [e, hj]))
      have HB := Lib.hid (hbx.far (p := ⟨w.heap.size + 1, S, none⟩) (by simp) (.int .i64 0))
      have hbel2 := hbel.setCell (p := ⟨w.heap.size + 1, S, none⟩) (by simp) (.int .i64 0)
      have hS' : (S : Int) < (k : Int) := by omega
      clear hrow hbx hbel
      go_wp2
      clear c1 f1 b0 b1
      go_loopw [26] (fun i w2 => ∃ r : Nat, r ≤ k ∧ i = .int .i64 r ∧ Row w2 w.heap.size 24 [.int .i64 k, .slice A m c] ∧ Row w2 (w.heap.size + 1) 3 (ints (tab (iter (pass ls) r (start S)) k)) ∧ Below w.heap.size w w2) (fun i _ => k - (intOf i).toNat)
      case atStart => exact ⟨0, by omega, rfl, HB.out, HR.out, hbel2⟩
      case round =>
        obtain ⟨r, hrk, rfl, hbx, hrow, hbel⟩ := hrel
        clear HB HR hbel2
        by_cases hrl : r < k
        · have b1 := hbx.cell_ (i := 1) rfl
          go_wp2
          clear b1
          go_loopw [31] (fun i w3 => ∃ q : Nat, q ≤ m ∧ i = .int .i64 q ∧ Row w3 w.heap.size 24 [.int .i64 k, .slice A m c] ∧ Row w3 (w.heap.size + 1) 3 (ints (tab ((ls.take q).foldl rl (iter (pass ls) r (start S))) k)) ∧ Below w.heap.size w w3) (fun i _ => m - (intOf i).toNat)
          case atStart => exact ⟨0, by omega, rfl, hbx, hrow, hbel⟩
          case round =>
            obtain ⟨q, hqm, rfl, hbx, hrow, hbel⟩ := hrel
            by_cases hql : q < m
            · obtain ⟨b, o, x, rfl, hbB, hx, c0, c1, c2⟩ := (hr.below hbel).lb hql
              obtain ⟨p, q', l, f, f', ea, eb, el, ef, ef', hp, hq, hne, hl, hbp, hbq, hcas⟩ := round_facts hS hN ok r hx
              rw [ea] at c0
              rw [eb] at c1
              rw [el] at c2
              rw [ef] at hrow
              have EF := Lib.hid ef'
              clear ea eb el ef ef' hx hr
              have cp := hrow.tab_at hp
              have cq := hrow.tab_at hq
              have fp := hrow.frozen p
              have fq := hrow.frozen q'
              have b1 := hbx.cell_ (i := 1) rfl
              have zb := hbx.lt
              have zr := hrow.lt
              have HR := Lib.hid hrow
              have HB := Lib.hid hbx
              clear hrow hbx
              rcases hcas with ⟨h1, h2, e⟩ | ⟨h1, h2, e⟩ | ⟨h1, h2, e⟩ | ⟨h1, h2, e⟩
              · have E := Lib.hid e; clear e
                have hp' : (p : Int) < (k : Int) := by omega
                have hq'' : (q' : Int) < (k : Int) := by omega
                have W1 : IntKind.i64.wrap (f p + l) = f p + l := IntWalk.i64_in _ (by omega)
                go_wp2
                have ra := (HR.out).alloc (.cells #[.int .i64 (p : Int), .int .i64 (q' : Int), .int .i64 l] 52)
                have rb := (HB.out).alloc (.cells #[.int .i64 (p : Int), .int .i64 (q' : Int), .int .i64 l] 52)
                have rn := Row.new wr 52 [.int .i64 (p : Int), .int .i64 (q' : Int), .int .i64 l]
                have be := hbel.alloc (by omega) (.cells #[.int .i64 (p : Int), .int .i64 (q' : Int), .int .i64 l] 52)
                generalize wr.alloc (.cells #[.int .i64 (p : Int), .int .i64 (q' : Int), .int .i64 l] 52) = W at *
                have cp := ra.tab_at hp
                have cq := ra.tab_at hq
                have fp := ra.frozen p
                have fq := ra.frozen q'
                have l0 := rn.cell_ (i := 0) rfl
                have l1 := rn.cell_ (i := 1) rfl
                have l2 := rn.cell_ (i := 2) rfl
                have zn := rn.lt
                have RA := Lib.hid ra
                have RB := Lib.hid rb
                clear ra rb rn
                go_still_tail 12, (by kernel_rfl)
                clear W1
                go_wp2
                go_roundw
                case rel => exact ⟨q + 1, by omega, by go_num, (RB.out).far (p := ⟨w.heap.size + 1, q', none⟩) (by simp) _, by rw [EF.out, E.out]; exact (RA.out).tab_put _ (fun j _ => rfl), (below_drewN be 1).setCell (by simp) _⟩
                case measure => simp [intOf]; omega
              · have E := Lib.hid e; clear e
                have hp' : (p : Int) < (k : Int) := by omega
                have hq'' : (q' : Int) < (k : Int) := by omega
                have W1 : IntKind.i64.wrap (f q' + l) = f q' + l := IntWalk.i64_in _ (by omega)
                go_wp2
                have ra := (HR.out).alloc (.cells #[.int .i64 (p : Int), .int .i64 (q' : Int), .int .i64 l] 52)
                have rb := (HB.out).alloc (.cells #[.int .i64 (p : Int), .int .i64 (q' : Int), .int .i64 l] 52)
                have rn := Row.new wr 52 [.int .i64 (p : Int), .int .i64 (q' : Int), .int .i64 l]
                have be := hbel.alloc (by omega) (.cells #[.int .i64 (p : Int), .int .i64 (q' : Int), .int .i64 l] 52)
                generalize wr.alloc (.cells #[.int .i64 (p : Int), .int .i64 (q' : Int), .int .i64 l] 52) = W at *
                have cp := ra.tab_at hp
                have cq := ra.tab_at hq
                have fp := ra.frozen p
                have fq := ra.frozen q'
                have l0 := rn.cell_ (i := 0) rfl
                have l1 := rn.cell_ (i := 1) rfl
                have l2 := rn.cell_ (i := 2) rfl
                have zn := rn.lt
                have RA := Lib.hid ra
                have RB := Lib.hid rb
                clear ra rb rn
                go_still_tail 12, (by kernel_rfl)
                clear W1
                go_wp2
                go_roundw
                case rel => exact ⟨q + 1, by omega, by go_num, (RB.out).far (p := ⟨w.heap.size + 1, p, none⟩) (by simp) _, by rw [EF.out, E.out]; exact (RA.out).tab_put _ (fun j _ => rfl), (below_drewN be 1).setCell (by simp) _⟩
                case measure => simp [intOf]; omega
              · have E := Lib.hid e; clear e
                go_wp2
                go_roundw
                case rel => exact ⟨q + 1, by omega, by go_num, HB.out.alloc _, by rw [EF.out, E.out]; exact HR.out.alloc _, hbel.alloc (by omega) _⟩
                case measure => simp [intOf]; omega
              · have E := Lib.hid e; clear e
                go_wp2
                go_roundw
                case rel => exact ⟨q + 1, by omega, by go_num, HB.out.alloc _, by rw [EF.out, E.out]; exact HR.out.alloc _, hbel.alloc (by omega) _⟩
                case measure => simp [intOf]; omega
            · obtain rfl : q = m := by omega
              rw [List.take_of_length_le (by omega)] at hrow
              go_wp2
              go_roundw
              case rel => exact ⟨r + 1, by omega, by go_num, hbx, hrow, hbel⟩
              case measure => simp [intOf]; omega
        · obtain rfl : r = k := by omega
          go_wp2
          go_ret
          exact ⟨_, rfl, hrow.own (by omega) (Nat.le_refl _) (by unfold maxLen; omega) (by rw [ints_length, tab_length]; omega) (List.take_of_length_le (by rw [ints_length, tab_length]; omega)), hbel⟩
end Go.Proofs.Ytnghfocboodkhaa
