/- The draw of a valid body and two poses of it; no condition beyond the length of the code. -/
import Derived.Test.YtcdachkaalkjlaaDrawPulls
import Derived.Test.YtcdachkaalkjlaaHangLaw
namespace Go.Proofs.Ytcdachkaalkjlaa
open Go.ChangeShapes Go.WideShapes Go.ChangeAt Go.RowKit Go.Deep Go.Joins
set_option maxRecDepth 100000

/-- A valid body and two poses, in memory of the call's own. -/
def DrawnPoses (w : World) (e : Ending) (w' : World) : Prop :=
  ∃ (N : Nat) (ls : List Lb) (B : Option Addr) (m d : Nat) (C : Option Addr) (f : Nat) (ps : List Int) (D : Option Addr) (g : Nat) (qs : List Int), e = .returned (.tuple #[.agg #[.int .i64 (N : Int), .slice B m d], .slice C N f, .slice D N g]) ∧ w'.ownsRow w.heap.size 68 3 (.slice B m d) m (lbs ls) ∧ w'.ownsRow w.heap.size 3 1 (.slice C N f) N (ints ps) ∧ w'.ownsRow w.heap.size 3 1 (.slice D N g) N (ints qs) ∧ poseOk (N : Int) ls ps = true ∧ poseOk (N : Int) ls qs = true ∧ Below w.heap.size w w'

set_option maxHeartbeats 8000000 in
theorem spec_DrawPoses {w : World} {n c : Nat} {A : Option Addr} {bs : List Int} (hr : Reads w 1 A n (u8s bs)) (hb : ∀ x ∈ bs, 0 ≤ x ∧ x ≤ 255) (hn : n ≤ 1048576) :
    Calls Try.prog 36 #[.slice A n c] w (DrawnPoses w) := by
  have hR := Row.new w 37 [.int .i64 0, .slice none 0 0]
  have hb0 : Below w.heap.size w (w.alloc (.cells #[.int .i64 0, .slice none 0 0] 37)) := by go_grown
  go_enter Try.func36, Try.ntmps36
  go_wp2_with fail
  refine (spec_l01New (hr.below (by go_grown)) hb hn).mono ?_
  rintro e w1 ⟨G, rfl, hc1, hG, hb1⟩
  have hlo := hc1.lo
  simp only [World.size_alloc] at hlo
  have HC1 := Lib.hid hc1
  clear hc1 hb1
  go_wp2_with fail
  refine (spec_l02Body HC1.out).mono ?_
  rintro e w2 ⟨N, ls, B, m, d, rfl, ho, hok, hc2⟩
  obtain ⟨h1, h12, hl⟩ := body_short hok
  obtain ⟨Nn, rfl⟩ := Int.eq_ofNat_of_zero_le (show 0 ≤ N by omega)
  have hm : m ≤ 1048576 := by have := ho.1; rw [lbs_length] at this; omega
  have hR2 := (hR.below hc2.base).alloc (.cells #[.int .i64 (Nn : Int), .slice B m d] 37)
  have hP := Row.new w2 37 [.int .i64 (Nn : Int), .slice B m d]
  have zG2 := hc2.lt
  have HC2 := Lib.hid (hc2.alloc (.cells #[.int .i64 (Nn : Int), .slice B m d] 37))
  have bA := own_blk ho
  have HO := Lib.hid (ho.alloc (.cells #[.int .i64 (Nn : Int), .slice B m d] 37))
  have HOK := Lib.hid hok
  have hBG : ∀ b o, B = some ⟨b, o, none⟩ → b ≠ G := fun b o e => by have := (bA _ e).1; simp only at this; omega
  have HBG := Lib.hid hBG
  have zR : w.heap.size < w2.heap.size := by omega
  clear hc2 ho hok hl hBG HC1 hR
  have q0 := hP.cell_ (i := 0) rfl
  have q1 := hP.cell_ (i := 1) rfl
  have HP := Lib.hid hP
  have HR := Lib.hid hR2
  clear hP hR2
  go_wp2
  have hz3 : w2.heap.size < (w2.alloc (.cells #[.int .i64 (Nn : Int), .slice B m d] 37)).heap.size := by simp
  generalize w2.alloc (.cells #[.int .i64 (Nn : Int), .slice B m d] 37) = w3 at *
  have ne1 : w2.heap.size ≠ G := by omega
  have ne2 : w.heap.size ≠ G := by omega
  have ne3 : w.heap.size ≠ w2.heap.size := by omega
  have ne4 : w2.heap.size ≠ w.heap.size := by omega
  go_region_held3 (fun w' => w'.cell? ⟨w2.heap.size, 0, none⟩ = some (.int .i64 (Nn : Int)) ∧ w'.cell? ⟨w2.heap.size, 1, none⟩ = some (.slice B m d))
    (first | go_keep | exact ⟨k0, k1⟩ | exact ⟨l0, l1⟩)
    (first
      | (go_at_call 62; refine (spec_l04Pulls (HC2.out.drewN _) (Reads.of_own (own_drewN HO.out _)) hm HOK.out HBG.out).mono ?_; rintro e w4 ⟨C4, m4, f4, ps, rfl, ho4, hpo, hm4, hc4, hg4⟩; have k0 := cell_cur hg4 q0 ne1; have k1 := cell_cur hg4 q1 ne1; have hR4 := row_cur (HR.out.drewN _) hg4 ne2; have HPO := Lib.hid hpo; have HM4 := Lib.hid hm4; have hoL := own_cur (own_drewN HO.out _) hg4 bA hG; have rL4 := Reads.of_own hoL; have rP4 := Reads.of_own ho4; have HC4 := Lib.hid hc4; have z4 : w3.heap.size ≤ w4.heap.size := hg4.size; clear hpo hm4 hc4 hg4)
      | (go_at_call 61; refine (spec_HangPose rL4 hm rP4 (by have := HM4.out; omega)).mono ?_; rintro e w5 ⟨D5, n5, c5, rfl, ho5, hn5, hb5⟩; have l0 := keep_cell hb5 k0; have l1 := keep_cell hb5 k1)
      | (fail "no arm"))
  have hR5 := hR4.below hb5
  have hoL5 := own_below hoL hb5
  have HC5 := Lib.hid (HC4.out.below hb5)
  have z5 : w4.heap.size ≤ w5.heap.size := hb5.size
  have hpose := hang_pose HPO.out
  have HM := HM4.out
  have hl5 := own_len ho5
  have hpl := (poseFacts hpose).len
  have hNn : n5 = Nn := by omega
  have HN5 := Lib.hid hNn
  have HPS := Lib.hid hpose
  clear hpose HM hl5 hpl hNn HM4
  clear k0 k1 hb5 hR4 hoL rL4 rP4 ho4 HC4 q0 q1
  have q0 := l0
  have q1 := l1
  clear l0 l1
  go_wp2
  go_region_held3 (fun w' => w'.cell? ⟨w2.heap.size, 0, none⟩ = some (.int .i64 (Nn : Int)) ∧ w'.cell? ⟨w2.heap.size, 1, none⟩ = some (.slice B m d))
    (first | go_keep | exact ⟨k0, k1⟩ | exact ⟨l0, l1⟩)
    (first
      | (go_at_call 62; refine (spec_l04Pulls (HC5.out.drewN _) (Reads.of_own (own_drewN hoL5 _)) hm HOK.out HBG.out).mono ?_; rintro e w6 ⟨C6, m6, f6, qs, rfl, ho6, hpo, hm6, hc6, hg6⟩; have k0 := cell_cur hg6 q0 ne1; have k1 := cell_cur hg6 q1 ne1; have hR6 := row_cur (hR5.drewN _) hg6 ne2; have HPO6 := Lib.hid hpo; have HM6 := Lib.hid hm6; have hoL6 := own_cur (own_drewN hoL5 _) hg6 bA hG; have hoP6 := own_cur (own_drewN ho5 _) hg6 (own_blk ho5) (by have : w3.heap.size ≤ w4.heap.size := z4; omega); have rL6 := Reads.of_own hoL6; have rP6 := Reads.of_own ho6; have HC6 := Lib.hid hc6; clear hpo hm6 hc6 hg6)
      | (go_at_call 61; refine (spec_HangPose rL6 hm rP6 (by have := HM6.out; omega)).mono ?_; rintro e w7 ⟨D7, n7, c7, rfl, ho7, hn7, hb7⟩; have l0 := keep_cell hb7 k0; have l1 := keep_cell hb7 k1; have hR7 := hR6.below hb7; have s0 := hR7.cell_ (i := 0) rfl; have s1 := hR7.cell_ (i := 1) rfl; have f0 := hR7.frozen 0; have f1 := hR7.frozen 1)
      | (fail "no arm"))
  have hoL7 := own_below hoL6 hb7
  have hoP7 := own_below hoP6 hb7
  have HC7 := Lib.hid (HC6.out.below hb7)
  have z7 : w6.heap.size ≤ w7.heap.size := hb7.size
  have hpose := hang_pose HPO6.out
  have hl7 := own_len ho7
  have hpl := (poseFacts hpose).len
  have hN7 : n7 = Nn := by have := HM6.out; omega
  have HPS7 := Lib.hid hpose
  obtain rfl := HN5.out
  subst hN7
  clear hpose hl7 hpl
  clear k0 k1 l0 l1 hb7 q0 q1
  go_wp2
  have hb8 : Below w.heap.size w w7 := hb0.trans (HC7.out.base.mono (by simp))
  refine bodyPost_ret (v := .tuple #[.agg #[.int .i64 (n7 : Int), .slice B m d], .slice D5 n7 c5, .slice D7 n7 c7]) (by simp [results, Try.results36, go_sem, s0, s1]) rfl ⟨n7, ls, B, m, d, D5, c5, _, D7, c7, _, rfl, ?_, ?_, ?_, HPS.out, HPS7.out, ?_⟩
  · exact ownsRow_le (own_set_row (own_set_row hoL7 hR7 (by decide) _) (hR7.set 0 _) (by decide) _) (by omega)
  · exact ownsRow_le (own_set_row (own_set_row hoP7 hR7 (by decide) _) (hR7.set 0 _) (by decide) _) (by have : w.heap.size ≤ w4.heap.size := (by omega); exact this)
  · exact ownsRow_le (own_set_row (own_set_row ho7 hR7 (by decide) _) (hR7.set 0 _) (by decide) _) (by have : w.heap.size ≤ w6.heap.size := (by have := HC6.out.base.size; simp only [World.size_alloc] at this; omega); exact this)
  · exact (hb8.setCell (by simp) _).setCell (by simp) _
end Go.Proofs.Ytcdachkaalkjlaa
