/- The contract of small: it returns true, and what was there stays. -/
import Derived.Test.YthbnnifkoomokaaO
set_option linter.unusedVariables false
set_option linter.unusedSimpArgs false
namespace Go.Proofs.Ythbnnifkoomokaa
open Go.RowKit Go.Mf

theorem lit_snds (w : World) (l : List Snd) (h : l.length ≤ 1000000000) : SndsAt (w.alloc (.cells (flat l).toArray 34)) (.slice (some ⟨w.heap.size, 0, none⟩) l.length l.length) l :=
  snds_of_cells h (cells_new0 (heap_alloc_new w _))

theorem due_is {w : World} {lo hi b : Nat} {X : Bx} (h : BoxAt w lo hi b X) (k now : Int) {r : Bool} (hr : X.due k now = r) :
   Calls Try.prog 14 #[.pointer (some ⟨b,0,none⟩), .int .i64 k, .int .i64 now] w fun e w' => e = .returned (.bool r) ∧ ∃ n, w' = w.drewN n := by
  subst hr; exact due_any h k now
theorem sent_is {w : World} {lo hi b : Nat} {X : Bx} (h : BoxAt w lo hi b X) (p l : Int) {r : Int} (hr : X.sentOf p l = r) :
   Calls Try.prog 10 #[.pointer (some ⟨b,0,none⟩), .int .i64 p, .int .i64 l] w fun e w' => e = .returned (.int .i64 r) ∧ w = w' := by
  subst hr; exact sent_any h p l
theorem ack_is {w : World} {lo hi b : Nat} {X : Bx} (h : BoxAt w lo hi b X) (k l size now : Int) {r : Bool} (hr : X.ackOk k l size = r) :
   Calls Try.prog 13 #[.pointer (some ⟨b,0,none⟩), .int .i64 k, .int .i64 l, .int .i64 size, .int .i64 now] w fun e w' =>
     e = .returned (.bool r) ∧ BoxAt w' lo hi b (X.ack k l size now) ∧ Upd lo hi w w' := by
  subst hr; exact ack_any h k l size now

def SmallPost (w : World) : Ending → World → Prop := fun e w' => e = .returned (.bool true) ∧ Below w.heap.size w w'

set_option maxHeartbeats 1000000 in
set_option maxRecDepth 100000 in
theorem small_any (w : World) : Calls Try.prog 7 #[] w (SmallPost w) := by
  go_enter Try.func7, Try.ntmps7
  go_wp2_with fail
  refine (new_box 0 3 10 _ (by decide)).mono ?_
  rintro e w1 ⟨b, rfl, hb1, hbel1⟩
  obtain ⟨lo, hlo⟩ : ∃ lo, w.heap.size = lo := ⟨_, rfl⟩
  rw [hlo] at hb1 hbel1
  obtain ⟨hi, hhi⟩ : ∃ hi, w1.heap.size = hi := ⟨_, rfl⟩
  have HLO := Lib.hid hlo
  have HHI := Lib.hid hhi
  have HB1 := Lib.hid (show BoxAt w1 lo hi b sX0 by rw [hhi] at hb1; exact hb1)
  have HBEL1 := Lib.hid hbel1
  clear hb1 hbel1 hlo hhi
  go_wp2_with fail
  refine (new_none 3 3 10 _ (by decide)).mono ?_
  rintro e w1' ⟨rfl, rfl⟩
  go_wp2_with fail
  refine (new_none 0 21 10 _ (by decide)).mono ?_
  rintro e w1' ⟨rfl, rfl⟩
  go_wp2_with fail
  refine (new_none 0 0 10 _ (by decide)).mono ?_
  rintro e w1' ⟨rfl, rfl⟩
  go_wp2_with fail
  have hR := small_rows w1 lo hi (by rw [HHI.out]; exact Nat.le_refl _)
  have hB := ((HB1.out.alloc (.cells #[.int .i64 5] 3)).alloc (.cells #[.int .i64 70, .int .i64 40] 3)).alloc (.cells #[.slice (some ⟨w1.heap.size, 0, none⟩) 1 1, .slice none 0 0, .slice (some ⟨w1.heap.size + 1, 0, none⟩) 2 2] 25)
  have hle : lo ≤ w1.heap.size := by have := HBEL1.out.size; have := HLO.out; omega
  have hE := (((HBEL1.out.alloc hle (.cells #[.int .i64 5] 3)).alloc (by simp; omega) (.cells #[.int .i64 70, .int .i64 40] 3)).alloc (by simp; omega) (.cells #[.slice (some ⟨w1.heap.size, 0, none⟩) 1 1, .slice none 0 0, .slice (some ⟨w1.heap.size + 1, 0, none⟩) 2 2] 25))
  have ok0 : sX0.Ok 0 := new_ok (by decide) (by decide)
  refine (plan_raw _ lo hi b sX0 0 0 _ smallEnds hR hB ok0 (by omega)).mono ?_
  rintro e w2 ⟨u, rfl, hown, hb2, hup2⟩
  have hsn := snds_of_own (l := sL1) (by decide) (by rw [s1] at hown; exact hown)
  have HR2 := Lib.hid (hR.upd hup2)
  have HE2 := Lib.hid (hE.trans (hup2.below (Nat.le_refl _) (by have := hE.size; have := HLO.out; omega)))
  have HB2 := Lib.hid (show BoxAt w2 lo hi b sX1 from hb2)
  have HSN := Lib.hid hsn
  have ok1 : sX1.Ok 20 := plan_ok ok0 0 smallEnds
  have HOK1 := Lib.hid ok1
  have HLE := Lib.hid hle
  clear hR hB hE ok0 hown hb2 hup2 hsn ok1 hle
  obtain ⟨ev, hev⟩ : ∃ ev, Value.slice (some ⟨w1.heap.size + 1 + 1, 0, none⟩) 3 3 = ev := ⟨_, rfl⟩
  go_wp2_with fail
  refine (same_true _ _ _ sL1 (HSN.out.alloc _) (lit_snds w2 sL1 (by decide))).mono ?_
  rintro e w3 ⟨rfl, n3, rfl⟩
  have HB3 := Lib.hid (HB2.out.alloc (.cells (flat sL1).toArray 34))
  have HR3 := Lib.hid (HR2.out.alloc (.cells (flat sL1).toArray 34))
  have HE3 := Lib.hid (HE2.out.alloc (by have := HE2.out.size; have := HLO.out; omega) (.cells (flat sL1).toArray 34))
  go_wp2_with fail
  refine (due_is (HB3.out.drewN _) 1 0 s2).mono ?_
  rintro e w4 ⟨rfl, n4, rfl⟩
  go_wp2_with fail
  refine (due_is (HB3.out.drewN _) 1 1 s3).mono ?_
  rintro e w5 ⟨rfl, n5, rfl⟩
  go_wp2_with fail
  refine (due_is (HB3.out.drewN _) 0 5 s4).mono ?_
  rintro e w6 ⟨rfl, n6, rfl⟩
  go_wp2_with fail
  refine (ack_is (HB3.out.drewN _) 1 2 40 0 s5).mono ?_
  rintro e w7 ⟨rfl, hb7, hu7⟩
  have HB7 := Lib.hid (show BoxAt w7 lo hi b sX2 from hb7)
  have HU7 := Lib.hid hu7
  have HE7 := Lib.hid ((below_drewN HE3.out _).trans (hu7.below (Nat.le_refl _) (by have := HE3.out.size; have := HLO.out; simp only [World.drewN] at *; omega)))
  have HR7 := Lib.hid (RowsAt.upd (w := (w2.alloc (.cells (flat sL1).toArray 34)).drewN _) HR3.out hu7)
  clear hb7 hu7
  go_wp2_with fail
  refine (due_is HB7.out 1 0 s6).mono ?_
  rintro e w8 ⟨rfl, n8, rfl⟩
  go_wp2_with fail
  refine (sent_is (HB7.out.drewN n8) 1 2 s7).mono ?_
  rintro e w9 ⟨rfl, rfl⟩
  go_wp2_with fail
  refine (plan_raw _ lo hi b sX2 20 0 _ smallEnds (by rw [← hev]; exact HR7.out) (HB7.out.drewN n8) (ack_ok HOK1.out (by omega) 1 2 40 0) (by omega)).mono ?_
  rintro e w10 ⟨u2, rfl, hown, hb10, hu10⟩
  have hsn := snds_of_own (l := sL2) (by decide) (by rw [s8] at hown; exact hown)
  have HE10 := Lib.hid ((below_drewN HE7.out n8).trans (hu10.below (Nat.le_refl _) (by have := HE7.out.size; have := HLO.out; simp only [World.drewN] at *; omega)))
  have HSN2 := Lib.hid hsn
  clear hown hb10 hu10 hsn
  go_wp2_with fail
  refine (same_true _ _ _ sL2 (HSN2.out.alloc _) (lit_snds w10 sL2 (by decide))).mono ?_
  rintro e w11 ⟨rfl, n11, rfl⟩
  go_wp2
  go_ret
  exact ⟨rfl, by rw [HLO.out]; exact below_drewN (HE10.out.alloc (by have := HE10.out.size; have := HLO.out; omega) _) _⟩
end Go.Proofs.Ythbnnifkoomokaa
