/- The contract of Ack where it returns true. Condition: the box lies in memory as stated. -/
import Derived.Test.YthbnnifkoomokaaC
set_option linter.unusedVariables false
set_option linter.unusedSimpArgs false
namespace Go.Proofs.Ythbnnifkoomokaa
open Go.RowKit Go.Mf

/-- what an acknowledgement that counts leaves -/
structure AckPost (w : World) (bs pb : Nat) (f : Int × Int → Option Value) (k l size now : Int) (w' : World) : Prop where
  map : MapFn w' bs encPl (fun j => if j = (k, l) then some (.int .i64 size) else f j)
  peer : w'.heap[pb]? = some (.cells #[.int .i64 (clamp now 0 1099511627776), .int .i64 0] 53 (0, 0))
  os : w'.os = w.os
  tape : w'.tape = w.tape
  output : w'.output = w.output
  size : w.heap.size ≤ w'.heap.size
  block : ∀ j, j < w.heap.size → j ≠ bs → j ≠ pb → w'.heap[j]? = w.heap[j]?

def AckIs (w : World) (bs pb : Nat) (f : Int × Int → Option Value) (k l size now : Int) : Ending → World → Prop :=
  fun e w' => e = .returned (.bool true) ∧ AckPost w bs pb f k l size now w'

theorem ack_post {w : World} {bs pb : Nat} {f : Int × Int → Option Value} {k l size now due un : Int} (hpb : w.heap[pb]? = some (.cells #[.int .i64 due, .int .i64 un] 53 (0, 0)))
    (o : Obj) (n : Nat) {w1 : World} (h1 : MapFn w1 bs encPl (fun j => if j = (k, l) then some (.int .i64 size) else f j)) (h2 : ((w.alloc o).drewN n).grownBy w1 (some bs)) (hne : pb ≠ bs) :
    AckPost w bs pb f k l size now ((w1.setCell ⟨pb, 0, none⟩ (.int .i64 (clamp now 0 1099511627776))).setCell ⟨pb, 1, none⟩ (.int .i64 0)) := by
  have hlt : pb < w.heap.size := (Array.getElem?_eq_some_iff.1 hpb).1
  have e0 : w1.heap[pb]? = some (.cells #[.int .i64 due, .int .i64 un] 53 (0, 0)) := by
    rw [h2.block pb (by simp [World.drewN]; omega) (by simpa using hne)]
    exact (Below.heap_alloc w o pb hlt).trans hpb
  have e1 := setCell_block e0 0 (.int .i64 (clamp now 0 1099511627776))
  have e2 := setCell_block e1 1 (.int .i64 0)
  exact {
    map := h1.of_heap (by rw [Below.heap_setCell _ _ _ _ (Ne.symm hne), Below.heap_setCell _ _ _ _ (Ne.symm hne)])
    peer := by rw [e2]; rfl
    os := h2.os
    tape := h2.tape
    output := h2.output
    size := by
      have := h2.size
      simp [World.drewN] at this ⊢; omega
    block := fun j hj n1 n2 => by
      rw [Below.heap_setCell _ _ _ _ n2, Below.heap_setCell _ _ _ _ n2, h2.block j (by simp [World.drewN]; omega) (by simpa using n1)]
      exact Below.heap_alloc w o j hj }

set_option maxHeartbeats 400000 in
theorem ack_yes (w : World) (b bp bs pb : Nat) (k l size now n s due un : Int) (hc : w.cell? ⟨b,3,none⟩ = some (.map (some bp))) (hbw : b < w.heap.size)
   (hn : w.cell? ⟨b,1,none⟩ = some (.int .i64 n)) (hsb : w.cell? ⟨b,4,none⟩ = some (.map (some bs)))
   (hl : (Instr.lookup 47 (.map (some bp)) (.int .i64 k) true).run Try.prog w = .ok (.tuple #[.pointer (some ⟨pb, 0, none⟩), .bool true]) w)
   (hls : ∀ m, (Instr.lookup 48 (.map (some bs)) (.agg #[.int .i64 k, .int .i64 l]) false).run Try.prog ((w.alloc (.cells #[.int .i64 k, .int .i64 l] 55)).drewN m) = .ok (.int .i64 s) ((w.alloc (.cells #[.int .i64 k, .int .i64 l] 55)).drewN m))
   (f : Int × Int → Option Value) (hm : MapFn w bs encPl f) (hpb : w.heap[pb]? = some (.cells #[.int .i64 due, .int .i64 un] 53 (0, 0))) (hne : pb ≠ bs)
   (h1 : 0 ≤ l) (h2 : l < n) (h3 : (l == k) = false) (h4 : s < size) :
   Calls Try.prog 13 #[.pointer (some ⟨b,0,none⟩), .int .i64 k, .int .i64 l, .int .i64 size, .int .i64 now] w (AckIs w bs pb f k l size now) := by
  have h1' : decide (l < 0) = false := by simpa using h1
  have h2' : decide (n ≤ l) = false := by simpa using h2
  have h4' : decide (size ≤ s) = false := by simpa using h4
  have hbs := hm.lt
  have HM := Lib.hid hm
  clear hm
  have HPB := Lib.hid hpb
  clear hpb
  have HNE := Lib.hid hne
  clear hne
  go_enter Try.func13, Try.ntmps13
  go_wp2
  go_quiet (fail)
  go_wp2
  refine wp_region_still_tail 6 (by kernel_rfl) (by kernel_rfl) ?_
  simp only [List.take_succ_cons, List.take_zero, List.drop_succ_cons, List.drop_zero, World.drew_eq, World.drew_drewN]
  repeat still_step
  refine wpStill_nil ?_
  refine wpList_mapUpdate_fn rfl _ _ _ rfl keyPl Try.underlying48 rfl (HM.out.of_heap (Below.heap_alloc _ _ _ hbs)) (k, l) rfl ?_
  intro w1 m1 m2 m3 m4
  have hp1 : w1.heap[pb]? = some (.cells #[.int .i64 due, .int .i64 un] 53 (0, 0)) := by
    have hlt : pb < w.heap.size := (Array.getElem?_eq_some_iff.1 HPB.out).1
    rw [m2.block pb (by simp [World.drewN]; omega) (by simpa using HNE.out)]
    exact (Below.heap_alloc w _ pb hlt).trans HPB.out
  have hd0 := cell_of_block hp1 0
  have hd1 := cell_of_block hp1 1
  have hf0 := frozen_of_block hp1 0
  have hf1 := frozen_of_block hp1 1
  have hpost := ack_post (k := k) (l := l) (size := size) (now := now) HPB.out _ _ m1 m2 HNE.out
  have HP := Lib.hid hpost
  have M1 := Lib.hid m1
  have M2 := Lib.hid m2
  clear hpost m1 m2 m3 m4 hls hl hp1
  go_wp2_with (go_at_call 18; refine (time_any _ _).mono ?_; rintro e w' ⟨rfl, rfl⟩)
  go_ret
  exact ⟨rfl, HP.out⟩
end Go.Proofs.Ythbnnifkoomokaa
