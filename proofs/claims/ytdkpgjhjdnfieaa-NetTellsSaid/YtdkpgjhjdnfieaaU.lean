/- The contracts of receipt and pick. No condition. -/
import Derived.Test.YtdkpgjhjdnfieaaT
set_option linter.unusedVariables false
set_option linter.unusedSimpArgs false
namespace Go.Proofs.Ytdkpgjhjdnfieaa
open Go.RowKit Go.Mf
set_option maxRecDepth 100000

def rcptM (a b n : Int) : MsgD := ⟨rcpt a b n, [], 0, []⟩
theorem rcpt_in (w : World) (S : Nat → Prop) (a b n : Int) : MsgIn w S (rcpt a b n) (rcptM a b n) := by
  refine ⟨rfl, List.all_eq_true.1 (show (rcpt a b n).all (·.oneCell') = true from rfl), rfl, .slice none 0 0, .slice none 0 0, rfl, rfl, ⟨none, 0, [], rfl, ?_, rfl, fun j cs E h => by simp at h, fun h => ?_⟩, ⟨none, 0, rfl, rfl, ?_, ?_, fun u hu => ?_, fun h => ?_⟩⟩
  · show 0 * 576 ≤ 140737488355328; omega
  · exact absurd h (Nat.lt_irrefl 0)
  · exact Nat.zero_le _
  · exact Nat.zero_le _
  · exact absurd hu List.not_mem_nil
  · exact absurd h (Nat.lt_irrefl 0)

theorem rcpt_all (a b n : Int) : (rcpt a b n).toArray.all (·.oneCell') = true := all_oneCell_toArray (List.all_eq_true.1 (show (rcpt a b n).all (·.oneCell') = true from rfl))
set_option maxHeartbeats 200000 in
theorem receipt_any (w : World) (a b n : Int) : Calls Try.prog 30 #[.int .i64 a, .int .i64 b, .int .i64 n] w fun e w' => e = .returned (.agg (rcpt a b n).toArray) ∧ Below w.heap.size w w' := by
  obtain ⟨W, hW⟩ : ∃ W, W = w.alloc (.cells zMsg.toArray 42) := ⟨_, rfl⟩
  have hb0 : W.heap[w.heap.size]? = some (.cells zMsg.toArray 42 (0, 0)) := by rw [hW]; exact heap_alloc_new w _
  have hbw : Below w.heap.size w W := by rw [hW]; exact (Below.refl _ w).alloc (Nat.le_refl _) _
  have hF := setCells_heap (rcpt a b n) 0 hb0
  rw [putL_all (by rfl)] at hF
  have ho := (Only.refl w.heap.size W).setCells (rcpt a b n) 0
  have hfin : Below w.heap.size w (W.setCells w.heap.size 0 (rcpt a b n)) := ⟨ho.os.trans hbw.os, ho.tape.trans hbw.tape, ho.output.trans hbw.output, by rw [ho.size]; exact hbw.size, fun k hk => by rw [ho.block k (by omega)]; exact hbw.block k hk⟩
  have HF := Lib.hid hF
  have HFIN := Lib.hid hfin
  have HTH := Lib.hid (there_block hb0)
  have HW : Hid (W = w.alloc (.cells zMsg.toArray 42)) := hW
  obtain ⟨fs42, hu42⟩ := und42
  clear hW hb0 hbw hF ho hfin
  go_enter Try.func30, Try.ntmps30
  go_upto_region 1 with fail
  change Code.wp _ _ _ _ (w.alloc (.cells zMsg.toArray 42))
  rw [← HW.out]
  have HTH' : Hid (W.there w.heap.size 0 34) := HTH.out
  clear HTH
  go_wp2_with (refine wpList_store_mid rfl 42 _ _ rfl w.heap.size 0 _ rfl rfl ?i2 ?i3 ?i4 ?_; (case i2 => exact HTH'.out); (case i3 => exact size42); (case i4 => exact rcpt_all a b n))
  change bodyPost _ _ _ _ _ (W.setCells w.heap.size 0 (rcpt a b n))
  exact bodyPost_ret (v := .agg (rcpt a b n).toArray) (results_cell_row rfl _ _ w.heap.size 42 (rcpt a b n).toArray (0, 0) _ rfl HF.out hu42 rfl size42) rfl ⟨rfl, HFIN.out⟩
end Go.Proofs.Ytdkpgjhjdnfieaa
