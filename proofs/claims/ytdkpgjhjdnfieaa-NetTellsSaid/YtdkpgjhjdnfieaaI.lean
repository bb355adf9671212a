/- The contract of copiedAct: a copy whose lists lie in new memory. Condition: the lists read as rows. -/
import Derived.Test.YtdkpgjhjdnfieaaH
import Derived.Deep.RegionHeld3
import Derived.Deep.MidRow
namespace Go.Proofs.Ytdkpgjhjdnfieaa
open Go.RowKit Go.Mf
set_option maxRecDepth 100000

theorem RowsIn.below {w w' : World} {S : Nat → Prop} {sz bt : Nat} {v : Value} {n : Nat} {xs : List Value} {B : Nat} (h : RowsIn w S sz bt v n xs) (hb : Below B w w') (hS : ∀ k, S k → k < B) : RowsIn w' S sz bt v n xs :=
  h.keep (fun _ h => h) (fun k hk _ => hb.block k (hS k hk))

theorem RowsIn.of_own' {w w' : World} {base : Nat} {e : TypeId} {S : Nat → Prop} {sz bt : Nat} {v v0 : Value} {n : Nat} {xs : List Value} (h0 : RowsIn w S sz bt v0 n xs) (h : w'.ownsRow base e sz v n xs) : RowsIn w' (fun k => base ≤ k ∧ k < w'.heap.size ∧ Thaw w' k) sz bt v n xs := by
  obtain ⟨_, _, _, _, h3, h4, h5, _⟩ := h0
  exact RowsIn.of_own h h3 h4 h5

structure ActD where
  sc : List Value
  nt : Nat
  tos : List Value
  nw : Nat
  wr : List Value

def nilS : Value := .slice none 0 0
def ActIn (w : World) (S : Nat → Prop) (cs : List Value) (A : ActD) : Prop :=
  cs.length = 20 ∧ (∀ u ∈ cs, u.oneCell' = true) ∧ (cs.set 9 nilS).set 15 nilS = A.sc ∧ ∃ v1 v2, cs[9]? = some v1 ∧ cs[15]? = some v2 ∧ RowsIn w S 1 16 v1 A.nt A.tos ∧ RowsIn w S 5 64 v2 A.nw A.wr

theorem und86 : ∃ fs, Try.prog.underlying 86 = some (.struct fs) := ⟨_, rfl⟩
theorem size86 : (Try.prog.info? 86).map (·.size) = some 20 := by kernel_rfl
theorem cell_at {w : World} {g j : Nat} {cs : List Value} {t : TypeId} {fr : Nat × Nat} {v : Value} (h : w.heap[g]? = some (.cells cs.toArray t fr)) (hv : cs[j]? = some v) : w.cell? ⟨g, j, none⟩ = some v := by
  rw [cell_of_block h]; simpa using hv
theorem below_undrew {B : Nat} {w w' : World} (h : Below B w.drew w') : Below B w w' := ⟨h.os, h.tape, h.output, h.size, h.block⟩
theorem block_up {W w1 : World} {g B : Nat} {o : Obj} (hb : Below B W w1) (h : W.heap[g]? = some o) (hB : g < B) : w1.heap[g]? = some o := (hb.block _ hB).trans h
def ActPost (w : World) (A : ActD) : Ending → World → Prop := fun e w' =>
  ∃ cs', e = .returned (.agg cs'.toArray) ∧ ActIn w' (fun k => w.heap.size ≤ k ∧ k < w'.heap.size ∧ Thaw w' k) cs' A ∧ Below w.heap.size w w'

theorem putL_all {cs zs : List Value} (h : cs.length = zs.length) : putL zs.toArray 0 cs = cs.toArray := by
  apply Array.toList_inj.1
  rw [putL_list _ _ _ (by simp; omega)]
  simp [h]
theorem there_block {w : World} {g : Nat} {zs : List Value} {t : TypeId} (h : w.heap[g]? = some (.cells zs.toArray t (0, 0))) : w.there g 0 zs.length := fun j hj => by
  rw [Nat.zero_add]
  exact ⟨by rw [cell_of_block h]; simp [hj], frozen_of_block h _⟩
theorem all_set {p : Value → Prop} {cs : List Value} (h : ∀ u ∈ cs, p u) (i : Nat) {v : Value} (hv : p v) : ∀ u ∈ cs.set i v, p u := fun u hu => by
  rcases List.mem_or_eq_of_mem_set hu with h1 | h1
  · exact h u h1
  · subst h1; exact hv

theorem act_fin {w W w1 w2 W3 : World} {cs cs' : List Value} {A : ActD} {a1 a2 : Option Addr} {c1 c2 : Nat} (h0 : cs.length = 20) (h1 : ∀ u ∈ cs, u.oneCell' = true) (h2 : (cs.set 9 nilS).set 15 nilS = A.sc) (hsz : W.heap.size = w.heap.size + 2) (hbw : Below w.heap.size w W) {S : Nat → Prop} {v1 v2 : Value} (h5 : RowsIn W S 1 16 v1 A.nt A.tos) (h6 : RowsIn W S 5 64 v2 A.nw A.wr)
    (hb1 : W.heap[w.heap.size + 1]? = some (.cells zAct.toArray 86 (0, 0))) (hl1 : Below W.heap.size W w1) (hl2 : Below w1.heap.size w1 w2) (ho1 : w1.ownsRow W.heap.size 9 1 (.slice a1 A.nt c1) A.nt A.tos)
    (ho2 : w2.ownsRow w1.heap.size 99 5 (.slice a2 A.nw c2) A.nw A.wr) (hcs : cs' = (cs.set 9 (.slice a1 A.nt c1)).set 15 (.slice a2 A.nw c2)) (hW : W3 = (w2.setCell ⟨w.heap.size, 9, none⟩ (.slice a1 A.nt c1)).setCell ⟨w.heap.size, 15, none⟩ (.slice a2 A.nw c2)) :
    W3.there (w.heap.size + 1) 0 cs'.toArray.size ∧ (∀ u ∈ cs', u.oneCell' = true) ∧ (W3.setCells (w.heap.size + 1) 0 cs').heap[w.heap.size + 1]? = some (.cells cs'.toArray 86 (0, 0)) ∧ ActPost w A (.returned (.agg cs'.toArray)) (W3.setCells (w.heap.size + 1) 0 cs') := by
  have hz : zAct.length = 20 := rfl
  have hln : cs'.length = 20 := by rw [hcs]; simpa using h0
  have hon : ∀ u ∈ cs', u.oneCell' = true := by rw [hcs]; exact all_set (all_set h1 9 (v := .slice a1 A.nt c1) rfl) 15 (v := .slice a2 A.nw c2) rfl
  have hs1 := hl1.size
  have hs2 := hl2.size
  have e3 : ∀ k, k ≠ w.heap.size → W3.heap[k]? = w2.heap[k]? := fun k hk => by rw [hW, Below.heap_setCell _ _ _ _ hk, Below.heap_setCell _ _ _ _ hk]
  have hsz3 : W3.heap.size = w2.heap.size := by rw [hW]; simp
  have g3 : W3.heap[w.heap.size + 1]? = some (.cells zAct.toArray 86 (0, 0)) := by
    rw [e3 _ (by omega), hl2.block _ (by omega), hl1.block _ (by omega), hb1]
  have ho := (Only.refl (w.heap.size + 1) W3).setCells cs' 0
  obtain ⟨F, hF⟩ : ∃ F, F = W3.setCells (w.heap.size + 1) 0 cs' := ⟨_, rfl⟩
  have hg := setCells_heap cs' 0 g3
  rw [putL_all (by rw [hln, hz])] at hg
  rw [← hF] at ho hg ⊢
  have hkeep : ∀ k, W.heap.size ≤ k → F.heap[k]? = w2.heap[k]? := fun k hk => by rw [ho.block _ (by omega), e3 _ (by omega)]
  have hFs : F.heap.size = w2.heap.size := by rw [ho.size, hsz3]
  have r1 := (RowsIn.of_own' h5 ho1).keep (w' := F) (S' := fun k => w.heap.size ≤ k ∧ k < F.heap.size ∧ Thaw F k) (fun k hk => ⟨by omega, by omega, Thaw.of (by rw [hkeep _ hk.1, hl2.block _ hk.2.1]) hk.2.2⟩) (fun k hk _ => by rw [hkeep _ hk.1, hl2.block _ hk.2.1])
  have r2 := (RowsIn.of_own' h6 ho2).keep (w' := F) (S' := fun k => w.heap.size ≤ k ∧ k < F.heap.size ∧ Thaw F k) (fun k hk => ⟨by omega, by omega, Thaw.of (by rw [hkeep _ (by omega)]) hk.2.2⟩) (fun k hk _ => by rw [hkeep _ (by omega)])
  refine ⟨?_, hon, hg, cs', rfl, ⟨hln, hon, ?_, _, _, ?_, ?_, r1, r2⟩, ?_⟩
  · have := there_block g3; rw [hz] at this; rw [show cs'.toArray.size = 20 by rw [List.size_toArray, hln]]; exact this
  · rw [hcs, ← h2]
    apply List.ext_getElem
    · simp
    · intro i q1 q2
      simp only [List.getElem_set]
      by_cases e1 : 15 = i <;> by_cases e2 : 9 = i <;> simp [e1, e2]
  · rw [hcs]; simp [h0]
  · rw [hcs]; simp [h0]
  · have hbw2 : Below w.heap.size w w2 := (hbw.trans (hl1.mono (by omega))).trans (hl2.mono (by omega))
    refine ⟨ho.os.trans ?_, ho.tape.trans ?_, ho.output.trans ?_, by omega, fun k hk => ?_⟩
    · rw [hW]; exact hbw2.os
    · rw [hW]; exact hbw2.tape
    · rw [hW]; exact hbw2.output
    · rw [ho.block _ (by omega), e3 _ (by omega)]; exact hbw2.block _ hk

set_option maxHeartbeats 400000 in
set_option maxRecDepth 100000 in
theorem copiedAct_any (w : World) (S : Nat → Prop) (cs : List Value) (A : ActD) (h : ActIn w S cs A) (hS : ∀ k, S k → k < w.heap.size) : Calls Try.prog 49 #[.agg cs.toArray] w (ActPost w A) := by
  obtain ⟨h0, h1, h2, v1, v2, h3, h4, h5, h6⟩ := h
  obtain ⟨W, hW⟩ : ∃ W, W = (w.alloc (.cells cs.toArray 86)).alloc (.cells zAct.toArray 86) := ⟨_, rfl⟩
  have hb0 : W.heap[w.heap.size]? = some (.cells cs.toArray 86 (0, 0)) := by rw [hW]; exact heap_alloc2_old w _ _
  have hb1 : W.heap[w.heap.size + 1]? = some (.cells zAct.toArray 86 (0, 0)) := by rw [hW]; exact heap_alloc2_new w _ _
  have hsz : W.heap.size = w.heap.size + 2 := by rw [hW]; simp
  have hbw : Below w.heap.size w W := by rw [hW]; exact ((Below.refl _ w).alloc (Nat.le_refl _) _).alloc (by simp) _
  have c9 : W.cell? ⟨w.heap.size, 9, none⟩ = some v1 := by rw [cell_of_block hb0]; simpa using h3
  have c15 : W.cell? ⟨w.heap.size, 15, none⟩ = some v2 := by rw [cell_of_block hb0]; simpa using h4
  have f9 : W.frozen? ⟨w.heap.size, 9, none⟩ = false := frozen_of_block hb0 _
  have f15 : W.frozen? ⟨w.heap.size, 15, none⟩ = false := frozen_of_block hb0 _
  have H5 : Hid (RowsIn W S 1 16 v1 A.nt A.tos) := h5.below hbw hS
  have H6 : Hid (RowsIn W S 5 64 v2 A.nw A.wr) := h6.below hbw hS
  have HW : Hid (W = (w.alloc (.cells cs.toArray 86)).alloc (.cells zAct.toArray 86)) := hW
  have HS := Lib.hid hS
  have H1 := Lib.hid h1
  have H2 := Lib.hid h2
  have H0 := Lib.hid h0
  have H3 := Lib.hid h3
  have H4 := Lib.hid h4
  have HB0 := Lib.hid hb0
  have HB1 := Lib.hid hb1
  have HSZ := Lib.hid hsz
  have HBW := Lib.hid hbw
  clear h0 h1 h2 h3 h4 h5 h6 hS hb0 hb1 hsz hbw hW
  obtain ⟨fs86, hu86⟩ := und86
  go_enter Try.func49, Try.ntmps49
  go_wp2
  change Code.wp _ _ _ _ ((w.alloc (.cells cs.toArray 86)).alloc (.cells zAct.toArray 86))
  rw [← HW.out]
  clear HW
  have HLT : w.heap.size < W.heap.size := by rw [HSZ.out]; omega
  go_region_with (first
    | (go_at_call 50; refine (clone50_any _ S v1 A.nt A.tos ?pre).mono ?_; (case pre => exact H5.out.keep (fun _ h => h) (fun k hk _ => rfl)); rintro e w1 ⟨v1', rfl, hown1, hbel1⟩; obtain ⟨a1, c1, rfl⟩ := ownsRow_shape hown1; have HL1 : Hid (Below W.heap.size W w1) := below_undrew hbel1; have g1 := block_up HL1.out HB0.out HLT; have c15a := cell_at g1 H4.out; have HO1 : Hid (w1.ownsRow W.heap.size 9 1 (.slice a1 A.nt c1) A.nt A.tos) := hown1; clear g1 hbel1 hown1)
    | (go_at_call 51; refine (clone51_any _ S v2 A.nw A.wr ?pre).mono ?_; (case pre => exact H6.out.below (HL1.out.mono (Nat.le_of_lt HLT)) HS.out); rintro e w2 ⟨v2', rfl, hown2, hbel2⟩; obtain ⟨a2, c2, rfl⟩ := ownsRow_shape hown2; have g2 := block_up hbel2 (block_up HL1.out HB0.out HLT) (Nat.lt_of_lt_of_le HLT HL1.out.size); have c9b := cell_at g2 H3.out; have c15b := cell_at g2 H4.out; have f9b : w2.frozen? ⟨w.heap.size, 9, none⟩ = false := frozen_of_block g2 _; have f15b : w2.frozen? ⟨w.heap.size, 15, none⟩ = false := frozen_of_block g2 _; have HG2 := Lib.hid g2; have HO2 := Lib.hid hown2; have HL2 := Lib.hid hbel2; clear hown2 hbel2 g2))
  all_goals
    obtain ⟨cs', hcs'⟩ : ∃ cs', cs' = (cs.set 9 (.slice a1 A.nt c1)).set 15 (.slice a2 A.nw c2) := ⟨_, rfl⟩
    obtain ⟨W3, hW3⟩ : ∃ W3, W3 = (w2.setCell ⟨w.heap.size, 9, none⟩ (.slice a1 A.nt c1)).setCell ⟨w.heap.size, 15, none⟩ (.slice a2 A.nw c2) := ⟨_, rfl⟩
    have g3 : W3.heap[w.heap.size]? = some (.cells cs'.toArray 86 (0, 0)) := by
      rw [hW3, hcs']; have := setCell_block (setCell_block HG2.out 9 (.slice a1 A.nt c1)) 15 (.slice a2 A.nw c2); simpa using this
    have hln : cs'.length = 20 := by rw [hcs']; simpa using H0.out
    have hfin := act_fin H0.out H1.out H2.out HSZ.out HBW.out H5.out H6.out HB1.out HL1.out HL2.out HO1.out HO2.out hcs' hW3
    rw [← hW3]
    clear c9b c15b f9b f15b hW3 hcs'
    have HG3 := Lib.hid g3
    have HLN := Lib.hid hln
    have HFIN := Lib.hid hfin.2.2
    have HTH := Lib.hid hfin.1
    have HON := Lib.hid hfin.2.1
    clear g3 hfin hln
    go_wp2_with (first
      | (refine wpList_load_row rfl 86 _ rfl w.heap.size rfl 86 cs'.toArray (0, 0) _ HG3.out hu86 rfl ?i1 ?_; (case i1 => rw [List.size_toArray, HLN.out]; exact size86))
      | (refine wpList_store_mid rfl 86 _ _ rfl (w.heap.size + 1) 0 cs'.toArray rfl rfl ?i2 ?i3 ?i4 ?_; (case i2 => exact HTH.out); (case i3 => rw [List.size_toArray, HLN.out]; exact size86); (case i4 => exact all_oneCell_toArray HON.out)))
    exact bodyPost_ret (v := .agg cs'.toArray) (results_cell_row rfl _ _ (w.heap.size + 1) 86 cs'.toArray (0, 0) _ rfl HFIN.out.1 hu86 rfl (by rw [List.size_toArray, HLN.out]; exact size86)) rfl HFIN.out.2
end Go.Proofs.Ytdkpgjhjdnfieaa
