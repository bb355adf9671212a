/- The contract of remove: the message at an index is handed back and taken out of its queue. Condition: the queue lies in memory as stated, the index is in range. -/
import Derived.Test.YtdkpgjhjdnfieaaM
set_option linter.unusedVariables false
set_option linter.unusedSimpArgs false
namespace Go.Proofs.Ytdkpgjhjdnfieaa
open Go.RowKit Go.Mf
set_option maxRecDepth 100000

def RemPost (w : World) (r o : Nat) (rc : Array Value) (v : Value) (l : List (List Value)) (i : Nat) (m : List Value) : Ending → World → Prop := fun e w' =>
  ∃ (g cap : Nat), e = .returned (.agg m.toArray) ∧ w'.heap[r]? = some (.cells (rc.setIfInBounds o (.slice (some ⟨g, 0, none⟩) (l.length - 1 : Nat) cap)) 77 (0, 0)) ∧
    w'.ownsRow 0 42 34 (.slice (some ⟨g, 0, none⟩) (l.length - 1 : Nat) cap) (l.length - 1) (l.eraseIdx i).flatten ∧ v.ownBlock = some g ∧
    w'.os = w.os ∧ w'.tape = w.tape ∧ w'.output = w.output ∧ w.heap.size ≤ w'.heap.size ∧ ∀ k, k < w.heap.size → k ≠ r → some k ≠ v.ownBlock → w'.heap[k]? = w.heap[k]?

theorem rem_fin {w W w2 W3 : World} {r o g cap i : Nat} {rc : Array Value} {l : List (List Value)} {m : List Value} {cur' : Array Value} (hr : w.heap[r]? = some (.cells rc 77 (0, 0))) (hrg : r ≠ g) (hg0 : g < w.heap.size) (hm : m.length = 34) (hok : MsgsOk l) (hi : i < l.length) (hcap : cap ≤ maxLen) (hnc : l.length ≤ cap)
    (hWs : W.heap.size = w.heap.size + 2) (hW : Below w.heap.size w W) (hW0 : W.heap[w.heap.size]? = some (.cells zMsg.toArray 42 (0, 0))) (hW1 : W.heap[w.heap.size + 1]? = some (.cells m.toArray 42 (0, 0)))
    (ho : Only g W w2) (hc : w2.heap[g]? = some (.cells cur' 42 (0, 0))) (hcs : cur'.size = cap * 34) (hct : cur'.toList.take ((l.length - 1) * 34) = (l.eraseIdx i).flatten)
    (h3 : W3 = w2.setCell ⟨r, o, none⟩ (.slice (some ⟨g, 0, none⟩) (l.length - 1 : Nat) cap)) :
    w2.heap[r]? = some (.cells rc 77 (0, 0)) ∧ W3.heap[w.heap.size + 1]? = some (.cells m.toArray 42 (0, 0)) ∧ W3.there w.heap.size 0 34 ∧ (W3.setCells w.heap.size 0 m).heap[w.heap.size]? = some (.cells m.toArray 42 (0, 0)) ∧
      RemPost w r o rc (.slice (some ⟨g, 0, none⟩) l.length cap) l i m (.returned (.agg m.toArray)) (W3.setCells w.heap.size 0 m) := by
  have hz : zMsg.length = 34 := rfl
  have hrl := (Array.getElem?_eq_some_iff.1 hr).1
  have h2r : w2.heap[r]? = some (.cells rc 77 (0, 0)) := by rw [ho.block _ hrg, hW.block _ hrl]; exact hr
  have e3 : ∀ k, k ≠ r → W3.heap[k]? = w2.heap[k]? := fun k hk => by rw [h3, Below.heap_setCell _ _ _ _ hk]
  have g0 : W3.heap[w.heap.size]? = some (.cells zMsg.toArray 42 (0, 0)) := by rw [e3 _ (by omega), ho.block _ (by omega)]; exact hW0
  have g1 : W3.heap[w.heap.size + 1]? = some (.cells m.toArray 42 (0, 0)) := by rw [e3 _ (by omega), ho.block _ (by omega)]; exact hW1
  have hone := (Only.refl w.heap.size W3).setCells m 0
  have hgF := setCells_heap m 0 g0
  rw [putL_all (by rw [hm, hz])] at hgF
  obtain ⟨F, hF⟩ : ∃ F, F = W3.setCells w.heap.size 0 m := ⟨_, rfl⟩
  rw [← hF] at hone hgF ⊢
  have hth := there_block g0
  have hs3 : W3.heap.size = w2.heap.size := by rw [h3]; simp
  have hgg : F.heap[g]? = some (.cells cur' 42 (0, 0)) := by rw [hone.block _ (by omega), e3 _ (Ne.symm hrg)]; exact hc
  refine ⟨h2r, g1, hth, hgF, g, cap, rfl, ?_, ⟨?_, .inr ⟨g, cap, cur', rfl, Nat.zero_le _, hgg, by omega, hcap, hcs, hct⟩⟩, rfl, ?_, ?_, ?_, ?_, ?_⟩
  · rw [hone.block _ (by omega), h3]; exact setCell_block h2r _ _
  · rw [← hct, List.length_take]
    have h1 : cur'.toList.length = cap * 34 := by simpa using hcs
    rw [h1]
    apply Nat.min_eq_left
    exact Nat.mul_le_mul_right _ (by omega)
  · rw [hone.os, h3]; show w2.os = w.os; rw [ho.os, hW.os]
  · rw [hone.tape, h3]; show w2.tape = w.tape; rw [ho.tape, hW.tape]
  · rw [hone.output, h3]; show w2.output = w.output; rw [ho.output, hW.output]
  · have := hone.size; have := ho.size; omega
  · intro k hk hkr hkg
    have : k ≠ g := fun e => hkg (by rw [e]; rfl)
    rw [hone.block _ (by omega), e3 _ hkr, ho.block _ this]; exact hW.block _ hk

set_option maxHeartbeats 1000000 in
theorem remove_any (w : World) (r o : Nat) (rc : Array Value) (v : Value) (l : List (List Value)) (m : List Value) (i : Nat) (hok : MsgsOk l) (hown : w.ownsRow 0 42 34 v l.length l.flatten) (hr : w.heap[r]? = some (.cells rc 77 (0, 0))) (hrc : rc[o]? = some v)
    (hi : l[i]? = some m) : Calls Try.prog 41 #[.pointer (some ⟨r, o, none⟩), .int .i64 i] w (RemPost w r o rc v l i m) := by
  obtain ⟨hil, hie⟩ := List.getElem?_eq_some_iff.1 hi
  have hml := hok m (List.mem_of_getElem? hi)
  have hne := own_ne hown hr
  have hcell := fun g hg => hown.cells (g := g) hg
  rcases hown.2 with ⟨h1, h2⟩ | ⟨g, cap, cur, h1, h2, hg, hnc, hcap, hsz, htk⟩
  · omega
  subst h1
  obtain ⟨n, hn⟩ : ∃ n, n = l.length := ⟨_, rfl⟩
  have hrg : r ≠ g := fun e => hne (by rw [e]; rfl)
  have hgw := (Array.getElem?_eq_some_iff.1 hg).1
  have hrw := (Array.getElem?_eq_some_iff.1 hr).1
  obtain ⟨fs42, hu42⟩ := und42
  obtain ⟨W0, hW0⟩ : ∃ W, W = w.alloc (.cells zMsg.toArray 42) := ⟨_, rfl⟩
  have hs0 : W0.heap.size = w.heap.size + 1 := by rw [hW0]; simp
  have b0 : W0.heap[w.heap.size]? = some (.cells zMsg.toArray 42 (0, 0)) := by rw [hW0]; exact heap_alloc_new w _
  have old0 : ∀ k, k < w.heap.size → W0.heap[k]? = w.heap[k]? := fun k hk => by rw [hW0]; exact Below.heap_alloc w _ _ hk
  have cq0 : W0.cell? ⟨r, o, none⟩ = some (.slice (some ⟨g, 0, none⟩) l.length cap) := cell_at_arr ((old0 r hrw).trans hr) hrc
  have hrng : W0.rangeAt g (i * 34) m := fun j u hu => by
    have hj : j < 34 := by rw [← hml.1]; exact (List.getElem?_eq_some_iff.1 hu).1
    have := hcell g rfl (i * 34 + j) u (by rw [flat_get (m := 34) (fun x hx => (hok x hx).1) hi hj]; exact hu)
    rw [Addr.add_lit, Nat.zero_add] at this
    rw [← this]
    exact World.cell?_of_block (old0 g hgw)
  obtain ⟨W, hW⟩ : ∃ W, W = (W0.alloc (.cells zMsg.toArray 42)).setCells (w.heap.size + 1) 0 m := ⟨_, rfl⟩
  have hth1 : (W0.alloc (.cells zMsg.toArray 42)).there (w.heap.size + 1) 0 34 := by
    have : (W0.alloc (.cells zMsg.toArray 42)).heap[w.heap.size + 1]? = some (.cells zMsg.toArray 42 (0, 0)) := by rw [← hs0]; exact heap_alloc_new W0 _
    exact there_block this
  have hone := (Only.refl (w.heap.size + 1) (W0.alloc (.cells zMsg.toArray 42))).setCells m 0
  rw [← hW] at hone
  have hWs : W.heap.size = w.heap.size + 2 := by rw [hone.size]; simp [hs0]
  have hW1 : W.heap[w.heap.size + 1]? = some (.cells m.toArray 42 (0, 0)) := by
    rw [hW]
    have := setCells_heap m 0 (show (W0.alloc (.cells zMsg.toArray 42)).heap[w.heap.size + 1]? = some (.cells zMsg.toArray 42 (0, 0)) by rw [← hs0]; exact heap_alloc_new W0 _)
    rwa [putL_all (by rw [hml.1]; rfl)] at this
  have oldW : ∀ k, k < w.heap.size → W.heap[k]? = w.heap[k]? := fun k hk => by rw [hone.block _ (by omega), Below.heap_alloc _ _ _ (by omega), old0 k hk]
  have hW0' : W.heap[w.heap.size]? = some (.cells zMsg.toArray 42 (0, 0)) := by rw [hone.block _ (by omega), Below.heap_alloc _ _ _ (by omega)]; exact b0
  have hWB : Below w.heap.size w W := ⟨by rw [hone.os, hW0]; rfl, by rw [hone.tape, hW0]; rfl, by rw [hone.output, hW0]; rfl, by omega, oldW⟩
  have cq1 : W.cell? ⟨r, o, none⟩ = some (.slice (some ⟨g, 0, none⟩) l.length cap) := cell_at_arr ((oldW r hrw).trans hr) hrc
  have hdel := delete_msg W g cap l.length i (i + 1) rfl l cur ((oldW g hgw).trans hg) hsz rfl htk hok hil hnc (by simpa [maxLen] using hcap)
  have hle : l.length ≤ 9223372036854775807 := by simp only [maxLen] at hcap; omega
  have HDEL := Lib.hid hdel
  have HML := Lib.hid hml.1
  have HM1 := Lib.hid hml.2
  have HRNG := Lib.hid hrng
  have HTH1 := Lib.hid hth1
  have HWS := Lib.hid hWs
  have HWB := Lib.hid hWB
  have HW0' := Lib.hid hW0'
  have HW1 := Lib.hid hW1
  have HR := Lib.hid hr
  have HRC := Lib.hid hrc
  have HOK := Lib.hid hok
  have HCAP := Lib.hid hcap
  have HW0 : Hid (W0 = w.alloc (.cells zMsg.toArray 42)) := hW0
  have HW : Hid (W = (W0.alloc (.cells zMsg.toArray 42)).setCells (w.heap.size + 1) 0 m) := hW
  have HS0 : Hid (W0.heap.size = w.heap.size + 1) := hs0
  clear hn hi hie hml hne hcell h2 hg htk hsz b0 old0 hrng hth1 hone hWs hW1 oldW hW0' hWB hdel hr hrc hok hcap hW0 hW hown hs0
  clear n
  go_enter Try.func41, Try.ntmps41
  go_upto_region 1 with fail
  change Code.wp _ _ _ _ (w.alloc (.cells zMsg.toArray 42))
  rw [← HW0.out]
  go_upto_region 2 with (first
    | (refine wpList_load_mid rfl 42 _ rfl g (i * 34) rfl m _ HRNG.out hu42 rfl ?i1 ?_; (case i1 => rw [HML.out]; exact size42))
    | (rw [HS0.out]; refine wpList_store_mid rfl 42 _ _ rfl (w.heap.size + 1) 0 m.toArray rfl rfl ?i2 ?i3 ?i4 ?_; (case i2 => rw [show m.toArray.size = 34 from by simpa using HML.out]; exact HTH1.out); (case i3 => rw [show m.toArray.size = 34 from by simpa using HML.out]; exact size42); (case i4 => exact all_oneCell_toArray HM1.out)))
  change Code.wp _ _ _ _ ((W0.alloc (.cells zMsg.toArray 42)).setCells (w.heap.size + 1) 0 m)
  rw [← HW.out]
  clear HW HW0 HS0 HTH1 HRNG cq0
  go_wp2_with fail
  refine HDEL.out.mono ?_
  rintro e w2 ⟨rfl, ho, cur', hc, hcs, hct⟩
  obtain ⟨W3, hW3⟩ : ∃ W3, W3 = w2.setCell ⟨r, o, none⟩ (.slice (some ⟨g, 0, none⟩) (l.length - 1 : Nat) cap) := ⟨_, rfl⟩
  have hfin := rem_fin (i := i) (o := o) HR.out hrg hgw HML.out HOK.out hil HCAP.out hnc HWS.out HWB.out HW0'.out HW1.out ho hc hcs hct hW3
  obtain ⟨z1, z2, z3, z4, z5⟩ := hfin
  have c3 := cell_at_arr z1 HRC.out
  have f3 : w2.frozen? ⟨r, o, none⟩ = false := frozen_of_block z1 _
  have Z2 := Lib.hid z2
  have Z3 := Lib.hid z3
  have Z4 := Lib.hid z4
  have Z5 := Lib.hid z5
  have HW3 : Hid (W3 = w2.setCell ⟨r, o, none⟩ (.slice (some ⟨g, 0, none⟩) (l.length - 1 : Nat) cap)) := hW3
  clear ho hc hcs hct hW3 z1 z2 z3 z4 z5 HDEL
  go_upto_region 3 with fail
  change Code.wp _ _ _ _ (w2.setCell ⟨r, o, none⟩ (.slice (some ⟨g, 0, none⟩) (l.length - 1 : Nat) cap))
  rw [← HW3.out]
  have HMS : Hid (m.toArray.size = 34) := by show m.toArray.size = 34; simpa using HML.out
  go_wp2_with (first
    | (refine wpList_load_row rfl 42 _ rfl (w.heap.size + 1) rfl 42 m.toArray (0, 0) _ Z2.out hu42 rfl ?i1 ?_; (case i1 => rw [HMS.out]; exact size42))
    | (refine wpList_store_mid rfl 42 _ _ rfl w.heap.size 0 m.toArray rfl rfl ?i2 ?i3 ?i4 ?_; (case i2 => rw [HMS.out]; exact Z3.out); (case i3 => rw [HMS.out]; exact size42); (case i4 => exact all_oneCell_toArray HM1.out)))
  exact bodyPost_ret (v := .agg m.toArray) (results_cell_row rfl _ _ w.heap.size 42 m.toArray (0, 0) _ rfl Z4.out hu42 rfl (by rw [HMS.out]; exact size42)) rfl Z5.out
end Go.Proofs.Ytdkpgjhjdnfieaa
