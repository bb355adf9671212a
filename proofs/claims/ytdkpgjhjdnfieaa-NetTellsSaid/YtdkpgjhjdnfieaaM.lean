/- The contract of add: a copy of the message behind the others. Condition: the queue and the message lie in memory as stated. -/
import Derived.Test.YtdkpgjhjdnfieaaL
import Derived.Deep.AppendLies
import Derived.Test.YtdkpgjhjdnfieaaRg
set_option linter.unusedVariables false
set_option linter.unusedSimpArgs false
namespace Go.Proofs.Ytdkpgjhjdnfieaa
open Go.RowKit Go.Mf
set_option maxRecDepth 100000
theorem fold_put : ∀ (cs : List Value) (k : Nat) (zs : Array Value), List.foldl (fun cs x => cs.setIfInBounds x.snd x.fst) zs (cs.zipIdx k) = putL zs k cs
  | [], k, zs => rfl
  | c :: cs, k, zs => by rw [List.zipIdx_cons, List.foldl_cons, fold_put cs]; rfl

theorem own_ne {w : World} {v : Value} {n : Nat} {xs : List Value} {r : Nat} {rc : Array Value} {fr : Nat × Nat} (h : w.ownsRow 0 42 34 v n xs) (hr : w.heap[r]? = some (.cells rc 77 fr)) : some r ≠ v.ownBlock := by
  intro e
  obtain ⟨cur, hc⟩ := own_block h e.symm
  rw [hr] at hc
  simp at hc

theorem cell_at_arr {w : World} {g j : Nat} {cs : Array Value} {t : TypeId} {fr : Nat × Nat} {v : Value} (h : w.heap[g]? = some (.cells cs t fr)) (hv : cs[j]? = some v) : w.cell? ⟨g, j, none⟩ = some v := by
  rw [cell_of_block h]; exact hv
def AddPost (w : World) (r o : Nat) (rc : Array Value) (v : Value) (n : Nat) (xs : List Value) (M : MsgD) : Ending → World → Prop := fun e w' =>
  ∃ (cs' : List Value) (g cap : Nat), e = .returned (.tuple #[]) ∧ w'.heap[r]? = some (.cells (rc.setIfInBounds o (.slice (some ⟨g, 0, none⟩) (n + 1) cap)) 77 (0, 0)) ∧
    w'.ownsRow 0 42 34 (.slice (some ⟨g, 0, none⟩) (n + 1) cap) (n + 1) (xs ++ cs') ∧ (v.ownBlock = some g ∨ w.heap.size ≤ g) ∧ g < w'.heap.size ∧
    MsgW w' (fun k => w.heap.size ≤ k ∧ k < w'.heap.size ∧ k ≠ g) cs' M ∧
    w'.os = w.os ∧ w'.tape = w.tape ∧ w'.output = w.output ∧ w.heap.size ≤ w'.heap.size ∧ ∀ k, k < w.heap.size → k ≠ r → some k ≠ v.ownBlock → w'.heap[k]? = w.heap[k]?

theorem add_fin {w W w1 w2 w3 : World} {r o g cap n : Nat} {rc : Array Value} {v : Value} {xs cs cs' : List Value} {M : MsgD} (hown : w.ownsRow 0 42 34 v n xs) (hr : w.heap[r]? = some (.cells rc 77 (0, 0))) (hW : W = w.alloc (.cells cs.toArray 42))
    (hb1 : Below W.heap.size W w1) (hM : MsgW w1 (fun k => W.heap.size ≤ k ∧ k < w1.heap.size) cs' M) (C : Array Value) (h2 : w2 = w1.alloc (.cells C 42)) (hg : w2.grownBy w3 v.ownBlock)
    (h3 : w3.ownsRow 0 42 34 (.slice (some ⟨g, 0, none⟩) (n + 1) cap) (n + 1) (xs ++ cs')) (hor : v.ownBlock = some g ∨ g = w2.heap.size) (hlt : g < w3.heap.size) :
    AddPost w r o rc v n xs M (.returned (.tuple #[])) (w3.setCell ⟨r, o, none⟩ (.slice (some ⟨g, 0, none⟩) (n + 1) cap)) ∧ w3.heap[r]? = some (.cells rc 77 (0, 0)) ∧ ∀ k, w.heap.size ≤ k → k < w1.heap.size → w3.heap[k]? = w1.heap[k]? := by
  have hrl := (Array.getElem?_eq_some_iff.1 hr).1
  have hWs : W.heap.size = w.heap.size + 1 := by rw [hW]; simp
  have hs1 := hb1.size
  have h2s : w2.heap.size = w1.heap.size + 1 := by rw [h2]; simp
  have hs3 := hg.size
  have hne := own_ne hown hr
  have hol : ∀ k, v.ownBlock = some k → k < w.heap.size := fun k hk => (hown.lt k hk).2
  have old : ∀ k, k < w.heap.size → some k ≠ v.ownBlock → w3.heap[k]? = w.heap[k]? := fun k hk hkn => by
    rw [hg.block k (by omega) hkn, h2, Below.heap_alloc _ _ _ (by omega), hb1.block k (by omega), hW, Below.heap_alloc _ _ _ hk]
  have hr3 : w3.heap[r]? = some (.cells rc 77 (0, 0)) := (old r hrl hne).trans hr
  refine ⟨?_, hr3, fun k hk hk1 => by rw [hg.block k (by omega) (fun e => by have := hol k e.symm; omega), h2, Below.heap_alloc _ _ _ hk1]⟩
  have hgr : g ≠ r := fun e => own_ne h3 hr3 (by rw [← e]; rfl)
  refine ⟨cs', g, cap, rfl, setCell_block hr3 _ _, own_heap h3 (fun g' hg' _ => ?_), ?_, by simpa using hlt, ?_, ?_, ?_, ?_, by simp; omega, ?_⟩
  · simp only [Value.ownBlock, Option.some.injEq] at hg'
    exact Below.heap_setCell _ _ _ _ (show g' ≠ r by omega)
  · rcases hor with h | h
    · exact .inl h
    · right; omega
  · refine hM.keep (fun k hk hkl => ?_) (fun k hk hkl => ?_)
    · refine ⟨by omega, ?_, fun e => ?_⟩
      · show k < (w3.setCell _ _).heap.size
        simp; omega
      · rcases hor with h | h
        · have := hol g h; omega
        · omega
    · rw [Below.heap_setCell _ _ _ _ (show k ≠ r by omega), hg.block k (by omega) (fun e => by have := hol k e.symm; omega), h2, Below.heap_alloc _ _ _ (by omega)]
  · show w3.os = w.os
    rw [hg.os, h2]; show w1.os = w.os; rw [hb1.os, hW]; rfl
  · show w3.tape = w.tape
    rw [hg.tape, h2]; show w1.tape = w.tape; rw [hb1.tape, hW]; rfl
  · show w3.output = w.output
    rw [hg.output, h2]; show w1.output = w.output; rw [hb1.output, hW]; rfl
  · intro k hk hkr hkn
    rw [Below.heap_setCell _ _ _ _ (show k ≠ r from hkr)]
    exact old k hk hkn

theorem add_own {w W w1 : World} {v : Value} {n : Nat} {xs cs : List Value} (hown : w.ownsRow 0 42 34 v n xs) (hW : W = w.alloc (.cells cs.toArray 42)) (hb1 : Below W.heap.size W w1) (C : Array Value) : (w1.alloc (.cells C 42)).ownsRow 0 42 34 v n xs :=
  (own_heap hown (w' := w1) (fun g hg hl => by
    have hWs : W.heap.size = w.heap.size + 1 := by rw [hW]; simp
    rw [hb1.block g (by omega), hW, Below.heap_alloc _ _ _ hl])).alloc _
theorem add_news {w1 : World} {cs' : List Value} (h : cs'.length = 34) : ∀ j u, cs'[j]? = some u → (w1.alloc (.cells cs'.toArray 42)).cell? ((⟨w1.heap.size, 0, none⟩ : Addr).add j) = some u := fun j u hu => by
  rw [Addr.add_lit, cell_of_block (heap_alloc_new w1 _)]
  simpa using hu

set_option maxHeartbeats 1000000 in
theorem add_any (w : World) (r o : Nat) (rc : Array Value) (v : Value) (n : Nat) (xs cs : List Value) (S : Nat → Prop) (M : MsgD) (hown : w.ownsRow 0 42 34 v n xs) (hr : w.heap[r]? = some (.cells rc 77 (0, 0))) (hrc : rc[o]? = some v)
    (hM : MsgIn w S cs M) (hS : ∀ k, S k → k < w.heap.size) (hn : n ≤ 1024) : Calls Try.prog 37 #[.pointer (some ⟨r, o, none⟩), .agg cs.toArray] w (AddPost w r o rc v n xs M) := by
  obtain ⟨i0, hi0, hz0, hz1, hz2⟩ := info_parts info42
  have t68 := und68
  have hl := hM.1
  obtain ⟨a, c, rfl⟩ := ownsRow_shape hown
  obtain ⟨W, hW⟩ : ∃ W, W = w.alloc (.cells cs.toArray 42) := ⟨_, rfl⟩
  have hb0 : W.heap[w.heap.size]? = some (.cells cs.toArray 42 (0, 0)) := by rw [hW]; exact heap_alloc_new w _
  have hb1 : W.heap[r]? = some (.cells rc 77 (0, 0)) := by rw [hW]; rw [Below.heap_alloc w _ _ (Array.getElem?_eq_some_iff.1 hr).1]; exact hr
  have cq : W.cell? ⟨r, o, none⟩ = some (.slice a n c) := by rw [cell_of_block hb1]; exact hrc
  have hMW : MsgIn W S cs M := hM.keep (fun _ h _ => h) (fun k _ hk => by rw [hW]; exact Below.heap_alloc w _ _ hk)
  have hSW : ∀ k, S k → k < W.heap.size := fun k hk => by rw [hW]; simp; exact Nat.lt_succ_of_lt (hS k hk)
  have HW : Hid (W = w.alloc (.cells cs.toArray 42)) := hW
  have HL := Lib.hid hl
  have HMW : Hid (MsgIn W.drew S cs M) := hMW.keep (fun _ h _ => h) (fun _ _ _ => rfl)
  have HSW := Lib.hid hSW
  have HOWN := Lib.hid hown
  have HR := Lib.hid hr
  have HRC := Lib.hid hrc
  have HB1 := Lib.hid hb1
  have HB0 := Lib.hid hb0
  clear hl hW hMW hSW hown hr hrc hM hS hb0 hb1
  go_enter Try.func37, Try.ntmps37
  go_wp2
  change Code.wp _ _ _ _ (w.alloc (.cells cs.toArray 42))
  rw [← HW.out]
  refine wp_region_any (by kernel_rfl) ?_
  change wpAny _ _ _ _ _ _ _ (World.drew _)
  refine wpAny_take (i := 0) (v := .pointer (some ⟨r, o, none⟩)) rfl (by kernel_rfl) (by kernel_rfl) (by kernel_rfl) (fun _ _ _ h => h) (Or.inl ⟨by rfl, fun _ => rfl⟩) ?_
  refine wpAny_take (i := 1) (v := .pointer (some ⟨r, o, none⟩)) rfl (by kernel_rfl) (by kernel_rfl) (by kernel_rfl) (fun _ _ _ h => h) (Or.inl ⟨by rfl, fun _ => rfl⟩) ?_
  refine wpAny_take (i := 2) (v := .pointer (some ⟨r, o, none⟩)) rfl (by kernel_rfl) (by kernel_rfl) (by kernel_rfl) (fun _ _ _ h => h) (Or.inl ⟨by rfl, fun _ => rfl⟩) ?_
  refine wpAny_take (i := 3) (v := .pointer (some ⟨r, o, none⟩)) rfl (by kernel_rfl) (by kernel_rfl) (by kernel_rfl) (fun _ _ _ h => h) (Or.inl ⟨by rfl, fun _ => rfl⟩) ?_
  refine Rg.Any.plain (S := Rg.But [9, 10, 11] (fun w' => w'.heap[r]? = some (.cells rc 77 (0, 0)) ∧ w'.heap[w.heap.size]? = some (.cells cs.toArray 42 (0, 0)))) _ _ _ _ ?_
  refine Rg.take 4 (v := .slice a n c) rfl (by kernel_rfl) (by kernel_rfl) (by kernel_rfl) (fun _ _ _ h => h) (Rg.But.lets (by kernel_rfl) (fun _ h => h)) (fun _ h => .mk h) (Or.inl ⟨by rfl, fun w' hw' => ?_⟩) ⟨HB1.out, HB0.out⟩ ?_
  · have c := cell_at_arr hw'.1 HRC.out
    go_simp
  refine Rg.take 5 (v := .agg cs.toArray) rfl (by kernel_rfl) (by kernel_rfl) (by kernel_rfl) (fun _ _ _ h => h) (Rg.But.lets (by kernel_rfl) (fun _ h => h)) (fun _ h => .mk h) (Or.inl ⟨by rfl, fun w' hw' => ?_⟩) ⟨HB1.out, HB0.out⟩ ?_
  · have e := loadMsg w' _ _ _ _ hw'.2 (by simpa using HL.out)
    show (Instr.loadAt 42 (.pointer (some ⟨w.heap.size, 0, none⟩)) >>= fun v => pure (Next.value v)).run Try.prog w' = _
    simp only [Instr.loadAt, Instr.sureAddr, Sem.run_bind, Sem.run_pure, Result.andThen_ok, e]
  refine Rg.only 6 (by kernel_rfl) (by simp only [List.getElem?_toArray, List.getElem?_cons_succ, List.getElem?_cons_zero]; rfl) (fun K hK => ?_)
  go_simp
  refine (copied_any _ S cs M HMW.out HSW.out).mono ?_
  rintro e w1 ⟨cs', rfl, hm1, hbel⟩
  have HBEL : Hid (Below W.heap.size W w1) := below_undrew hbel
  have HM1 : Hid (MsgW w1 (fun k => W.heap.size ≤ k ∧ k < w1.heap.size) cs' M) := hm1
  have hl1 := hm1.1
  have T1 : Hid (w1.heap[r]? = some (.cells rc 77 (0, 0)) ∧ w1.heap[w.heap.size]? = some (.cells cs.toArray 42 (0, 0))) := ⟨block_up HBEL.out HB1.out (Array.getElem?_eq_some_iff.1 HB1.out).1, block_up HBEL.out HB0.out (Array.getElem?_eq_some_iff.1 HB0.out).1⟩
  clear hbel hm1
  refine hK.out _ _ (.mk T1.out) ?_
  clear hK K
  refine Rg.only 7 (by kernel_rfl) (by simp only [List.getElem?_toArray, List.getElem?_cons_succ, List.getElem?_cons_zero]; rfl) (fun K hK => ?_)
  go_simp
  rw [fold_put, putL_all (by rw [HM1.out.1]; rfl)]
  refine hK.out _ _ (.mk ?_) ?_
  · exact ⟨(Below.heap_alloc w1 _ _ (Array.getElem?_eq_some_iff.1 T1.out.1).1).trans T1.out.1, (Below.heap_alloc w1 _ _ (Array.getElem?_eq_some_iff.1 T1.out.2).1).trans T1.out.2⟩
  clear hK K
  refine Rg.only 8 (by kernel_rfl) (by simp only [List.getElem?_toArray, List.getElem?_cons_succ, List.getElem?_cons_zero]; rfl) (fun K hK => ?_)
  refine step_append_lies _ rfl (.tmp 8) (.tmp 11) 68 rfl 0 42 i0 _ 34 344 t68 hi0 hz0 hz1 hz2 rfl (by decide) (.slice a n c) n xs rfl (add_own HOWN.out HW.out HBEL.out _) ⟨w1.heap.size, 0, none⟩ 1 1 cs' rfl ?len (add_news HM1.out.1) HM1.out.2.1 (by decide) ?max ?bytes (Nat.zero_le _) _ rfl ?_
  case len => rw [HM1.out.1]
  case max => simp only [maxLen]; omega
  case bytes => omega
  intro g cap w3 h3 hg hor hlt
  have hfin := add_fin (o := o) HOWN.out HR.out HW.out HBEL.out HM1.out _ rfl hg h3 hor hlt
  have c3 := cell_at_arr hfin.2.1 HRC.out
  have f3 : w3.frozen? ⟨r, o, none⟩ = false := frozen_of_block hfin.2.1 _
  have HB3 : Hid (w3.heap[w.heap.size]? = some (.cells cs.toArray 42 (0, 0))) := (hfin.2.2 _ (Nat.le_refl _) (Array.getElem?_eq_some_iff.1 T1.out.2).1).trans T1.out.2
  have HR3 := Lib.hid hfin.2.1
  have HFIN := Lib.hid hfin.1
  clear hfin h3 hg hor hlt
  refine hK.out _ _ (.mk ⟨HR3.out, HB3.out⟩) ?_
  clear hK K
  refine Rg.only 9 (by kernel_rfl) (by simp only [List.getElem?_toArray, List.getElem?_cons_succ, List.getElem?_cons_zero]; rfl) (fun K hK => ?_)
  go_simp
  refine hK.out _ _ (.inl rfl) ?_
  clear hK K
  refine Rg.only 10 (by kernel_rfl) (by simp only [List.getElem?_toArray, List.getElem?_cons_succ, List.getElem?_cons_zero]; rfl) (fun K hK => ?_)
  go_simp
  refine hK.out _ _ (.inl rfl) ?_
  clear hK K
  refine Rg.only 11 (by kernel_rfl) (by simp only [List.getElem?_toArray, List.getElem?_cons_succ, List.getElem?_cons_zero]; rfl) (fun K hK => ?_)
  go_simp
  refine hK.out _ _ (.inl rfl) ?_
  clear hK K
  refine Rg.done (by kernel_rfl) ?_
  go_end0
  exact HFIN.out
end Go.Proofs.Ytdkpgjhjdnfieaa
