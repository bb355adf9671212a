/- The contract of the reference's add. Condition: the net and the message lie in memory as stated. -/
import Derived.Test.YtdkpgjhjdnfieaaAz
import Derived.Test.YtdkpgjhjdnfieaaRg
set_option linter.unusedVariables false
set_option linter.unusedSimpArgs false
namespace Go.Rg
open Go
section
variable {P : Program} {ops : Array Oper} {Q : Exit → Act → World → Prop} {md : Region.Mode} {S : Nat → World → Prop}
/-- two numbers may come next -/
theorem two (i j : Nat) {oi oj : Oper} {n : Nat} {l : Array Bool} {a : Act} {w : World} (hr : Region.ready md ops l = [i, j]) (hi : ops[i]? = some oi) (hj : ops[j]? = some oj)
    (h1 : ∀ K : Act → World → Prop, Shut (∀ b v, S i v → Any P md ops Q S n (l.setIfInBounds i true) b v → K b v) → if Region.wanted oi (yielded ops a.tmps) = true then Oper.wp P oi a w K Q else K (a.put oi.dst undef) w)
    (h2 : ∀ K : Act → World → Prop, Shut (∀ b v, S j v → Any P md ops Q S n (l.setIfInBounds j true) b v → K b v) → if Region.wanted oj (yielded ops a.tmps) = true then Oper.wp P oj a w K Q else K (a.put oj.dst undef) w) : Any P md ops Q S (n + 1) l a w :=
  ⟨fun h0 => (by rw [h0] at hr; cases hr), fun k hk => by
    rw [hr] at hk
    rcases List.mem_cons.1 hk with rfl | hk
    · exact wpOp_step hi (fun K hK => h1 K (fun b v h3 h4 => hK b v ⟨h3, h4⟩))
    · have hkj : k = j := by simpa using hk
      subst hkj
      exact wpOp_step hj (fun K hK => h2 K (fun b v h3 h4 => hK b v ⟨h3, h4⟩))⟩
end
end Go.Rg
namespace Go.Proofs.Ytdkpgjhjdnfieaa
open Go.RowKit Go.Mf
set_option maxRecDepth 100000

set_option maxHeartbeats 4000000 in
theorem radd_any {w : World} {T : Nat → Prop} {y n : Nat} {L C : Value} {l : List RM} {cuts : List (Int × Int)} (h : RefIn w T y n L C l cuts) (m : RM) (hm : m.c.length = 34 ∧ ∀ u ∈ m.c, u.oneCell' = true) (hft : m.c[1]? = some (.int .i64 m.f) ∧ m.c[2]? = some (.int .i64 m.t)) (hl : l.length ≤ 1000000) :
    Calls Try.prog 39 #[.pointer (some ⟨y, 0, none⟩), .agg m.c.toArray] w (RAddPost w T y n C (l ++ [m]) cuts) := by
  obtain ⟨i0, hi0, hz0, hz1, hz2⟩ := info_parts info42
  obtain ⟨cs, hcs⟩ : ∃ cs, m.c = cs := ⟨_, rfl⟩
  obtain ⟨W, hW⟩ : ∃ W, W = w.alloc (.cells cs.toArray 42) := ⟨_, rfl⟩
  have hb0 : W.heap[w.heap.size]? = some (.cells cs.toArray 42 (0, 0)) := by rw [hW]; exact heap_alloc_new w _
  have hbw : Below w.heap.size w W := by rw [hW]; exact (Below.refl _ w).alloc (Nat.le_refl _) _
  have hsz : W.heap.size = w.heap.size + 1 := by rw [hW]; simp
  have hyl := h.lt y h.ty
  have hy1 : W.heap[y]? = some (.cells #[.int .i64 n, L, C] 71 (0, 0)) := (hbw.block y hyl).trans h.hy
  have hsrc : Src W L l.length (l.map RM.c).flatten := h.src.up hbw
  obtain ⟨ln, hln⟩ : ∃ ln, l.length = ln := ⟨_, rfl⟩
  obtain ⟨xs, hxs⟩ : ∃ xs, (l.map RM.c).flatten = xs := ⟨_, rfl⟩
  rw [hln, hxs] at hsrc
  have hsl : ∃ a c, L = .slice a ln c := by obtain ⟨a, c, e⟩ := ownsRow_shape h.hl; exact ⟨a, c, by rw [e, hln]⟩
  have hfin : ∀ w3 L', Hid (Below W.heap.size W w3 → w3.ownsRow W.heap.size 42 34 L' (ln + 1) (xs ++ cs) → RAddPost w T y n C (l ++ [m]) cuts (.returned (.tuple #[])) (w3.setCell ⟨y, 1, none⟩ L') ∧ w3.heap[y]? = some (.cells #[.int .i64 n, L, C] 71 (0, 0))) := fun w3 L' hb hown => by
    have hbb : Below w.heap.size w w3 := hbw.trans (hb.mono (by omega))
    have hr := rset_fin (l' := l ++ [m]) h hbb (by omega : w.heap.size ≤ W.heap.size) (by rw [List.length_append, List.length_singleton, hln, List.map_append, List.flatten_append, hxs]; simpa [hcs] using hown)
      (fun q hq => by
        rw [List.map_append] at hq
        rcases List.mem_append.1 hq with hq | hq
        · exact h.ok q hq
        · simp only [List.map_cons, List.map_nil, List.mem_singleton] at hq; rw [hq]; exact hm)
      (fun q hq => by
        rcases List.mem_append.1 hq with hq | hq
        · exact h.ft q hq
        · rw [List.mem_singleton] at hq; rw [hq]; exact hft)
    exact ⟨⟨rfl, _, _, hr.1, hr.2⟩, (hb.block y (by omega)).trans hy1⟩
  have HL : Hid (cs.length = 34 ∧ ∀ u ∈ cs, u.oneCell' = true) := by rw [← hcs]; exact hm
  have HW : Hid (W = w.alloc (.cells cs.toArray 42)) := hW
  have HB0 := Lib.hid hb0
  have HY1 := Lib.hid hy1
  have HSRC := Lib.hid hsrc
  have HYW : Hid (y < W.heap.size) := by show y < W.heap.size; omega
  have HLW : Hid (w.heap.size < W.heap.size) := by show w.heap.size < W.heap.size; omega
  obtain ⟨aL, cL, rfl⟩ := hsl
  rw [hln] at hl
  rw [hcs]
  clear hb0 hbw hsz hyl hy1 hsrc hW h hm hft hln hxs hcs
  go_enter Try.func39, Try.ntmps39
  go_wp2
  change Code.wp _ _ _ _ (w.alloc (.cells cs.toArray 42))
  rw [← HW.out]
  clear HW
  refine wp_region_any (by kernel_rfl) ?_
  change wpAny _ _ _ _ _ _ _ (World.drew _)
  refine wpAny_take (i := 0) (v := .pointer (some ⟨y, 0, none⟩)) rfl (by kernel_rfl) (by kernel_rfl) (by kernel_rfl) (fun _ _ _ h => h) (Or.inl ⟨by rfl, by intro _; go_simp⟩) ?_
  refine wpAny_take (i := 2) (v := .pointer (some ⟨y, 0, none⟩)) rfl (by kernel_rfl) (by kernel_rfl) (by kernel_rfl) (fun _ _ _ h => h) (Or.inl ⟨by rfl, by intro _; go_simp⟩) ?_
  refine wpAny_take (i := 3) (v := .pointer (some ⟨y, 0, none⟩)) rfl (by kernel_rfl) (by kernel_rfl) (by kernel_rfl) (fun _ _ _ h => h) (Or.inl ⟨by rfl, by intro _; go_simp⟩) ?_
  refine wpAny_take (i := 4) (v := .pointer (some ⟨y, 1, none⟩)) rfl (by kernel_rfl) (by kernel_rfl) (by kernel_rfl) (fun _ _ _ h => h) (Or.inl ⟨by rfl, by intro _; go_simp⟩) ?_
  obtain ⟨x0, hx0⟩ : ∃ v, v = World.drew W := ⟨_, rfl⟩
  have HKP : ∀ v, Hid (Below W.heap.size W v → v.heap[y]? = some (.cells #[.int .i64 n, .slice aL ln cL, C] 71 (0, 0)) ∧ v.heap[w.heap.size]? = some (.cells cs.toArray 42 (0, 0))) := fun v hb => ⟨(hb.block _ HYW.out).trans HY1.out, (hb.block _ HLW.out).trans HB0.out⟩
  have BEL0 : Hid (Below W.heap.size W x0) := by rw [hx0]; exact (Below.refl _ _).drew
  rw [← hx0]
  clear hx0
  refine Rg.Any.plain (S := Rg.But [10, 11, 12] (fun v => v.heap[y]? = some (.cells #[.int .i64 n, .slice aL ln cL, C] 71 (0, 0)) ∧ v.heap[w.heap.size]? = some (.cells cs.toArray 42 (0, 0)))) _ _ _ _ ?_
  refine Rg.take 5 (v := .slice aL ln cL) rfl (by kernel_rfl) (by kernel_rfl) (by kernel_rfl) (fun _ _ _ h => h) (Rg.But.lets (by kernel_rfl) (fun _ h => h)) (fun _ h => .mk h) (Or.inl ⟨by rfl, fun v hv => ?_⟩) ((HKP _).out BEL0.out) ?_
  · have c : v.cell? ⟨y, 1, none⟩ = some (.slice aL ln cL) := cell_at hv.1 rfl
    go_simp
  refine Rg.take 7 (v := .agg cs.toArray) rfl (by kernel_rfl) (by kernel_rfl) (by kernel_rfl) (fun _ _ _ h => h) (Rg.But.lets (by kernel_rfl) (fun _ h => h)) (fun _ h => .mk h) (Or.inl ⟨by rfl, fun v hv => ?_⟩) ((HKP _).out BEL0.out) ?_
  · have e := loadMsg v _ _ _ _ hv.2 (by simpa using HL.out.1)
    show (Instr.loadAt 42 (.pointer (some ⟨w.heap.size, 0, none⟩)) >>= fun v => pure (Next.value v)).run Try.prog v = _
    simp only [Instr.loadAt, Instr.sureAddr, Sem.run_bind, Sem.run_pure, Result.andThen_ok, e]
  have hl1 : cs.length = 34 := HL.out.1
  refine Rg.two 1 8 (by kernel_rfl) (by simp only [List.getElem?_toArray, List.getElem?_cons_succ, List.getElem?_cons_zero]; rfl) (by simp only [List.getElem?_toArray, List.getElem?_cons_succ, List.getElem?_cons_zero]; rfl) (fun K hK => ?_) (fun K hK => ?_)
  · go_simp
    obtain ⟨x1, hx1⟩ : ∃ v, v = World.alloc x0 (.cells #[] 42) := ⟨_, rfl⟩
    have B1 : Hid (Below W.heap.size W x1) := by rw [hx1]; exact BEL0.out.alloc BEL0.out.size _
    have O1 : Hid (x1.ownsRow W.heap.size 42 34 (.slice (some ⟨x0.heap.size, 0, none⟩) 0 0) 0 []) := by rw [hx1]; exact World.ownsRow_made _ #[] 0 BEL0.out.size (by simp [maxLen]) rfl
    rw [← hx1]
    clear hx1
    refine hK.out _ _ (.mk ((HKP _).out B1.out)) ?_
    clear hK K
    refine Rg.two 6 8 (by kernel_rfl) (by simp only [List.getElem?_toArray, List.getElem?_cons_succ, List.getElem?_cons_zero]; rfl) (by simp only [List.getElem?_toArray, List.getElem?_cons_succ, List.getElem?_cons_zero]; rfl) (fun K hK => ?_) (fun K hK => ?_)
    · as_aux_lemma =>
      rw [if_pos (by rfl)]
      refine wp_append_msgs (.tmp 5) (.tmp 9) rfl W.heap.size (.slice (some ⟨x0.heap.size, 0, none⟩) 0 0) 0 [] rfl O1.out (.slice aL ln cL) ln xs rfl (HSRC.out.up B1.out) (by omega) B1.out.size ?_
      intro v2 x2 hown hgr
      rw [Nat.zero_add, List.nil_append] at hown
      have B2 : Hid (Below W.heap.size W x2) := B1.out.grown hgr B1.out.size (fun q hq => (O1.out.lt q hq).1)
      have O2 := Lib.hid hown
      clear hown hgr
      refine hK.out _ _ (.mk ((HKP _).out B2.out)) ?_
      clear hK K
      refine Rg.only 8 (by kernel_rfl) (by simp only [List.getElem?_toArray, List.getElem?_cons_succ, List.getElem?_cons_zero]; rfl) (fun K hK => ?_)
      go_simp
      rw [fold_put, putL_all (by rw [HL.out.1]; rfl)]
      obtain ⟨x3, hx3⟩ : ∃ v, v = World.alloc x2 (.cells cs.toArray 42) := ⟨_, rfl⟩
      have B3 : Hid (Below W.heap.size W x3) := by rw [hx3]; exact B2.out.alloc B2.out.size _
      have N3 : Hid (x3.heap[x2.heap.size]? = some (.cells cs.toArray 42 (0, 0))) := by rw [hx3]; exact heap_alloc_new _ _
      have O3 : Hid (x3.ownsRow W.heap.size 42 34 v2 ln xs) := by rw [hx3]; exact O2.out.alloc _
      have NE3 : Hid (∀ g, Value.ownBlock v2 = some g → g ≠ x2.heap.size) := fun g hg => by have := (O2.out.lt g hg).2; omega
      rw [← hx3]
      clear hx3
      refine hK.out _ _ (.mk ((HKP _).out B3.out)) ?_
      clear hK K
      refine Rg.only 9 (by kernel_rfl) (by simp only [List.getElem?_toArray, List.getElem?_cons_succ, List.getElem?_cons_zero]; rfl) (fun K hK => ?_)
      rw [if_pos (by rfl)]
      refine wp_append_msgs (.tmp 10) (.tmp 12) rfl W.heap.size v2 ln xs rfl O3.out (.slice (some ⟨x2.heap.size, 0, none⟩) 1 1) 1 cs rfl ⟨by rw [HL.out.1], HL.out.2, .inr ⟨_, 0, 1, rfl, fun j z hz => by rw [Nat.zero_add]; exact cell_at N3.out hz⟩⟩ (by omega) B3.out.size ?_
      intro v4 x4 hown hgr
      have B4 : Hid (Below W.heap.size W x4) := B3.out.grown hgr B3.out.size (fun q hq => (O3.out.lt q hq).1)
      have O4 := Lib.hid hown
      clear hown hgr
      refine hK.out _ _ (.mk ((HKP _).out B4.out)) ?_
      clear hK K
      obtain ⟨va, vc, hv⟩ := ownsRow_shape O4.out
      have hfin := (hfin x4 v4).out B4.out O4.out
      rw [hv] at hfin ⊢
      have c3 : x4.cell? ⟨y, 1, none⟩ = some (.slice aL ln cL) := cell_at hfin.2 rfl
      have f3 : x4.frozen? ⟨y, 1, none⟩ = false := frozen_of_block hfin.2 _
      have HFIN := Lib.hid hfin.1
      clear hfin hv
      refine Rg.only 10 (by kernel_rfl) (by simp only [List.getElem?_toArray, List.getElem?_cons_succ, List.getElem?_cons_zero]; rfl) (fun K hK => ?_)
      go_simp
      refine hK.out _ _ (.inl rfl) ?_
      clear hK K
      refine Rg.only 11 (by kernel_rfl) (by simp only [List.getElem?_toArray, List.getElem?_cons_succ, List.getElem?_cons_zero]; rfl) (fun K hK => ?_)
      go_simp
      refine hK.out _ _ (.inl rfl) ?_
      clear hK K
      refine Rg.only 12 (by kernel_rfl) (by simp only [List.getElem?_toArray, List.getElem?_cons_succ, List.getElem?_cons_zero]; rfl) (fun K hK => ?_)
      go_simp
      refine hK.out _ _ (.inl rfl) ?_
      clear hK K
      refine Rg.done (by kernel_rfl) ?_
      go_end0
      exact HFIN.out
    · as_aux_lemma =>
      go_simp
      rw [fold_put, putL_all (by rw [HL.out.1]; rfl)]
      obtain ⟨x5, hx5⟩ : ∃ v, v = World.alloc x1 (.cells cs.toArray 42) := ⟨_, rfl⟩
      have B5 : Hid (Below W.heap.size W x5) := by rw [hx5]; exact B1.out.alloc B1.out.size _
      have N5 : Hid (x5.heap[x1.heap.size]? = some (.cells cs.toArray 42 (0, 0))) := by rw [hx5]; exact heap_alloc_new _ _
      have O5 : Hid (x5.ownsRow W.heap.size 42 34 (.slice (some ⟨x0.heap.size, 0, none⟩) 0 0) 0 []) := by rw [hx5]; exact O1.out.alloc _
      have NE5 : Hid (∀ g, Value.ownBlock (.slice (some ⟨x0.heap.size, 0, none⟩) 0 0) = some g → g ≠ x1.heap.size) := fun g hg => by have := (O1.out.lt g hg).2; omega
      rw [← hx5]
      clear hx5
      refine hK.out _ _ (.mk ((HKP _).out B5.out)) ?_
      clear hK K
      refine Rg.only 6 (by kernel_rfl) (by simp only [List.getElem?_toArray, List.getElem?_cons_succ, List.getElem?_cons_zero]; rfl) (fun K hK => ?_)
      rw [if_pos (by rfl)]
      refine wp_append_msgs (.tmp 5) (.tmp 9) rfl W.heap.size (.slice (some ⟨x0.heap.size, 0, none⟩) 0 0) 0 [] rfl O5.out (.slice aL ln cL) ln xs rfl (HSRC.out.up B5.out) (by omega) B5.out.size ?_
      intro v6 x6 hown hgr
      rw [Nat.zero_add, List.nil_append] at hown
      have B6 : Hid (Below W.heap.size W x6) := B5.out.grown hgr B5.out.size (fun q hq => (O5.out.lt q hq).1)
      have O6 := Lib.hid hown
      have N6 : Hid (x6.heap[x1.heap.size]? = some (.cells cs.toArray 42 (0, 0))) := (hgr.block _ (Array.getElem?_eq_some_iff.1 N5.out).1 (fun e => NE5.out _ e.symm rfl)).trans N5.out
      clear hown hgr
      refine hK.out _ _ (.mk ((HKP _).out B6.out)) ?_
      clear hK K
      refine Rg.only 9 (by kernel_rfl) (by simp only [List.getElem?_toArray, List.getElem?_cons_succ, List.getElem?_cons_zero]; rfl) (fun K hK => ?_)
      rw [if_pos (by rfl)]
      refine wp_append_msgs (.tmp 10) (.tmp 12) rfl W.heap.size v6 ln xs rfl O6.out (.slice (some ⟨x1.heap.size, 0, none⟩) 1 1) 1 cs rfl ⟨by rw [HL.out.1], HL.out.2, .inr ⟨_, 0, 1, rfl, fun j z hz => by rw [Nat.zero_add]; exact cell_at N6.out hz⟩⟩ (by omega) B6.out.size ?_
      intro v7 x7 hown hgr
      have B7 : Hid (Below W.heap.size W x7) := B6.out.grown hgr B6.out.size (fun q hq => (O6.out.lt q hq).1)
      have O7 := Lib.hid hown
      clear hown hgr
      refine hK.out _ _ (.mk ((HKP _).out B7.out)) ?_
      clear hK K
      obtain ⟨va, vc, hv⟩ := ownsRow_shape O7.out
      have hfin := (hfin x7 v7).out B7.out O7.out
      rw [hv] at hfin ⊢
      have c3 : x7.cell? ⟨y, 1, none⟩ = some (.slice aL ln cL) := cell_at hfin.2 rfl
      have f3 : x7.frozen? ⟨y, 1, none⟩ = false := frozen_of_block hfin.2 _
      have HFIN := Lib.hid hfin.1
      clear hfin hv
      refine Rg.only 10 (by kernel_rfl) (by simp only [List.getElem?_toArray, List.getElem?_cons_succ, List.getElem?_cons_zero]; rfl) (fun K hK => ?_)
      go_simp
      refine hK.out _ _ (.inl rfl) ?_
      clear hK K
      refine Rg.only 11 (by kernel_rfl) (by simp only [List.getElem?_toArray, List.getElem?_cons_succ, List.getElem?_cons_zero]; rfl) (fun K hK => ?_)
      go_simp
      refine hK.out _ _ (.inl rfl) ?_
      clear hK K
      refine Rg.only 12 (by kernel_rfl) (by simp only [List.getElem?_toArray, List.getElem?_cons_succ, List.getElem?_cons_zero]; rfl) (fun K hK => ?_)
      go_simp
      refine hK.out _ _ (.inl rfl) ?_
      clear hK K
      refine Rg.done (by kernel_rfl) ?_
      go_end0
      exact HFIN.out
  · as_aux_lemma =>
    go_simp
    rw [fold_put, putL_all (by rw [HL.out.1]; rfl)]
    obtain ⟨x8, hx8⟩ : ∃ v, v = World.alloc x0 (.cells cs.toArray 42) := ⟨_, rfl⟩
    have B8 : Hid (Below W.heap.size W x8) := by rw [hx8]; exact BEL0.out.alloc BEL0.out.size _
    have N8 : Hid (x8.heap[x0.heap.size]? = some (.cells cs.toArray 42 (0, 0))) := by rw [hx8]; exact heap_alloc_new _ _
    rw [← hx8]
    clear hx8
    refine hK.out _ _ (.mk ((HKP _).out B8.out)) ?_
    clear hK K
    refine Rg.only 1 (by kernel_rfl) (by simp only [List.getElem?_toArray, List.getElem?_cons_succ, List.getElem?_cons_zero]; rfl) (fun K hK => ?_)
    go_simp
    obtain ⟨x9, hx9⟩ : ∃ v, v = World.alloc x8 (.cells #[] 42) := ⟨_, rfl⟩
    have B9 : Hid (Below W.heap.size W x9) := by rw [hx9]; exact B8.out.alloc B8.out.size _
    have O9 : Hid (x9.ownsRow W.heap.size 42 34 (.slice (some ⟨x8.heap.size, 0, none⟩) 0 0) 0 []) := by rw [hx9]; exact World.ownsRow_made _ #[] 0 B8.out.size (by simp [maxLen]) rfl
    have N9 : Hid (x9.heap[x0.heap.size]? = some (.cells cs.toArray 42 (0, 0)) ∧ x0.heap.size ≠ x8.heap.size) := by have hlt := (Array.getElem?_eq_some_iff.1 N8.out).1; rw [hx9]; exact ⟨(Below.heap_alloc _ _ _ hlt).trans N8.out, by omega⟩
    rw [← hx9]
    clear hx9
    refine hK.out _ _ (.mk ((HKP _).out B9.out)) ?_
    clear hK K
    refine Rg.only 6 (by kernel_rfl) (by simp only [List.getElem?_toArray, List.getElem?_cons_succ, List.getElem?_cons_zero]; rfl) (fun K hK => ?_)
    rw [if_pos (by rfl)]
    refine wp_append_msgs (.tmp 5) (.tmp 9) rfl W.heap.size (.slice (some ⟨x8.heap.size, 0, none⟩) 0 0) 0 [] rfl O9.out (.slice aL ln cL) ln xs rfl (HSRC.out.up B9.out) (by omega) B9.out.size ?_
    intro v10 x10 hown hgr
    rw [Nat.zero_add, List.nil_append] at hown
    have B10 : Hid (Below W.heap.size W x10) := B9.out.grown hgr B9.out.size (fun q hq => (O9.out.lt q hq).1)
    have O10 := Lib.hid hown
    have N10 : Hid (x10.heap[x0.heap.size]? = some (.cells cs.toArray 42 (0, 0))) := (hgr.block _ (Array.getElem?_eq_some_iff.1 N9.out.1).1 (fun e => N9.out.2 (by simpa [Value.ownBlock] using e))).trans N9.out.1
    clear hown hgr
    refine hK.out _ _ (.mk ((HKP _).out B10.out)) ?_
    clear hK K
    refine Rg.only 9 (by kernel_rfl) (by simp only [List.getElem?_toArray, List.getElem?_cons_succ, List.getElem?_cons_zero]; rfl) (fun K hK => ?_)
    rw [if_pos (by rfl)]
    refine wp_append_msgs (.tmp 10) (.tmp 12) rfl W.heap.size v10 ln xs rfl O10.out (.slice (some ⟨x0.heap.size, 0, none⟩) 1 1) 1 cs rfl ⟨by rw [HL.out.1], HL.out.2, .inr ⟨_, 0, 1, rfl, fun j z hz => by rw [Nat.zero_add]; exact cell_at N10.out hz⟩⟩ (by omega) B10.out.size ?_
    intro v11 x11 hown hgr
    have B11 : Hid (Below W.heap.size W x11) := B10.out.grown hgr B10.out.size (fun q hq => (O10.out.lt q hq).1)
    have O11 := Lib.hid hown
    clear hown hgr
    refine hK.out _ _ (.mk ((HKP _).out B11.out)) ?_
    clear hK K
    obtain ⟨va, vc, hv⟩ := ownsRow_shape O11.out
    have hfin := (hfin x11 v11).out B11.out O11.out
    rw [hv] at hfin ⊢
    have c3 : x11.cell? ⟨y, 1, none⟩ = some (.slice aL ln cL) := cell_at hfin.2 rfl
    have f3 : x11.frozen? ⟨y, 1, none⟩ = false := frozen_of_block hfin.2 _
    have HFIN := Lib.hid hfin.1
    clear hfin hv
    refine Rg.only 10 (by kernel_rfl) (by simp only [List.getElem?_toArray, List.getElem?_cons_succ, List.getElem?_cons_zero]; rfl) (fun K hK => ?_)
    go_simp
    refine hK.out _ _ (.inl rfl) ?_
    clear hK K
    refine Rg.only 11 (by kernel_rfl) (by simp only [List.getElem?_toArray, List.getElem?_cons_succ, List.getElem?_cons_zero]; rfl) (fun K hK => ?_)
    go_simp
    refine hK.out _ _ (.inl rfl) ?_
    clear hK K
    refine Rg.only 12 (by kernel_rfl) (by simp only [List.getElem?_toArray, List.getElem?_cons_succ, List.getElem?_cons_zero]; rfl) (fun K hK => ?_)
    go_simp
    refine hK.out _ _ (.inl rfl) ?_
    clear hK K
    refine Rg.done (by kernel_rfl) ?_
    go_end0
    exact HFIN.out
end Go.Proofs.Ytdkpgjhjdnfieaa
