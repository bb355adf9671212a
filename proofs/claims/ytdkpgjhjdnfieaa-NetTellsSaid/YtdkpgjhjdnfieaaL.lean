/- The contract of copied: a copy of a message whose lists lie in new memory. Condition: the message reads as its data. -/
import Derived.Test.YtdkpgjhjdnfieaaK
set_option linter.unusedVariables false
set_option linter.unusedSimpArgs false
namespace Go.Proofs.Ytdkpgjhjdnfieaa
open Go.RowKit Go.Mf
set_option maxRecDepth 100000

theorem size42' : (Try.prog.info? 42).map (·.size) = some 34 := size42

set_option maxHeartbeats 1000000 in
theorem copied_some (w : World) (S : Nat → Prop) (cs : List Value) (M : MsgD) (h : MsgIn w S cs M) (hS : ∀ k, S k → k < w.heap.size) (a1 : Addr) (c1 : Nat) (hv : cs[10]? = some (.slice (some a1) M.ents.length c1)) : Calls Try.prog 45 #[.agg cs.toArray] w (MsgPost w M) := by
  obtain ⟨h0, h1, h2, v1, v2, h3, h4, h5, h6⟩ := h
  obtain ⟨css, hcl, hce, hrow0⟩ := ents_rows h5
  obtain ⟨_, _, _, hv1, hb, _⟩ := h5
  obtain rfl : v1 = .slice (some a1) M.ents.length c1 := by rw [h3] at hv; exact Option.some.inj hv
  clear hv1 hv
  obtain ⟨n, hn⟩ : ∃ n, M.ents.length = n := ⟨_, rfl⟩
  obtain ⟨W, hW⟩ : ∃ W, W = (w.alloc (.cells cs.toArray 42)).alloc (.cells zMsg.toArray 42) := ⟨_, rfl⟩
  have hb0 : W.heap[w.heap.size]? = some (.cells cs.toArray 42 (0, 0)) := by rw [hW]; exact heap_alloc2_old w _ _
  have hb1 : W.heap[w.heap.size + 1]? = some (.cells zMsg.toArray 42 (0, 0)) := by rw [hW]; exact heap_alloc2_new w _ _
  have hsz : W.heap.size = w.heap.size + 2 := by rw [hW]; simp
  have hbw : Below w.heap.size w W := by rw [hW]; exact ((Below.refl _ w).alloc (Nat.le_refl _) _).alloc (by simp) _
  rw [hn] at hcl hb h3 hrow0
  have c10 : W.cell? ⟨w.heap.size, 10, none⟩ = some (.slice (some a1) n c1) := cell_at hb0 h3
  have f10 : W.frozen? ⟨w.heap.size, 10, none⟩ = false := frozen_of_block hb0 _
  have hlt : w.heap.size < W.heap.size := by rw [hsz]; omega
  have hlt1 : w.heap.size + 1 < W.heap.size := by rw [hsz]; omega
  have hrow : RowsIn W S 50 576 (.slice (some a1) n c1) n css.flatten := hrow0.below hbw hS
  have HROW := Lib.hid hrow
  have HW : Hid (W = (w.alloc (.cells cs.toArray 42)).alloc (.cells zMsg.toArray 42)) := hW
  have HS := Lib.hid hS
  have H1 := Lib.hid h1
  have H2 := Lib.hid h2
  have H0 := Lib.hid h0
  have H3 := Lib.hid h3
  have H4 := Lib.hid h4
  have H6 := Lib.hid h6
  have HB0 := Lib.hid hb0
  have HB1 := Lib.hid hb1
  have HSZ := Lib.hid hsz
  have HBW := Lib.hid hbw
  have HN := Lib.hid hn
  have HCL := Lib.hid hcl
  have HCE := Lib.hid hce
  clear h0 h1 h2 h3 h4 h6 hS hb0 hb1 hsz hbw hW hn hcl hce hrow hrow0
  obtain ⟨fs86, hu86⟩ := und86
  obtain ⟨fs42, hu42⟩ := und42
  go_enter Try.func45, Try.ntmps45
  go_upto_region 1 with fail
  change Code.wp _ _ _ _ ((w.alloc (.cells cs.toArray 42)).alloc (.cells zMsg.toArray 42))
  rw [← HW.out]
  clear HW
  go_wp2_with fail
  refine (clone48_some _ S _ n _ css.flatten HROW.out).mono ?_
  rintro e w1 ⟨v', rfl, hown, hbel⟩
  rcases hown.2 with ⟨h1, h2⟩ | ⟨G, cap, cur, h1, h2, _⟩
  · have g1 := block_up hbel HB0.out hlt
    have c10b : w1.cell? ⟨w.heap.size, 10, none⟩ = some (.slice (some a1) n c1) := cell_at g1 H3.out
    have f10b : w1.frozen? ⟨w.heap.size, 10, none⟩ = false := frozen_of_block g1 _
    subst h1
    have he : EntsW w1 (fun q => w.heap.size + 2 ≤ q) (.slice none 0 0) M.ents := ⟨none, 0, [], by rw [HN.out, h2], by rw [HN.out]; omega, by rw [HN.out, h2]; rfl, fun j _ _ h => by simp at h, fun h => by rw [HN.out, h2] at h; exact absurd h (Nat.lt_irrefl _)⟩
    have HE := Lib.hid he
    have HL := Lib.hid hbel
    have HG1 := Lib.hid g1
    clear h2 hbel g1 c10 f10 hown he
    go_wp2
    go_loopw [15] (fun i wr => i = .int .i64 ((0 : Nat) : Int) ∧ Hid (wr = w1.setCell ⟨w.heap.size, 10, none⟩ (.slice none 0 0))) (fun i _ => 0)
    case atStart => exact ⟨rfl, rfl⟩
    case round =>
      obtain ⟨rfl, hst⟩ := hrel
      have g2 : wr.heap[w.heap.size]? = some (.cells (cs.set 10 (.slice none 0 0)).toArray 42 (0, 0)) := by rw [hst.out]; have := setCell_block HG1.out 10 (.slice none 0 0); simpa using this
      have g3 : wr.heap[w.heap.size + 1]? = some (.cells zMsg.toArray 42 (0, 0)) := by rw [hst.out, Below.heap_setCell _ _ _ _ (show w.heap.size + 1 ≠ w.heap.size by omega)]; exact block_up HL.out HB1.out hlt1
      have hbr : Below w.heap.size w wr := by rw [hst.out]; exact ((HBW.out.trans (HL.out.mono (by omega)))).setCell (Nat.le_refl _) _
      have he : EntsW wr (fun q => w.heap.size + 2 ≤ q) (.slice none 0 0) M.ents := HE.out.keep (fun _ h _ => h) (fun q hq _ => by rw [hst.out]; exact Below.heap_setCell _ _ _ _ (show q ≠ w.heap.size by omega))
      have hr : RowsIn wr S 1 16 v2 M.nl M.link := H6.out.below hbr HS.out
      have c33 : wr.cell? ⟨w.heap.size, 33, none⟩ = some v2 := cell_at g2 (by rw [List.getElem?_set_ne (by omega)]; exact H4.out)
      have G2 := Lib.hid g2
      have G3 := Lib.hid g3
      have HBR := Lib.hid hbr
      have HE2 := Lib.hid he
      have HR := Lib.hid hr
      clear g2 g3 hbr he hr hst HE c10b f10b
      go_wp2_with fail
      refine (clone50_any _ S v2 M.nl M.link HR.out).mono ?_
      rintro e w4 ⟨v4, rfl, hown4, hb4⟩
      obtain ⟨a4, c4, rfl⟩ := ownsRow_shape hown4
      obtain ⟨cs', hcs'⟩ : ∃ cs', cs' = (cs.set 10 (.slice none 0 0)).set 33 (.slice a4 M.nl c4) := ⟨_, rfl⟩
      obtain ⟨W5, hW5⟩ : ∃ W5, W5 = w4.setCell ⟨w.heap.size, 33, none⟩ (.slice a4 M.nl c4) := ⟨_, rfl⟩
      have hfin := msg_fin H0.out H1.out H2.out (v' := (.slice none 0 0)) rfl HBR.out G3.out G2.out rfl HE2.out HR.out hb4 hown4 hcs' hW5
      have g4 := (hb4.block _ (Array.getElem?_eq_some_iff.1 G2.out).1).trans G2.out
      have c33b : w4.cell? ⟨w.heap.size, 33, none⟩ = some v2 := cell_at g4 (by rw [List.getElem?_set_ne (by omega)]; exact H4.out)
      have f33b : w4.frozen? ⟨w.heap.size, 33, none⟩ = false := frozen_of_block g4 _
      obtain ⟨z1, z2, z3, z4, z5, z6⟩ := hfin
      have Z1 := Lib.hid z1
      have Z2 : Hid (cs'.toArray.size = 34) := by show cs'.toArray.size = 34; simpa using z2
      have Z3 := Lib.hid z3
      have Z4 := Lib.hid z4
      have Z5 := Lib.hid z5
      have Z6 := Lib.hid z6
      have HW5 : Hid (W5 = w4.setCell ⟨w.heap.size, 33, none⟩ (.slice a4 M.nl c4)) := hW5
      clear z1 z2 z3 z4 z5 z6 hcs' hW5 hown4 hb4 g4 c33
      go_upto_region 10 with fail
      change Code.wp _ _ _ _ (w4.setCell ⟨w.heap.size, 33, none⟩ (.slice a4 M.nl c4))
      rw [← HW5.out]
      clear HW5
      go_wp2_with (first
        | (refine wpList_load_row rfl 42 _ rfl w.heap.size rfl 42 cs'.toArray (0, 0) _ Z1.out hu42 rfl ?i1 ?_; (case i1 => rw [Z2.out]; exact size42))
        | (refine wpList_store_mid rfl 42 _ _ rfl (w.heap.size + 1) 0 cs'.toArray rfl rfl ?i2 ?i3 ?i4 ?_; (case i2 => rw [Z2.out]; exact Z4.out); (case i3 => rw [Z2.out]; exact size42); (case i4 => exact all_oneCell_toArray Z3.out)))
      exact bodyPost_ret (v := .agg cs'.toArray) (results_cell_row rfl _ _ (w.heap.size + 1) 42 cs'.toArray (0, 0) _ rfl Z5.out hu42 rfl (by rw [Z2.out]; exact size42)) rfl Z6.out
  · subst h1
    have g1 := block_up hbel HB0.out hlt
    have g2 := block_up hbel HB1.out hlt1
    have c10b : w1.cell? ⟨w.heap.size, 10, none⟩ = some (.slice (some a1) n c1) := cell_at g1 H3.out
    have f10b : w1.frozen? ⟨w.heap.size, 10, none⟩ = false := frozen_of_block g1 _
    have hG := (hown.lt G rfl).1
    rw [HSZ.out] at hG
    have hcs0 : CopInv w S M.ents (cs.set 10 (.slice (some ⟨G, 0, none⟩) n cap)) G cap 0 (w1.setCell ⟨w.heap.size, 10, none⟩ (.slice (some ⟨G, 0, none⟩) n cap)) :=
      cop_start (((HBW.out.trans (hbel.mono (by omega)))).setCell (Nat.le_refl _) _) HS.out (by have := setCell_block g1 10 (.slice (some ⟨G, 0, none⟩) n cap); simpa using this)
        (by rw [Below.heap_setCell _ _ _ _ (show w.heap.size + 1 ≠ w.heap.size by omega)]; exact g2) (by rw [HN.out]; exact HCL.out)
        (by rw [HN.out]; refine own_heap (w := w1) ?_ (fun g hg hl => Below.heap_setCell _ _ _ _ (show g ≠ w.heap.size by simp [Value.ownBlock] at hg; omega)); rw [← HSZ.out]; exact hown) HCE.out
    have HC0 := Lib.hid hcs0
    have HG1 := Lib.hid g1
    clear h2 hbel g1 g2 c10 f10 hown hcs0 hG
    go_wp2
    go_loopw [15] (fun i wr => ∃ k : Nat, k ≤ n ∧ i = .int .i64 k ∧ Hid (CopInv w S M.ents (cs.set 10 (.slice (some ⟨G, 0, none⟩) n cap)) G cap k wr)) (fun i _ => n - (intOf i).toNat)
    case atStart => exact ⟨0, by omega, rfl, HC0.out⟩
    case round =>
      obtain ⟨k, hk, rfl, hst⟩ := hrel
      have g2 : wr.heap[w.heap.size]? = some (.cells (cs.set 10 (.slice (some ⟨G, 0, none⟩) n cap)).toArray 42 (0, 0)) := hst.out.2.1
      by_cases hkn : k < n
      · have c10c : wr.cell? ⟨w.heap.size, 10, none⟩ = some (.slice (some ⟨G, 0, none⟩) n cap) := cell_at g2 (List.getElem?_set_self (by rw [H0.out]; omega))
        obtain ⟨ecs, E, v3, hact, hrng, hSw, hnext⟩ := cop_get hst.out (by rw [HN.out]; exact hkn) HS.out
        have hel : ((ecs.drop 2).take 20).length = 20 := hact.1
        have HACT := Lib.hid hact
        have HRNG := Lib.hid hrng
        have HSW := Lib.hid hSw
        have HNEXT := Lib.hid hnext
        have HEL := Lib.hid hel
        clear hact hrng hSw hnext hel hst HC0 g2 c10b f10b
        go_wp2_with (refine wpList_load_mid rfl 86 _ rfl G (k * 50 + 2) rfl ((ecs.drop 2).take 20) _ HRNG.out hu86 rfl ?i1 ?_; (case i1 => rw [HEL.out]; exact size86))
        refine (copiedAct_any _ S _ E.act HACT.out HSW.out).mono ?_
        rintro e w2 ⟨act', rfl, hact', hb2⟩
        obtain ⟨hal, h1a, hth, hF⟩ := HNEXT.out w2 act' hb2 hact'
        obtain ⟨cF, hrF, hF2⟩ := hF _ rfl
        have HAL := Lib.hid hal
        have H1A := Lib.hid h1a
        have HTH := Lib.hid hth
        have HRF := Lib.hid hrF
        have HF2 := Lib.hid hF2
        clear hact' hb2 hal h1a hth hF hrF hF2
        go_wp2_with (refine wpList_store_mid rfl 86 _ _ rfl G (k * 50 + 2) act'.toArray rfl rfl ?i2 ?i3 ?i4 ?_; (case i2 => rw [List.size_toArray, HAL.out]; exact HTH.out); (case i3 => rw [List.size_toArray, HAL.out]; exact size86); (case i4 => exact all_oneCell_toArray H1A.out))
        refine (clone50_any _ S v3 E.nd E.dto HRF.out).mono ?_
        rintro e w3 ⟨v', rfl, hown3, hb3⟩
        obtain ⟨a3, c3, rfl⟩ := ownsRow_shape hown3
        obtain ⟨x1, x2, x3⟩ := HF2.out w3 a3 c3 hb3 hown3
        have X3 := Lib.hid x3
        clear hown3 hb3 x3 cF
        go_wp2
        go_roundw
        case rel => exact ⟨k + 1, by omega, by go_num, X3.out⟩
        case measure => simp [intOf]; omega
      · have hkn2 : k = M.ents.length := by rw [HN.out]; omega
        have hst2 := hst.out
        rw [hkn2] at hst2
        have he := cop_done hst2 (by rw [HN.out]; exact hb)
        rw [HN.out] at he
        have hbr := hst2.1
        have hr : RowsIn wr S 1 16 v2 M.nl M.link := H6.out.below hbr HS.out
        have c33 : wr.cell? ⟨w.heap.size, 33, none⟩ = some v2 := cell_at g2 (by rw [List.getElem?_set_ne (by omega)]; exact H4.out)
        have G2 := Lib.hid g2
        have G3 := Lib.hid hst2.2.2.1
        have HBR := Lib.hid hbr
        have HE2 := Lib.hid he
        have HR := Lib.hid hr
        clear g2 hbr he hr hst hst2 hkn2 HC0 c10b f10b
        go_wp2_with fail
        refine (clone50_any _ S v2 M.nl M.link HR.out).mono ?_
        rintro e w4 ⟨v4, rfl, hown4, hb4⟩
        obtain ⟨a4, c4, rfl⟩ := ownsRow_shape hown4
        obtain ⟨cs', hcs'⟩ : ∃ cs', cs' = (cs.set 10 (.slice (some ⟨G, 0, none⟩) n cap)).set 33 (.slice a4 M.nl c4) := ⟨_, rfl⟩
        obtain ⟨W5, hW5⟩ : ∃ W5, W5 = w4.setCell ⟨w.heap.size, 33, none⟩ (.slice a4 M.nl c4) := ⟨_, rfl⟩
        have hfin := msg_fin H0.out H1.out H2.out (v' := (.slice (some ⟨G, 0, none⟩) n cap)) rfl HBR.out G3.out G2.out rfl HE2.out HR.out hb4 hown4 hcs' hW5
        have g4 := (hb4.block _ (Array.getElem?_eq_some_iff.1 G2.out).1).trans G2.out
        have c33b : w4.cell? ⟨w.heap.size, 33, none⟩ = some v2 := cell_at g4 (by rw [List.getElem?_set_ne (by omega)]; exact H4.out)
        have f33b : w4.frozen? ⟨w.heap.size, 33, none⟩ = false := frozen_of_block g4 _
        obtain ⟨z1, z2, z3, z4, z5, z6⟩ := hfin
        have Z1 := Lib.hid z1
        have Z2 : Hid (cs'.toArray.size = 34) := by show cs'.toArray.size = 34; simpa using z2
        have Z3 := Lib.hid z3
        have Z4 := Lib.hid z4
        have Z5 := Lib.hid z5
        have Z6 := Lib.hid z6
        have HW5 : Hid (W5 = w4.setCell ⟨w.heap.size, 33, none⟩ (.slice a4 M.nl c4)) := hW5
        clear z1 z2 z3 z4 z5 z6 hcs' hW5 hown4 hb4 g4 c33
        go_upto_region 10 with fail
        change Code.wp _ _ _ _ (w4.setCell ⟨w.heap.size, 33, none⟩ (.slice a4 M.nl c4))
        rw [← HW5.out]
        clear HW5
        go_wp2_with (first
          | (refine wpList_load_row rfl 42 _ rfl w.heap.size rfl 42 cs'.toArray (0, 0) _ Z1.out hu42 rfl ?i1 ?_; (case i1 => rw [Z2.out]; exact size42))
          | (refine wpList_store_mid rfl 42 _ _ rfl (w.heap.size + 1) 0 cs'.toArray rfl rfl ?i2 ?i3 ?i4 ?_; (case i2 => rw [Z2.out]; exact Z4.out); (case i3 => rw [Z2.out]; exact size42); (case i4 => exact all_oneCell_toArray Z3.out)))
        exact bodyPost_ret (v := .agg cs'.toArray) (results_cell_row rfl _ _ (w.heap.size + 1) 42 cs'.toArray (0, 0) _ rfl Z5.out hu42 rfl (by rw [Z2.out]; exact size42)) rfl Z6.out

set_option maxHeartbeats 1000000 in
theorem copied_nil (w : World) (S : Nat → Prop) (cs : List Value) (M : MsgD) (h : MsgIn w S cs M) (hS : ∀ k, S k → k < w.heap.size) (c1 : Nat) (hv : cs[10]? = some (.slice none M.ents.length c1)) : Calls Try.prog 45 #[.agg cs.toArray] w (MsgPost w M) := by
  obtain ⟨h0, h1, h2, v1, v2, h3, h4, h5, h6⟩ := h
  obtain ⟨css, hcl, hce, hrow0⟩ := ents_rows h5
  obtain ⟨_, _, _, hv1, hb, _⟩ := h5
  obtain rfl : v1 = .slice none M.ents.length c1 := by rw [h3] at hv; exact Option.some.inj hv
  clear hv1 hv
  obtain ⟨n, hn⟩ : ∃ n, M.ents.length = n := ⟨_, rfl⟩
  obtain ⟨W, hW⟩ : ∃ W, W = (w.alloc (.cells cs.toArray 42)).alloc (.cells zMsg.toArray 42) := ⟨_, rfl⟩
  have hb0 : W.heap[w.heap.size]? = some (.cells cs.toArray 42 (0, 0)) := by rw [hW]; exact heap_alloc2_old w _ _
  have hb1 : W.heap[w.heap.size + 1]? = some (.cells zMsg.toArray 42 (0, 0)) := by rw [hW]; exact heap_alloc2_new w _ _
  have hsz : W.heap.size = w.heap.size + 2 := by rw [hW]; simp
  have hbw : Below w.heap.size w W := by rw [hW]; exact ((Below.refl _ w).alloc (Nat.le_refl _) _).alloc (by simp) _
  rw [hn] at hcl hb h3 hrow0
  have c10 : W.cell? ⟨w.heap.size, 10, none⟩ = some (.slice none n c1) := cell_at hb0 h3
  have f10 : W.frozen? ⟨w.heap.size, 10, none⟩ = false := frozen_of_block hb0 _
  have hlt : w.heap.size < W.heap.size := by rw [hsz]; omega
  have hlt1 : w.heap.size + 1 < W.heap.size := by rw [hsz]; omega
  have hrow : RowsIn W S 50 576 (.slice none n c1) n css.flatten := hrow0.below hbw hS
  have HROW := Lib.hid hrow
  have HW : Hid (W = (w.alloc (.cells cs.toArray 42)).alloc (.cells zMsg.toArray 42)) := hW
  have HS := Lib.hid hS
  have H1 := Lib.hid h1
  have H2 := Lib.hid h2
  have H0 := Lib.hid h0
  have H3 := Lib.hid h3
  have H4 := Lib.hid h4
  have H6 := Lib.hid h6
  have HB0 := Lib.hid hb0
  have HB1 := Lib.hid hb1
  have HSZ := Lib.hid hsz
  have HBW := Lib.hid hbw
  have HN := Lib.hid hn
  have HCL := Lib.hid hcl
  have HCE := Lib.hid hce
  clear h0 h1 h2 h3 h4 h6 hS hb0 hb1 hsz hbw hW hn hcl hce hrow hrow0
  obtain ⟨fs86, hu86⟩ := und86
  obtain ⟨fs42, hu42⟩ := und42
  go_enter Try.func45, Try.ntmps45
  go_upto_region 1 with fail
  change Code.wp _ _ _ _ ((w.alloc (.cells cs.toArray 42)).alloc (.cells zMsg.toArray 42))
  rw [← HW.out]
  clear HW
  go_wp2_with fail
  refine (clone48_nil _ n _ css.flatten S HROW.out).mono ?_
  rintro e w1 ⟨v', rfl, hown, hbel⟩
  rcases hown.2 with ⟨h1, h2⟩ | ⟨G, cap, cur, h1, h2, _⟩
  · have g1 := block_up hbel HB0.out hlt
    have c10b : w1.cell? ⟨w.heap.size, 10, none⟩ = some (.slice none n c1) := cell_at g1 H3.out
    have f10b : w1.frozen? ⟨w.heap.size, 10, none⟩ = false := frozen_of_block g1 _
    subst h1
    have he : EntsW w1 (fun q => w.heap.size + 2 ≤ q) (.slice none 0 0) M.ents := ⟨none, 0, [], by rw [HN.out, h2], by rw [HN.out]; omega, by rw [HN.out, h2]; rfl, fun j _ _ h => by simp at h, fun h => by rw [HN.out, h2] at h; exact absurd h (Nat.lt_irrefl _)⟩
    have HE := Lib.hid he
    have HL := Lib.hid hbel
    have HG1 := Lib.hid g1
    clear h2 hbel g1 c10 f10 hown he
    go_wp2
    go_loopw [15] (fun i wr => i = .int .i64 ((0 : Nat) : Int) ∧ Hid (wr = w1.setCell ⟨w.heap.size, 10, none⟩ (.slice none 0 0))) (fun i _ => 0)
    case atStart => exact ⟨rfl, rfl⟩
    case round =>
      obtain ⟨rfl, hst⟩ := hrel
      have g2 : wr.heap[w.heap.size]? = some (.cells (cs.set 10 (.slice none 0 0)).toArray 42 (0, 0)) := by rw [hst.out]; have := setCell_block HG1.out 10 (.slice none 0 0); simpa using this
      have g3 : wr.heap[w.heap.size + 1]? = some (.cells zMsg.toArray 42 (0, 0)) := by rw [hst.out, Below.heap_setCell _ _ _ _ (show w.heap.size + 1 ≠ w.heap.size by omega)]; exact block_up HL.out HB1.out hlt1
      have hbr : Below w.heap.size w wr := by rw [hst.out]; exact ((HBW.out.trans (HL.out.mono (by omega)))).setCell (Nat.le_refl _) _
      have he : EntsW wr (fun q => w.heap.size + 2 ≤ q) (.slice none 0 0) M.ents := HE.out.keep (fun _ h _ => h) (fun q hq _ => by rw [hst.out]; exact Below.heap_setCell _ _ _ _ (show q ≠ w.heap.size by omega))
      have hr : RowsIn wr S 1 16 v2 M.nl M.link := H6.out.below hbr HS.out
      have c33 : wr.cell? ⟨w.heap.size, 33, none⟩ = some v2 := cell_at g2 (by rw [List.getElem?_set_ne (by omega)]; exact H4.out)
      have G2 := Lib.hid g2
      have G3 := Lib.hid g3
      have HBR := Lib.hid hbr
      have HE2 := Lib.hid he
      have HR := Lib.hid hr
      clear g2 g3 hbr he hr hst HE c10b f10b
      go_wp2_with fail
      refine (clone50_any _ S v2 M.nl M.link HR.out).mono ?_
      rintro e w4 ⟨v4, rfl, hown4, hb4⟩
      obtain ⟨a4, c4, rfl⟩ := ownsRow_shape hown4
      obtain ⟨cs', hcs'⟩ : ∃ cs', cs' = (cs.set 10 (.slice none 0 0)).set 33 (.slice a4 M.nl c4) := ⟨_, rfl⟩
      obtain ⟨W5, hW5⟩ : ∃ W5, W5 = w4.setCell ⟨w.heap.size, 33, none⟩ (.slice a4 M.nl c4) := ⟨_, rfl⟩
      have hfin := msg_fin H0.out H1.out H2.out (v' := (.slice none 0 0)) rfl HBR.out G3.out G2.out rfl HE2.out HR.out hb4 hown4 hcs' hW5
      have g4 := (hb4.block _ (Array.getElem?_eq_some_iff.1 G2.out).1).trans G2.out
      have c33b : w4.cell? ⟨w.heap.size, 33, none⟩ = some v2 := cell_at g4 (by rw [List.getElem?_set_ne (by omega)]; exact H4.out)
      have f33b : w4.frozen? ⟨w.heap.size, 33, none⟩ = false := frozen_of_block g4 _
      obtain ⟨z1, z2, z3, z4, z5, z6⟩ := hfin
      have Z1 := Lib.hid z1
      have Z2 : Hid (cs'.toArray.size = 34) := by show cs'.toArray.size = 34; simpa using z2
      have Z3 := Lib.hid z3
      have Z4 := Lib.hid z4
      have Z5 := Lib.hid z5
      have Z6 := Lib.hid z6
      have HW5 : Hid (W5 = w4.setCell ⟨w.heap.size, 33, none⟩ (.slice a4 M.nl c4)) := hW5
      clear z1 z2 z3 z4 z5 z6 hcs' hW5 hown4 hb4 g4 c33
      go_upto_region 10 with fail
      change Code.wp _ _ _ _ (w4.setCell ⟨w.heap.size, 33, none⟩ (.slice a4 M.nl c4))
      rw [← HW5.out]
      clear HW5
      go_wp2_with (first
        | (refine wpList_load_row rfl 42 _ rfl w.heap.size rfl 42 cs'.toArray (0, 0) _ Z1.out hu42 rfl ?i1 ?_; (case i1 => rw [Z2.out]; exact size42))
        | (refine wpList_store_mid rfl 42 _ _ rfl (w.heap.size + 1) 0 cs'.toArray rfl rfl ?i2 ?i3 ?i4 ?_; (case i2 => rw [Z2.out]; exact Z4.out); (case i3 => rw [Z2.out]; exact size42); (case i4 => exact all_oneCell_toArray Z3.out)))
      exact bodyPost_ret (v := .agg cs'.toArray) (results_cell_row rfl _ _ (w.heap.size + 1) 42 cs'.toArray (0, 0) _ rfl Z5.out hu42 rfl (by rw [Z2.out]; exact size42)) rfl Z6.out
  · subst h1
    have g1 := block_up hbel HB0.out hlt
    have g2 := block_up hbel HB1.out hlt1
    have c10b : w1.cell? ⟨w.heap.size, 10, none⟩ = some (.slice none n c1) := cell_at g1 H3.out
    have f10b : w1.frozen? ⟨w.heap.size, 10, none⟩ = false := frozen_of_block g1 _
    have hG := (hown.lt G rfl).1
    rw [HSZ.out] at hG
    have hcs0 : CopInv w S M.ents (cs.set 10 (.slice (some ⟨G, 0, none⟩) n cap)) G cap 0 (w1.setCell ⟨w.heap.size, 10, none⟩ (.slice (some ⟨G, 0, none⟩) n cap)) :=
      cop_start (((HBW.out.trans (hbel.mono (by omega)))).setCell (Nat.le_refl _) _) HS.out (by have := setCell_block g1 10 (.slice (some ⟨G, 0, none⟩) n cap); simpa using this)
        (by rw [Below.heap_setCell _ _ _ _ (show w.heap.size + 1 ≠ w.heap.size by omega)]; exact g2) (by rw [HN.out]; exact HCL.out)
        (by rw [HN.out]; refine own_heap (w := w1) ?_ (fun g hg hl => Below.heap_setCell _ _ _ _ (show g ≠ w.heap.size by simp [Value.ownBlock] at hg; omega)); rw [← HSZ.out]; exact hown) HCE.out
    have HC0 := Lib.hid hcs0
    have HG1 := Lib.hid g1
    clear h2 hbel g1 g2 c10 f10 hown hcs0 hG
    go_wp2
    go_loopw [15] (fun i wr => ∃ k : Nat, k ≤ n ∧ i = .int .i64 k ∧ Hid (CopInv w S M.ents (cs.set 10 (.slice (some ⟨G, 0, none⟩) n cap)) G cap k wr)) (fun i _ => n - (intOf i).toNat)
    case atStart => exact ⟨0, by omega, rfl, HC0.out⟩
    case round =>
      obtain ⟨k, hk, rfl, hst⟩ := hrel
      have g2 : wr.heap[w.heap.size]? = some (.cells (cs.set 10 (.slice (some ⟨G, 0, none⟩) n cap)).toArray 42 (0, 0)) := hst.out.2.1
      by_cases hkn : k < n
      · have c10c : wr.cell? ⟨w.heap.size, 10, none⟩ = some (.slice (some ⟨G, 0, none⟩) n cap) := cell_at g2 (List.getElem?_set_self (by rw [H0.out]; omega))
        obtain ⟨ecs, E, v3, hact, hrng, hSw, hnext⟩ := cop_get hst.out (by rw [HN.out]; exact hkn) HS.out
        have hel : ((ecs.drop 2).take 20).length = 20 := hact.1
        have HACT := Lib.hid hact
        have HRNG := Lib.hid hrng
        have HSW := Lib.hid hSw
        have HNEXT := Lib.hid hnext
        have HEL := Lib.hid hel
        clear hact hrng hSw hnext hel hst HC0 g2 c10b f10b
        go_wp2_with (refine wpList_load_mid rfl 86 _ rfl G (k * 50 + 2) rfl ((ecs.drop 2).take 20) _ HRNG.out hu86 rfl ?i1 ?_; (case i1 => rw [HEL.out]; exact size86))
        refine (copiedAct_any _ S _ E.act HACT.out HSW.out).mono ?_
        rintro e w2 ⟨act', rfl, hact', hb2⟩
        obtain ⟨hal, h1a, hth, hF⟩ := HNEXT.out w2 act' hb2 hact'
        obtain ⟨cF, hrF, hF2⟩ := hF _ rfl
        have HAL := Lib.hid hal
        have H1A := Lib.hid h1a
        have HTH := Lib.hid hth
        have HRF := Lib.hid hrF
        have HF2 := Lib.hid hF2
        clear hact' hb2 hal h1a hth hF hrF hF2
        go_wp2_with (refine wpList_store_mid rfl 86 _ _ rfl G (k * 50 + 2) act'.toArray rfl rfl ?i2 ?i3 ?i4 ?_; (case i2 => rw [List.size_toArray, HAL.out]; exact HTH.out); (case i3 => rw [List.size_toArray, HAL.out]; exact size86); (case i4 => exact all_oneCell_toArray H1A.out))
        refine (clone50_any _ S v3 E.nd E.dto HRF.out).mono ?_
        rintro e w3 ⟨v', rfl, hown3, hb3⟩
        obtain ⟨a3, c3, rfl⟩ := ownsRow_shape hown3
        obtain ⟨x1, x2, x3⟩ := HF2.out w3 a3 c3 hb3 hown3
        have X3 := Lib.hid x3
        clear hown3 hb3 x3 cF
        go_wp2
        go_roundw
        case rel => exact ⟨k + 1, by omega, by go_num, X3.out⟩
        case measure => simp [intOf]; omega
      · have hkn2 : k = M.ents.length := by rw [HN.out]; omega
        have hst2 := hst.out
        rw [hkn2] at hst2
        have he := cop_done hst2 (by rw [HN.out]; exact hb)
        rw [HN.out] at he
        have hbr := hst2.1
        have hr : RowsIn wr S 1 16 v2 M.nl M.link := H6.out.below hbr HS.out
        have c33 : wr.cell? ⟨w.heap.size, 33, none⟩ = some v2 := cell_at g2 (by rw [List.getElem?_set_ne (by omega)]; exact H4.out)
        have G2 := Lib.hid g2
        have G3 := Lib.hid hst2.2.2.1
        have HBR := Lib.hid hbr
        have HE2 := Lib.hid he
        have HR := Lib.hid hr
        clear g2 hbr he hr hst hst2 hkn2 HC0 c10b f10b
        go_wp2_with fail
        refine (clone50_any _ S v2 M.nl M.link HR.out).mono ?_
        rintro e w4 ⟨v4, rfl, hown4, hb4⟩
        obtain ⟨a4, c4, rfl⟩ := ownsRow_shape hown4
        obtain ⟨cs', hcs'⟩ : ∃ cs', cs' = (cs.set 10 (.slice (some ⟨G, 0, none⟩) n cap)).set 33 (.slice a4 M.nl c4) := ⟨_, rfl⟩
        obtain ⟨W5, hW5⟩ : ∃ W5, W5 = w4.setCell ⟨w.heap.size, 33, none⟩ (.slice a4 M.nl c4) := ⟨_, rfl⟩
        have hfin := msg_fin H0.out H1.out H2.out (v' := (.slice (some ⟨G, 0, none⟩) n cap)) rfl HBR.out G3.out G2.out rfl HE2.out HR.out hb4 hown4 hcs' hW5
        have g4 := (hb4.block _ (Array.getElem?_eq_some_iff.1 G2.out).1).trans G2.out
        have c33b : w4.cell? ⟨w.heap.size, 33, none⟩ = some v2 := cell_at g4 (by rw [List.getElem?_set_ne (by omega)]; exact H4.out)
        have f33b : w4.frozen? ⟨w.heap.size, 33, none⟩ = false := frozen_of_block g4 _
        obtain ⟨z1, z2, z3, z4, z5, z6⟩ := hfin
        have Z1 := Lib.hid z1
        have Z2 : Hid (cs'.toArray.size = 34) := by show cs'.toArray.size = 34; simpa using z2
        have Z3 := Lib.hid z3
        have Z4 := Lib.hid z4
        have Z5 := Lib.hid z5
        have Z6 := Lib.hid z6
        have HW5 : Hid (W5 = w4.setCell ⟨w.heap.size, 33, none⟩ (.slice a4 M.nl c4)) := hW5
        clear z1 z2 z3 z4 z5 z6 hcs' hW5 hown4 hb4 g4 c33
        go_upto_region 10 with fail
        change Code.wp _ _ _ _ (w4.setCell ⟨w.heap.size, 33, none⟩ (.slice a4 M.nl c4))
        rw [← HW5.out]
        clear HW5
        go_wp2_with (first
          | (refine wpList_load_row rfl 42 _ rfl w.heap.size rfl 42 cs'.toArray (0, 0) _ Z1.out hu42 rfl ?i1 ?_; (case i1 => rw [Z2.out]; exact size42))
          | (refine wpList_store_mid rfl 42 _ _ rfl (w.heap.size + 1) 0 cs'.toArray rfl rfl ?i2 ?i3 ?i4 ?_; (case i2 => rw [Z2.out]; exact Z4.out); (case i3 => rw [Z2.out]; exact size42); (case i4 => exact all_oneCell_toArray Z3.out)))
        exact bodyPost_ret (v := .agg cs'.toArray) (results_cell_row rfl _ _ (w.heap.size + 1) 42 cs'.toArray (0, 0) _ rfl Z5.out hu42 rfl (by rw [Z2.out]; exact size42)) rfl Z6.out

theorem copied_any (w : World) (S : Nat → Prop) (cs : List Value) (M : MsgD) (h : MsgIn w S cs M) (hS : ∀ k, S k → k < w.heap.size) : Calls Try.prog 45 #[.agg cs.toArray] w (MsgPost w M) := by
  obtain ⟨_, _, _, v1, _, h3, _, ⟨a1, c1, _, hv, _⟩, _⟩ := id h
  rw [hv] at h3
  cases a1 with
  | none => exact copied_nil w S cs M h hS c1 h3
  | some a => exact copied_some w S cs M h hS a c1 h3
end Go.Proofs.Ytdkpgjhjdnfieaa
