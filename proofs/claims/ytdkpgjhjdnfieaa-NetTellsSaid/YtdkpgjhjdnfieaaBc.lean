/- The contracts of the reference's Take and Lose. Condition: the net lies in memory as stated. -/
import Derived.Test.YtdkpgjhjdnfieaaBb
import Derived.Test.YtdkpgjhjdnfieaaS
import Derived.IntWalk
set_option linter.unusedVariables false
set_option linter.unusedSimpArgs false
namespace Go.Proofs.Ytdkpgjhjdnfieaa
open Go.RowKit Go.Mf
set_option maxRecDepth 100000

def RTakePost (w : World) (T : Nat → Prop) (y n : Nat) (C : Value) (l : List RM) (cuts : List (Int × Int)) (a b i : Int) : Ending → World → Prop := fun e w' =>
  ∃ r c, AtSpec l a b i r ∧ e = .returned (.tuple #[.agg c.toArray, .bool r.isSome]) ∧ (match r with | none => c = zMsg | some k => ∃ m, l[k]? = some m ∧ m.c = c) ∧ c.length = 34 ∧ (∀ u ∈ c, u.oneCell' = true) ∧
    ∃ T' L', RefIn w' T' y n L' C (match r with | none => l | some k => l.eraseIdx k) cuts ∧ RFr T T' y w w'

set_option maxHeartbeats 4000000 in
theorem rtake_any {w : World} {T : Nat → Prop} {y n : Nat} {L C : Value} {l : List RM} {cuts : List (Int × Int)} (h : RefIn w T y n L C l cuts) (hl : l.length ≤ 1000) (a b i : Int) :
    Calls Try.prog 16 #[.pointer (some ⟨y, 0, none⟩), .int .i64 a, .int .i64 b, .int .i64 i] w (RTakePost w T y n C l cuts a b i) := by
  obtain ⟨W, hW⟩ : ∃ W, W = w.alloc (.cells zMsg.toArray 42) := ⟨_, rfl⟩
  have hb0 : W.heap[w.heap.size]? = some (.cells zMsg.toArray 42 (0, 0)) := by rw [hW]; exact heap_alloc_new w _
  have hbw : Below w.heap.size w W := by rw [hW]; exact (Below.refl _ w).alloc (Nat.le_refl _) _
  have hsz : W.heap.size = w.heap.size + 1 := by rw [hW]; simp
  have hRW := h.up hbw
  have hyl := h.lt y h.ty
  have HAT := Lib.hid (rat_any hRW (by omega) a b i)
  obtain ⟨c0, c1, c2, ⟨aL, cL, rfl⟩, _⟩ := hRW.cells
  obtain ⟨ln, hln⟩ : ∃ n, l.length = n := ⟨_, rfl⟩
  have HLN := Lib.hid hln
  rw [hln] at c1 hl
  have HB0 := Lib.hid hb0
  have HBW := Lib.hid hbw
  have HSZ := Lib.hid hsz
  have H := Lib.hid h
  have HRW := Lib.hid hRW
  have HYL := Lib.hid hyl
  have HW : Hid (W = w.alloc (.cells zMsg.toArray 42)) := hW
  clear h hb0 hbw hsz hRW hyl hln hW
  obtain ⟨fs42, hu42⟩ := und42
  go_enter Try.func16, Try.ntmps16
  go_upto_region 1 with fail
  change Code.wp _ _ _ _ (w.alloc (.cells zMsg.toArray 42))
  rw [← HW.out]
  clear HW
  go_wp2_with fail
  refine HAT.out.mono ?_
  rintro e w1 ⟨rfl, hat⟩
  clear HAT
  rcases hat with ⟨rfl, hno⟩ | ⟨k, m, rfl, hm, his, hck⟩
  · have HTH := Lib.hid (there_block HB0.out)
    have hF := setCells_heap zMsg 0 HB0.out
    rw [putL_all rfl] at hF
    have ho := (Only.refl w.heap.size w1).setCells zMsg 0
    obtain ⟨F, hFe⟩ : ∃ F, F = w1.setCells w.heap.size 0 zMsg := ⟨_, rfl⟩
    have hbF : Below w.heap.size w F := by rw [hFe]; exact ⟨ho.os.trans HBW.out.os, ho.tape.trans HBW.out.tape, ho.output.trans HBW.out.output, by rw [ho.size]; exact HBW.out.size, fun q hq => by rw [ho.block _ (by omega)]; exact HBW.out.block q hq⟩
    have hpost : RTakePost w T y n C l cuts a b i (.returned (.tuple #[.agg zMsg.toArray, .bool false])) F := ⟨none, zMsg, hno, rfl, rfl, rfl, List.all_eq_true.1 (show zMsg.all (·.oneCell') = true by decide +kernel), T, _, H.out.up hbF, RFr.of hbF⟩
    rw [hFe] at hpost
    have HF := Lib.hid hF
    have HPOST := Lib.hid hpost
    clear hno hF ho hbF hpost hFe F
    by_cases hi : i < 0
    · have hi' : decide (i < 0) = true := by simpa using hi
      clear hi
      go_wp2_with (refine wpList_store_mid rfl 42 _ _ rfl w.heap.size 0 zMsg.toArray rfl rfl ?i2 ?i3 ?i4 ?_; (case i2 => rw [zMsg_size]; exact HTH.out); (case i3 => rw [zMsg_size]; exact size42); (case i4 => exact zMsg_all))
      exact bodyPost_ret (v := .tuple #[.agg zMsg.toArray, .bool false]) (results_two rfl _ _ w.heap.size 42 zMsg.toArray (0, 0) _ rfl HF.out rfl zMsg_size) rfl HPOST.out
    · have hi' : decide (i < 0) = false := by simpa using hi
      clear hi
      go_wp2_with (refine wpList_store_mid rfl 42 _ _ rfl w.heap.size 0 zMsg.toArray rfl rfl ?i2 ?i3 ?i4 ?_; (case i2 => rw [zMsg_size]; exact HTH.out); (case i3 => rw [zMsg_size]; exact size42); (case i4 => exact zMsg_all))
      exact bodyPost_ret (v := .tuple #[.agg zMsg.toArray, .bool false]) (results_two rfl _ _ w.heap.size 42 zMsg.toArray (0, 0) _ rfl HF.out rfl zMsg_size) rfl HPOST.out
  · have hi' : decide (i < 0) = false := by simp; omega
    have hkl : k < ln := by have := (List.getElem?_eq_some_iff.1 hm).1; have := HLN.out; omega
    obtain ⟨g, c, e, _, _, hrng⟩ := HRW.out.msg hm
    simp only [Value.slice.injEq] at e
    obtain ⟨rfl, _, rfl⟩ := e
    have hmo := HRW.out.ok m.c (List.mem_map.2 ⟨m, List.mem_of_getElem? hm, rfl⟩)
    have hspec : AtSpec l a b i (some k) := ⟨m, hm, his, hck⟩
    obtain ⟨mc, hmc⟩ : ∃ c, m.c = c := ⟨_, rfl⟩
    rw [hmc] at hrng hmo
    -- the box of the message
    have hg1 : (w1.alloc (.cells zMsg.toArray 42)).heap[w1.heap.size]? = some (.cells zMsg.toArray 42 (0, 0)) := heap_alloc_new _ _
    obtain ⟨p1, p2, p3⟩ : (w1.alloc (.cells zMsg.toArray 42)).there w1.heap.size 0 34 ∧ Below w1.heap.size w1 ((w1.alloc (.cells zMsg.toArray 42)).setCells w1.heap.size 0 mc) ∧ ((w1.alloc (.cells zMsg.toArray 42)).setCells w1.heap.size 0 mc).heap[w1.heap.size]? = some (.cells mc.toArray 42 (0, 0)) := by
      have hg := setCells_heap mc 0 hg1
      rw [putL_all (by rw [hmo.1]; rfl)] at hg
      have ho := (Only.refl w1.heap.size (w1.alloc (.cells zMsg.toArray 42))).setCells mc 0
      have hb2 : Below w1.heap.size w1 (w1.alloc (.cells zMsg.toArray 42)) := (Below.refl _ _).alloc (Nat.le_refl _) _
      exact ⟨there_block hg1, ⟨ho.os.trans hb2.os, ho.tape.trans hb2.tape, ho.output.trans hb2.output, by rw [ho.size]; exact hb2.size, fun q hq => by rw [ho.block _ (by omega)]; exact hb2.block q hq⟩, hg⟩
    obtain ⟨w2, hw2⟩ : ∃ v, v = (w1.alloc (.cells zMsg.toArray 42)).setCells w1.heap.size 0 mc := ⟨_, rfl⟩
    rw [← hw2] at p2 p3
    have hb02 : w2.heap[w.heap.size]? = some (.cells zMsg.toArray 42 (0, 0)) := (p2.block _ (by have := HSZ.out; omega)).trans HB0.out
    have hR2 := HRW.out.up p2
    have HSPEC := Lib.hid hspec
    have HRNG := Lib.hid hrng
    have HMO := Lib.hid hmo
    have HM : Hid (∃ m, l[k]? = some m ∧ m.c = mc) := ⟨m, hm, hmc⟩
    have HMS : Hid (mc.toArray.size = 34) := by show mc.toArray.size = 34; simpa using hmo.1
    have HTH := Lib.hid p1
    have HB2 := Lib.hid p2
    have HX2 := Lib.hid p3
    have HB02 := Lib.hid hb02
    have HR2 := Lib.hid hR2
    have HW2 : Hid (w2 = (w1.alloc (.cells zMsg.toArray 42)).setCells w1.heap.size 0 mc) := hw2
    clear his hck hspec hrng hmo hm hmc hg1 p1 p2 p3 hw2 hb02 hR2
    go_upto_region 5 with (first
      | (refine wpList_load_mid rfl 42 _ rfl g (k * 34) rfl mc _ HRNG.out hu42 rfl ?i1 ?_; (case i1 => rw [HMO.out.1]; exact size42))
      | (refine wpList_store_mid rfl 42 _ _ rfl w1.heap.size 0 mc.toArray rfl rfl ?i2 ?i3 ?i4 ?_; (case i2 => rw [HMS.out]; exact HTH.out); (case i3 => rw [HMS.out]; exact size42); (case i4 => exact all_oneCell_toArray HMO.out.2)))
    change Code.wp _ _ _ _ ((w1.alloc (.cells zMsg.toArray 42)).setCells w1.heap.size 0 mc)
    rw [← HW2.out]
    clear HW2 HTH
    obtain ⟨xs, hxs⟩ : ∃ xs, (l.map RM.c).flatten = xs := ⟨_, rfl⟩
    have hlx : (l.map RM.c).length = ln := by rw [List.length_map]; exact HLN.out
    have hown := HR2.out.hl
    have hokk := HR2.out.ok
    have hcap : ln ≤ cL ∧ cL ≤ 9223372036854775807 := by
      rcases hown.2 with ⟨e, _⟩ | ⟨g', cap, cur, e, _, _, q1, q2, _⟩
      · cases e
      · simp only [Value.slice.injEq, Option.some.injEq, Addr.mk.injEq] at e
        obtain ⟨_, _, rfl⟩ := e
        have := HLN.out
        exact ⟨by omega, by simpa [maxLen] using q2⟩
    have hone := hokk.one
    have hxl := flat_len hokk
    rw [hlx] at hxl
    have htk := flat_take hokk (i := k) (by omega)
    have hdr := flat_drop hokk (i := k + 1) (by omega)
    rw [hxs] at hone hxl htk hdr
    have hcells : ∀ j u, xs[j]? = some u → w2.cell? ⟨g, j, none⟩ = some u := fun j u hu => by
      have := hown.cells (g := g) rfl j u (by rw [hxs]; exact hu)
      rw [Addr.add_lit, Nat.zero_add] at this
      exact this
    have hsrc1 : Src w2 (.slice (some ⟨g, 0, none⟩) k cL) k (xs.take (k * 34)) := by
      refine ⟨by rw [List.length_take]; omega, fun u hu => hone u (List.mem_of_mem_take hu), .inr ⟨g, 0, cL, rfl, fun j z hz => ?_⟩⟩
      rw [List.getElem?_take] at hz
      split at hz
      · rw [Nat.zero_add]; exact hcells _ _ hz
      · cases hz
    obtain ⟨ag, ao, hA, hsrc2⟩ : ∃ ag ao, (if cL = k + 1 then (some (⟨g, 0, none⟩ : Addr)) else some ⟨g, (k + 1) * 34, none⟩) = some ⟨ag, ao, none⟩ ∧ Src w2 (.slice (some ⟨ag, ao, none⟩) (ln - (k + 1)) (cL - (k + 1))) (ln - (k + 1)) (xs.drop ((k + 1) * 34)) := by
      by_cases hc : cL = k + 1
      · refine ⟨g, 0, by simp [hc], by rw [List.length_drop]; omega, fun u hu => hone u (List.mem_of_mem_drop hu), .inr ⟨g, 0, _, rfl, fun j z hz => ?_⟩⟩
        rw [List.getElem?_drop] at hz
        have := (List.getElem?_eq_some_iff.1 hz).1
        omega
      · refine ⟨g, (k + 1) * 34, by simp [hc], by rw [List.length_drop]; omega, fun u hu => hone u (List.mem_of_mem_drop hu), .inr ⟨g, (k + 1) * 34, _, rfl, fun j z hz => ?_⟩⟩
        rw [List.getElem?_drop] at hz
        exact hcells _ _ hz
    have hfin : ∀ w3 L', Hid (Below w2.heap.size w2 w3 → w3.ownsRow w2.heap.size 42 34 L' (k + (ln - (k + 1))) (xs.take (k * 34) ++ xs.drop ((k + 1) * 34)) →
        ∃ T', RefIn (w3.setCell ⟨y, 1, none⟩ L') T' y n L' C (l.eraseIdx k) cuts ∧ RFr T T' y w2 (w3.setCell ⟨y, 1, none⟩ L') ∧ w3.heap[y]? = some (.cells #[.int .i64 n, .slice (some ⟨g, 0, none⟩) ln cL, C] 71 (0, 0))) := fun w3 L' hb hown3 => by
      have hle : (l.eraseIdx k).length = k + (ln - (k + 1)) := by rw [List.length_eraseIdx_of_lt (by have := HLN.out; omega)]; have := HLN.out; omega
      have hme : (l.eraseIdx k).map RM.c = (l.map RM.c).eraseIdx k := by rw [List.eraseIdx_eq_take_drop_succ, List.eraseIdx_eq_take_drop_succ, List.map_append, List.map_take, List.map_drop]
      have hr := rset_fin (l' := l.eraseIdx k) HR2.out hb (Nat.le_refl _) (by
          rw [hle, hme, List.eraseIdx_eq_take_drop_succ, List.flatten_append, ← htk, ← hdr]; exact hown3)
        (fun q hq => by rw [hme] at hq; exact hokk q (List.mem_of_mem_eraseIdx hq)) (fun q hq => HR2.out.ft q (List.mem_of_mem_eraseIdx hq))
      have hln' : l.length = ln := HLN.out
      exact ⟨_, hr.1, hr.2, by rw [← hln']; exact (hb.block y (HR2.out.lt y HR2.out.ty)).trans HR2.out.hy⟩
    have hl2 : l.length = ln := HLN.out
    have HY2 : Hid (w2.heap[y]? = some (.cells #[.int .i64 n, .slice (some ⟨g, 0, none⟩) ln cL, C] 71 (0, 0))) := by have := HR2.out.hy; rw [hl2] at this; exact this
    have HYW : Hid (y < w2.heap.size) := HR2.out.lt y HR2.out.ty
    have HS1 := Lib.hid hsrc1
    have HS2 := Lib.hid hsrc2
    have HA := Lib.hid hA
    have hic : k ≤ cL := by omega
    have hic1 : k + 1 ≤ cL := by omega
    have hin1 : k + 1 ≤ ln := by omega
    have hcap1 := hcap.1
    have hcap2 := hcap.2
    have hw1 : IntKind.i64.wrap ((k : Int) + 1) = (k : Int) + 1 := IntWalk.i64_in _ (by omega)
    have hw2 : (0 : Int) ≤ (k : Int) + 1 := by omega
    have hw3 : ((k : Int) + 1).toNat = k + 1 := by omega
    clear hlx hown hokk hone hxl htk hdr hcells hsrc1 hsrc2 hxs hl2 hcap
    refine wp_region_any (by kernel_rfl) ?_
    change wpAny _ _ _ _ _ _ _ (World.drew _)
    refine wpAny_take (i := 0) (v := .pointer (some ⟨y, 0, none⟩)) rfl (by kernel_rfl) (by kernel_rfl) (by kernel_rfl) (fun _ _ _ h => h) (Or.inl ⟨by rfl, by intro _; go_simp⟩) ?_
    refine wpAny_take (i := 2) (v := .pointer (some ⟨y, 0, none⟩)) rfl (by kernel_rfl) (by kernel_rfl) (by kernel_rfl) (fun _ _ _ h => h) (Or.inl ⟨by rfl, by intro _; go_simp⟩) ?_
    refine wpAny_take (i := 3) (v := .pointer (some ⟨y, 0, none⟩)) rfl (by kernel_rfl) (by kernel_rfl) (by kernel_rfl) (fun _ _ _ h => h) (Or.inl ⟨by rfl, by intro _; go_simp⟩) ?_
    refine wpAny_take (i := 4) (v := .pointer (some ⟨y, 1, none⟩)) rfl (by kernel_rfl) (by kernel_rfl) (by kernel_rfl) (fun _ _ _ h => h) (Or.inl ⟨by rfl, by intro _; go_simp⟩) ?_
    refine wpAny_take (i := 6) (v := .int .i64 (k : Int)) rfl (by kernel_rfl) (by kernel_rfl) (by kernel_rfl) (fun _ _ _ h => h) (Or.inl ⟨by rfl, by intro _; go_simp⟩) ?_
    refine wpAny_take (i := 9) (v := .pointer (some ⟨y, 0, none⟩)) rfl (by kernel_rfl) (by kernel_rfl) (by kernel_rfl) (fun _ _ _ h => h) (Or.inl ⟨by rfl, by intro _; go_simp⟩) ?_
    refine wpAny_take (i := 10) (v := .pointer (some ⟨y, 0, none⟩)) rfl (by kernel_rfl) (by kernel_rfl) (by kernel_rfl) (fun _ _ _ h => h) (Or.inl ⟨by rfl, by intro _; go_simp⟩) ?_
    refine wpAny_take (i := 11) (v := .pointer (some ⟨y, 1, none⟩)) rfl (by kernel_rfl) (by kernel_rfl) (by kernel_rfl) (fun _ _ _ h => h) (Or.inl ⟨by rfl, by intro _; go_simp⟩) ?_
    refine wpAny_take (i := 13) (v := .int .i64 (k : Int)) rfl (by kernel_rfl) (by kernel_rfl) (by kernel_rfl) (fun _ _ _ h => h) (Or.inl ⟨by rfl, by intro _; go_simp⟩) ?_
    refine wpAny_take (i := 14) (v := .int .i64 ((k : Int) + 1)) rfl (by kernel_rfl) (by kernel_rfl) (by kernel_rfl) (fun _ _ _ h => h) (Or.inl ⟨by rfl, by intro _; go_simp⟩) ?_
    obtain ⟨x0, hx0⟩ : ∃ v, v = World.drew w2 := ⟨_, rfl⟩
    have HKP : ∀ v, Hid (Below w2.heap.size w2 v → v.heap[y]? = some (.cells #[.int .i64 n, .slice (some ⟨g, 0, none⟩) ln cL, C] 71 (0, 0))) := fun v hb => (hb.block _ HYW.out).trans HY2.out
    have BEL0 : Hid (Below w2.heap.size w2 x0) := by rw [hx0]; exact (Below.refl _ _).drew
    rw [← hx0]
    clear hx0
    refine Rg.Any.plain (S := Rg.But [17, 18, 19] (fun v => v.heap[y]? = some (.cells #[.int .i64 n, .slice (some ⟨g, 0, none⟩) ln cL, C] 71 (0, 0)))) _ _ _ _ ?_
    refine Rg.take 5 (v := .slice (some ⟨g, 0, none⟩) ln cL) rfl (by kernel_rfl) (by kernel_rfl) (by kernel_rfl) (fun _ _ _ h => h) (Rg.But.lets (by kernel_rfl) (fun _ h => h)) (fun _ h => .mk h) (Or.inl ⟨by rfl, fun v hv => ?_⟩) ((HKP _).out BEL0.out) ?_
    · have c : v.cell? ⟨y, 1, none⟩ = some (.slice (some ⟨g, 0, none⟩) ln cL) := cell_at hv rfl
      go_simp
    refine Rg.take 12 (v := .slice (some ⟨g, 0, none⟩) ln cL) rfl (by kernel_rfl) (by kernel_rfl) (by kernel_rfl) (fun _ _ _ h => h) (Rg.But.lets (by kernel_rfl) (fun _ h => h)) (fun _ h => .mk h) (Or.inl ⟨by rfl, fun v hv => ?_⟩) ((HKP _).out BEL0.out) ?_
    · have c : v.cell? ⟨y, 1, none⟩ = some (.slice (some ⟨g, 0, none⟩) ln cL) := cell_at hv rfl
      go_simp
    refine Rg.take 7 (v := .slice (some ⟨g, 0, none⟩) k cL) rfl (by kernel_rfl) (by kernel_rfl) (by kernel_rfl) (fun _ _ _ h => h) (Rg.But.lets (by kernel_rfl) (fun _ h => h)) (fun _ h => .mk h) (Or.inl ⟨by rfl, fun v hv => ?_⟩) ((HKP _).out BEL0.out) ?_
    · go_simp
    refine Rg.take 15 (v := .slice (some ⟨ag, ao, none⟩) (ln - (k + 1)) (cL - (k + 1))) rfl (by kernel_rfl) (by kernel_rfl) (by kernel_rfl) (fun _ _ _ h => h) (Rg.But.lets (by kernel_rfl) (fun _ h => h)) (fun _ h => .mk h) (Or.inl ⟨by rfl, fun v hv => ?_⟩) ((HKP _).out BEL0.out) ?_
    · have hA := HA.out
      go_simp
      intro h
      omega
    refine Rg.only 1 (by kernel_rfl) (by simp only [List.getElem?_toArray, List.getElem?_cons_succ, List.getElem?_cons_zero]; rfl) (fun K hK => ?_)
    go_simp
    obtain ⟨x1, hx1⟩ : ∃ v, v = World.alloc x0 (.cells #[] 42) := ⟨_, rfl⟩
    have B1 : Hid (Below w2.heap.size w2 x1) := by rw [hx1]; exact BEL0.out.alloc BEL0.out.size _
    have O1 : Hid (x1.ownsRow w2.heap.size 42 34 (.slice (some ⟨x0.heap.size, 0, none⟩) 0 0) 0 []) := by rw [hx1]; exact World.ownsRow_made _ #[] 0 BEL0.out.size (by simp [maxLen]) rfl
    rw [← hx1]
    clear hx1
    refine hK.out _ _ (.mk ((HKP _).out B1.out)) ?_
    clear hK K
    refine Rg.only 8 (by kernel_rfl) (by simp only [List.getElem?_toArray, List.getElem?_cons_succ, List.getElem?_cons_zero]; rfl) (fun K hK => ?_)
    rw [if_pos (by rfl)]
    refine wp_append_msgs (.tmp 32) (.tmp 38) rfl w2.heap.size (.slice (some ⟨x0.heap.size, 0, none⟩) 0 0) 0 [] rfl O1.out (.slice (some ⟨g, 0, none⟩) k cL) k (xs.take (k * 34)) rfl (HS1.out.up B1.out) (by omega) B1.out.size ?_
    intro v2 x2 hown hgr
    rw [Nat.zero_add, List.nil_append] at hown
    have B2 : Hid (Below w2.heap.size w2 x2) := B1.out.grown hgr B1.out.size (fun q hq => (O1.out.lt q hq).1)
    have O2 := Lib.hid hown
    clear hown hgr
    refine hK.out _ _ (.mk ((HKP _).out B2.out)) ?_
    clear hK K
    refine Rg.only 16 (by kernel_rfl) (by simp only [List.getElem?_toArray, List.getElem?_cons_succ, List.getElem?_cons_zero]; rfl) (fun K hK => ?_)
    rw [if_pos (by rfl)]
    refine wp_append_msgs (.tmp 39) (.tmp 46) rfl w2.heap.size v2 k (xs.take (k * 34)) rfl O2.out (.slice (some ⟨ag, ao, none⟩) (ln - (k + 1)) (cL - (k + 1))) (ln - (k + 1)) (xs.drop ((k + 1) * 34)) rfl (HS2.out.up B2.out) (by omega) B2.out.size ?_
    intro v3 x3 hown hgr
    have B3 : Hid (Below w2.heap.size w2 x3) := B2.out.grown hgr B2.out.size (fun q hq => (O2.out.lt q hq).1)
    have O3 := Lib.hid hown
    clear hown hgr
    refine hK.out _ _ (.mk ((HKP _).out B3.out)) ?_
    clear hK K
    obtain ⟨va, vc, hv⟩ := ownsRow_shape O3.out
    obtain ⟨T', hr, hfr, hy3⟩ := (hfin x3 v3).out B3.out O3.out
    rw [hv] at hr hfr ⊢
    obtain ⟨x4, hx4⟩ : ∃ v, v = World.setCell x3 ⟨y, 1, none⟩ (.slice va (k + (ln - (k + 1))) vc) := ⟨_, rfl⟩
    rw [← hx4] at hr hfr
    have c3 : x3.cell? ⟨y, 1, none⟩ = some (.slice (some ⟨g, 0, none⟩) ln cL) := cell_at hy3 rfl
    have f3 : x3.frozen? ⟨y, 1, none⟩ = false := frozen_of_block hy3 _
    have hyw : y < w.heap.size := HYL.out
    have hs12 := HB2.out.size
    have hwz := HSZ.out
    have e4 : ∀ q, q < w2.heap.size → q ≠ y → x4.heap[q]? = w2.heap[q]? := fun q hq hn => hfr.1.block q hq hn
    have hX4 : x4.heap[w1.heap.size]? = some (.cells mc.toArray 42 (0, 0)) := (e4 _ (Array.getElem?_eq_some_iff.1 HX2.out).1 (by omega)).trans HX2.out
    have hB4 : x4.heap[w.heap.size]? = some (.cells zMsg.toArray 42 (0, 0)) := (e4 _ (by omega) (by omega)).trans HB02.out
    obtain ⟨F, hFe⟩ : ∃ F, F = x4.setCells w.heap.size 0 mc := ⟨_, rfl⟩
    have hF := setCells_heap mc 0 hB4
    rw [putL_all (by rw [HMO.out.1]; rfl), ← hFe] at hF
    have ho := (Only.refl w.heap.size x4).setCells mc 0
    rw [← hFe] at ho
    have hTn : ¬ T' w.heap.size := fun ht => (hfr.2 _ ht).elim (fun h => by have := H.out.lt _ h; omega) (fun h => by omega)
    have hRF : RefIn F T' y n (.slice va (k + (ln - (k + 1))) vc) C (l.eraseIdx k) cuts := hr.keep (by rw [ho.size]; exact Nat.le_refl _) (fun q hq _ => ho.block q (fun e => hTn (by rw [← e]; exact hq)))
    have hB12 := HB2.out
    have hFr : RFr T T' y w F := by
      refine ⟨⟨?_, ?_, ?_, ?_, fun q hq hn => ?_, fun q hq => .inl hq⟩, fun q hq => (hfr.2 q hq).imp id (fun h => by omega)⟩
      · exact ho.os.trans (hfr.1.os.trans (hB12.os.trans HBW.out.os))
      · exact ho.tape.trans (hfr.1.tape.trans (hB12.tape.trans HBW.out.tape))
      · exact ho.output.trans (hfr.1.output.trans (hB12.output.trans HBW.out.output))
      · rw [ho.size]; have := hfr.1.size; have := HBW.out.size; omega
      · rw [ho.block q (by omega), e4 q (by omega) hn, hB12.block q (by omega)]; exact HBW.out.block q hq
    have hpost : RTakePost w T y n C l cuts a b i (.returned (.tuple #[.agg mc.toArray, .bool true])) F := ⟨some k, mc, HSPEC.out, rfl, HM.out, HMO.out.1, HMO.out.2, T', _, hRF, hFr⟩
    rw [hFe] at hpost hF
    have HX4 := Lib.hid hX4
    have HTH4 := Lib.hid (there_block hB4)
    have HF := Lib.hid hF
    have HPOST := Lib.hid hpost
    have HXE : Hid (x4 = World.setCell x3 ⟨y, 1, none⟩ (.slice va (k + (ln - (k + 1))) vc)) := hx4
    clear hv hr hfr hy3 hx4 e4 hX4 hB4 hFe hF ho hTn hRF hB12 hFr hpost hyw hs12 hwz
    refine Rg.only 17 (by kernel_rfl) (by simp only [List.getElem?_toArray, List.getElem?_cons_succ, List.getElem?_cons_zero]; rfl) (fun K hK => ?_)
    go_simp
    refine hK.out _ _ (.inl rfl) ?_
    clear hK K
    refine Rg.only 18 (by kernel_rfl) (by simp only [List.getElem?_toArray, List.getElem?_cons_succ, List.getElem?_cons_zero]; rfl) (fun K hK => ?_)
    go_simp
    refine hK.out _ _ (.inl rfl) ?_
    clear hK K
    refine Rg.only 19 (by kernel_rfl) (by simp only [List.getElem?_toArray, List.getElem?_cons_succ, List.getElem?_cons_zero]; rfl) (fun K hK => ?_)
    go_simp
    refine hK.out _ _ (.inl rfl) ?_
    clear hK K
    refine Rg.done (by kernel_rfl) ?_
    rw [← HXE.out]
    clear HXE c3 f3
    go_wp2_with (first
      | (refine wpList_load_row rfl 42 _ rfl w1.heap.size rfl 42 mc.toArray (0, 0) _ HX4.out hu42 rfl ?i1 ?_; (case i1 => rw [HMS.out]; exact size42))
      | (refine wpList_store_mid rfl 42 _ _ rfl w.heap.size 0 mc.toArray rfl rfl ?i2 ?i3 ?i4 ?_; (case i2 => rw [HMS.out]; exact HTH4.out); (case i3 => rw [HMS.out]; exact size42); (case i4 => exact all_oneCell_toArray HMO.out.2)))
    exact bodyPost_ret (v := .tuple #[.agg mc.toArray, .bool true]) (results_two rfl _ _ w.heap.size 42 mc.toArray (0, 0) _ rfl HF.out rfl HMS.out) rfl HPOST.out

def RLosePost (w : World) (T : Nat → Prop) (y n : Nat) (C : Value) (l : List RM) (cuts : List (Int × Int)) (a b i : Int) : Ending → World → Prop := fun e w' =>
  ∃ r, AtSpec l a b i r ∧ e = .returned (.bool r.isSome) ∧ ∃ T' L', RefIn w' T' y n L' C (match r with | none => l | some k => l.eraseIdx k) cuts ∧ RFr T T' y w w'
set_option maxHeartbeats 1000000 in
theorem rlose_any {w : World} {T : Nat → Prop} {y n : Nat} {L C : Value} {l : List RM} {cuts : List (Int × Int)} (h : RefIn w T y n L C l cuts) (hl : l.length ≤ 1000) (a b i : Int) :
    Calls Try.prog 18 #[.pointer (some ⟨y, 0, none⟩), .int .i64 a, .int .i64 b, .int .i64 i] w (RLosePost w T y n C l cuts a b i) := by
  have HT := Lib.hid (rtake_any h hl a b i)
  clear h
  go_enter Try.func18, Try.ntmps18
  go_wp2_with fail
  refine HT.out.mono ?_
  rintro e w1 ⟨r, c, hsp, rfl, _, hml, hm1, T', L', hr, hfr⟩
  clear HT
  obtain ⟨W2, hW2⟩ : ∃ W2, W2 = w1.alloc (.cells zMsg.toArray 42) := ⟨_, rfl⟩
  have g2 : W2.heap[w1.heap.size]? = some (.cells zMsg.toArray 42 (0, 0)) := by rw [hW2]; exact heap_alloc_new w1 _
  have hb2 : Below w1.heap.size w1 W2 := by rw [hW2]; exact (Below.refl _ w1).alloc (Nat.le_refl _) _
  have ho := (Only.refl w1.heap.size W2).setCells c 0
  have hb3 : Below w1.heap.size w1 (W2.setCells w1.heap.size 0 c) := ⟨ho.os.trans hb2.os, ho.tape.trans hb2.tape, ho.output.trans hb2.output, by rw [ho.size]; exact hb2.size, fun k hk => by rw [ho.block k (by omega)]; exact hb2.block k hk⟩
  have hfin : RLosePost w T y n C l cuts a b i (.returned (.bool r.isSome)) (W2.setCells w1.heap.size 0 c) := ⟨r, hsp, rfl, T', L', hr.up hb3, hfr.trans (RFr.of hb3)⟩
  have HFIN := Lib.hid hfin
  have HTH := Lib.hid (there_block g2)
  have HMS : Hid (c.toArray.size = 34) := by show c.toArray.size = 34; simpa using hml
  have HM1 := Lib.hid hm1
  have HW2 : Hid (W2 = w1.alloc (.cells zMsg.toArray 42)) := hW2
  obtain ⟨ok, hok⟩ : ∃ ok, r.isSome = ok := ⟨_, rfl⟩
  rw [hok] at HFIN ⊢
  clear hsp hr hfr hml hm1 g2 hb2 ho hb3 hfin hW2 hok
  go_wp2_with (change wpList _ _ _ _ _ (w1.alloc (.cells zMsg.toArray 42)); rw [← HW2.out]; refine wpList_store_mid rfl 42 _ _ rfl w1.heap.size 0 c.toArray rfl rfl ?i2 ?i3 ?i4 ?_; (case i2 => rw [HMS.out]; exact HTH.out); (case i3 => rw [HMS.out]; exact size42); (case i4 => exact all_oneCell_toArray HM1.out))
  go_ret
  exact HFIN.out
end Go.Proofs.Ytdkpgjhjdnfieaa
