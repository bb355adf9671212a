/- items of the law's own Same: two Items that read alike are the same. Condition: their cells are of their kinds. -/
import Derived.Test.YtdkpgjhjdnfieaaAn
set_option linter.unusedVariables false
set_option linter.unusedSimpArgs false
namespace Go.Proofs.Ytdkpgjhjdnfieaa
open Go.RowKit Go.Mf
set_option maxRecDepth 100000

def K96 : List CK := [.int .i64, .int .i64, .str, .int .i64, .str, .int .i64, .int .i64, .str, .str, .int .i64, .str, .sl, .str, .str, .str, .str, .int .i64, .sl, .int .i64, .int .i64, .int .i64, .int .i64, .str, .int .i64, .str, .int .i64, .int .i64, .int .i64, .int .i64, .int .i64, .int .i64, .int .i64, .str, .int .i64, .str, .int .i64, .int .i64, .int .i64, .int .i64, .int .i64, .int .i64, .str, .str, .str, .sl, .int .i64, .int .i64, .int .i64, .int .i64, .int .i64]
def EntTy (E : EntD) : Prop := All2 K96 E.sc ∧ ActTy E.act ∧ ∀ u ∈ E.dto, CK.str.ok u
theorem und92 : ∃ fs, Try.prog.underlying 92 = some (.struct fs) := ⟨_, rfl⟩
theorem und88 : ∃ fs, Try.prog.underlying 88 = some (.struct fs) := ⟨_, rfl⟩
theorem und90 : ∃ fs, Try.prog.underlying 90 = some (.struct fs) := ⟨_, rfl⟩
theorem size92 : (Try.prog.info? 92).map (·.size) = some 12 := by kernel_rfl
def z92 : List Value := [.int .i64 0, .int .i64 0, .int .i64 0, .string ⟨#[]⟩, .string ⟨#[]⟩, .string ⟨#[]⟩, .slice none 0 0, .int .i64 0, .int .i64 0, .int .i64 0, .int .i64 0, .int .i64 0]
theorem box_store {c z : List Value} {t : TypeId} {w W2 W3 : World} (hml : c.length = z.length) (h2 : W2 = w.alloc (.cells z.toArray t)) (h3 : W3 = W2.setCells w.heap.size 0 c) :
    W2.heap[w.heap.size]? = some (.cells z.toArray t (0, 0)) ∧ Below w.heap.size w W3 ∧ W3.heap[w.heap.size]? = some (.cells c.toArray t (0, 0)) := by
  have g2 : W2.heap[w.heap.size]? = some (.cells z.toArray t (0, 0)) := by rw [h2]; exact heap_alloc_new w _
  have hb2 : Below w.heap.size w W2 := by rw [h2]; exact (Below.refl _ w).alloc (Nat.le_refl _) _
  have hg := setCells_heap c 0 g2
  rw [putL_all (by simp [hml])] at hg
  have ho := (Only.refl w.heap.size W2).setCells c 0
  refine ⟨g2, ?_, by rw [h3]; exact hg⟩
  rw [h3]
  exact ⟨ho.os.trans hb2.os, ho.tape.trans hb2.tape, ho.output.trans hb2.output, by rw [ho.size]; exact hb2.size, fun k hk => by rw [ho.block k (by omega)]; exact hb2.block k hk⟩
theorem mask_get3 {cs sc : List Value} {i j k : Nat} {a b c u : Value} (h : ((cs.set i a).set j b).set k c = sc) {q : Nat} (h1 : i ≠ q) (h2 : j ≠ q) (h3 : k ≠ q) (hu : sc[q]? = some u) : cs[q]? = some u := by
  rw [← h, List.getElem?_set_ne h3, List.getElem?_set_ne h2, List.getElem?_set_ne h1] at hu
  exact hu
theorem drop_at {cs : List Value} {d q : Nat} {u : Value} (h : cs[d + q]? = some u) : (cs.drop d)[q]? = some u := by rw [List.getElem?_drop]; exact h
theorem take_at {cs : List Value} {n q : Nat} {u : Value} (hq : q < n) (h : cs[q]? = some u) : (cs.take n)[q]? = some u := by rw [List.getElem?_take, if_pos hq]; exact h
theorem range_of {w : World} {b : Nat} {cs : List Value} {t : TypeId} {fr : Nat × Nat} (h : w.heap[b]? = some (.cells cs.toArray t fr)) (o n : Nat) : w.rangeAt b o ((cs.drop o).take n) := fun j u hu => by
  rw [List.getElem?_take] at hu
  split at hu
  · rw [List.getElem?_drop] at hu
    exact cell_at h hu
  · cases hu

set_option maxHeartbeats 8000000 in
theorem items_any (w : World) (S1 S2 : Nat → Prop) (cs1 cs2 : List Value) (E : EntD) (h1 : EntIn w S1 cs1 E) (h2 : EntIn w S2 cs2 E) (hS1 : ∀ k, S1 k → k < w.heap.size) (hS2 : ∀ k, S2 k → k < w.heap.size) (ht : EntTy E) :
    Calls Try.prog 43 #[.agg (cs1.drop 1).toArray, .agg (cs2.drop 1).toArray] w fun e w' => e = .returned (.bool true) ∧ Below w.heap.size w w' := by
  obtain ⟨r1, hq1⟩ : ∃ r, r = cs1.drop 1 := ⟨_, rfl⟩
  obtain ⟨r2, hq2⟩ : ∃ r, r = cs2.drop 1 := ⟨_, rfl⟩
  rw [← hq1, ← hq2]
  obtain ⟨W, hW⟩ : ∃ W, W = (w.alloc (.cells r1.toArray 94)).alloc (.cells r2.toArray 94) := ⟨_, rfl⟩
  have hs0 : (w.alloc (.cells r1.toArray 94)).heap.size = w.heap.size + 1 := by simp
  have hb2 : W.heap[w.heap.size + 1]? = some (.cells r2.toArray 94 (0, 0)) := by rw [hW, ← hs0]; exact heap_alloc_new _ _
  have hb1 : W.heap[w.heap.size]? = some (.cells r1.toArray 94 (0, 0)) := by rw [hW, Below.heap_alloc _ _ _ (by omega)]; exact heap_alloc_new w _
  have hbw : Below w.heap.size w W := by rw [hW]; exact ((Below.refl _ w).alloc (Nat.le_refl _) _).alloc (by omega) _
  have hlt : w.heap.size + 1 < W.heap.size := (Array.getElem?_eq_some_iff.1 hb2).1
  obtain ⟨hl1, ho1, hm1, ha1, v3, p44, hr1⟩ := h1
  obtain ⟨hl2, ho2, hm2, ha2, v3', q44, hr2⟩ := h2
  have hact := act_same W S1 S2 _ _ E.act (ha1.keep (fun _ h _ => h) (fun k hk _ => hbw.block k (hS1 k hk))) (ha2.keep (fun _ h _ => h) (fun k hk _ => hbw.block k (hS2 k hk))) (fun k hk => Nat.lt_of_lt_of_le (hS1 k hk) hbw.size) (fun k hk => Nat.lt_of_lt_of_le (hS2 k hk) hbw.size) ht.2.1
  have R1 := Lib.hid (hr1.below hbw hS1)
  have R2 := Lib.hid (hr2.below hbw hS2)
  have HDTO := Lib.hid ht.2.2
  obtain ⟨l1, hll1⟩ : ∃ l, l = (cs1.drop 38).take 12 := ⟨_, rfl⟩
  obtain ⟨l2, hll2⟩ : ∃ l, l = (cs2.drop 38).take 12 := ⟨_, rfl⟩
  obtain ⟨t1, ht1⟩ : ∃ l, l = (cs1.drop 2).take 20 := ⟨_, rfl⟩
  obtain ⟨t2, ht2⟩ : ∃ l, l = (cs2.drop 2).take 20 := ⟨_, rfl⟩
  have n1 : l1.length = 12 := by rw [hll1]; simp; omega
  have n2 : l2.length = 12 := by rw [hll2]; simp; omega
  have m1 : t1.length = 20 := by rw [ht1]; simp; omega
  have m2 : t2.length = 20 := by rw [ht2]; simp; omega
  rw [← ht1, ← ht2] at hact
  have A1 : Hid (W.rangeAt w.heap.size 1 t1) := by
    have := range_of hb1 1 20
    rw [hq1, List.drop_drop, ← ht1] at this
    exact this
  have A2 : Hid (W.rangeAt (w.heap.size + 1) 1 t2) := by
    have := range_of hb2 1 20
    rw [hq2, List.drop_drop, ← ht2] at this
    exact this
  have O1 : Hid (∀ u ∈ l1, u.oneCell' = true) := fun u hu => ho1 u (by rw [hll1] at hu; exact List.mem_of_mem_drop (List.mem_of_mem_take hu))
  have O2 : Hid (∀ u ∈ l2, u.oneCell' = true) := fun u hu => ho2 u (by rw [hll2] at hu; exact List.mem_of_mem_drop (List.mem_of_mem_take hu))
  have B1 : Hid (∀ V, Below W.heap.size W V → V.heap[w.heap.size]? = some (.cells r1.toArray 94 (0, 0)) ∧ V.rangeAt w.heap.size 37 l1) := fun V hV => by
    have h := block_up hV hb1 (by omega)
    have := range_of h 37 12
    rw [hq1, List.drop_drop, ← hll1] at this
    exact ⟨h, this⟩
  have B2 : Hid (∀ V, Below W.heap.size W V → V.heap[w.heap.size + 1]? = some (.cells r2.toArray 94 (0, 0)) ∧ V.rangeAt (w.heap.size + 1) 37 l2) := fun V hV => by
    have h := block_up hV hb2 (by omega)
    have := range_of h 37 12
    rw [hq2, List.drop_drop, ← hll2] at this
    exact ⟨h, this⟩
  obtain ⟨_, e1, x1, rfl⟩ := ht.1.get 1 (.int .i64) rfl
  replace e1 := And.intro (mask_get3 hm1 (q := 1) (by decide) (by decide) (by decide) e1) (mask_get3 hm2 (q := 1) (by decide) (by decide) (by decide) e1)
  obtain ⟨_, e22, x22, rfl⟩ := ht.1.get 22 .str rfl
  replace e22 := And.intro (mask_get3 hm1 (q := 22) (by decide) (by decide) (by decide) e22) (mask_get3 hm2 (q := 22) (by decide) (by decide) (by decide) e22)
  obtain ⟨_, e23, x23, rfl⟩ := ht.1.get 23 (.int .i64) rfl
  replace e23 := And.intro (mask_get3 hm1 (q := 23) (by decide) (by decide) (by decide) e23) (mask_get3 hm2 (q := 23) (by decide) (by decide) (by decide) e23)
  obtain ⟨_, e24, x24, rfl⟩ := ht.1.get 24 .str rfl
  replace e24 := And.intro (mask_get3 hm1 (q := 24) (by decide) (by decide) (by decide) e24) (mask_get3 hm2 (q := 24) (by decide) (by decide) (by decide) e24)
  obtain ⟨_, e25, x25, rfl⟩ := ht.1.get 25 (.int .i64) rfl
  replace e25 := And.intro (mask_get3 hm1 (q := 25) (by decide) (by decide) (by decide) e25) (mask_get3 hm2 (q := 25) (by decide) (by decide) (by decide) e25)
  obtain ⟨_, e26, x26, rfl⟩ := ht.1.get 26 (.int .i64) rfl
  replace e26 := And.intro (mask_get3 hm1 (q := 26) (by decide) (by decide) (by decide) e26) (mask_get3 hm2 (q := 26) (by decide) (by decide) (by decide) e26)
  obtain ⟨_, e27, x27, rfl⟩ := ht.1.get 27 (.int .i64) rfl
  replace e27 := And.intro (mask_get3 hm1 (q := 27) (by decide) (by decide) (by decide) e27) (mask_get3 hm2 (q := 27) (by decide) (by decide) (by decide) e27)
  obtain ⟨_, e28, x28, rfl⟩ := ht.1.get 28 (.int .i64) rfl
  replace e28 := And.intro (mask_get3 hm1 (q := 28) (by decide) (by decide) (by decide) e28) (mask_get3 hm2 (q := 28) (by decide) (by decide) (by decide) e28)
  obtain ⟨_, e29, x29, rfl⟩ := ht.1.get 29 (.int .i64) rfl
  replace e29 := And.intro (mask_get3 hm1 (q := 29) (by decide) (by decide) (by decide) e29) (mask_get3 hm2 (q := 29) (by decide) (by decide) (by decide) e29)
  obtain ⟨_, e30, x30, rfl⟩ := ht.1.get 30 (.int .i64) rfl
  replace e30 := And.intro (mask_get3 hm1 (q := 30) (by decide) (by decide) (by decide) e30) (mask_get3 hm2 (q := 30) (by decide) (by decide) (by decide) e30)
  obtain ⟨_, e31, x31, rfl⟩ := ht.1.get 31 (.int .i64) rfl
  replace e31 := And.intro (mask_get3 hm1 (q := 31) (by decide) (by decide) (by decide) e31) (mask_get3 hm2 (q := 31) (by decide) (by decide) (by decide) e31)
  obtain ⟨_, e32, x32, rfl⟩ := ht.1.get 32 .str rfl
  replace e32 := And.intro (mask_get3 hm1 (q := 32) (by decide) (by decide) (by decide) e32) (mask_get3 hm2 (q := 32) (by decide) (by decide) (by decide) e32)
  obtain ⟨_, e33, x33, rfl⟩ := ht.1.get 33 (.int .i64) rfl
  replace e33 := And.intro (mask_get3 hm1 (q := 33) (by decide) (by decide) (by decide) e33) (mask_get3 hm2 (q := 33) (by decide) (by decide) (by decide) e33)
  obtain ⟨_, e34, x34, rfl⟩ := ht.1.get 34 .str rfl
  replace e34 := And.intro (mask_get3 hm1 (q := 34) (by decide) (by decide) (by decide) e34) (mask_get3 hm2 (q := 34) (by decide) (by decide) (by decide) e34)
  obtain ⟨_, e35, x35, rfl⟩ := ht.1.get 35 (.int .i64) rfl
  replace e35 := And.intro (mask_get3 hm1 (q := 35) (by decide) (by decide) (by decide) e35) (mask_get3 hm2 (q := 35) (by decide) (by decide) (by decide) e35)
  obtain ⟨_, e36, x36, rfl⟩ := ht.1.get 36 (.int .i64) rfl
  replace e36 := And.intro (mask_get3 hm1 (q := 36) (by decide) (by decide) (by decide) e36) (mask_get3 hm2 (q := 36) (by decide) (by decide) (by decide) e36)
  obtain ⟨_, e37, x37, rfl⟩ := ht.1.get 37 (.int .i64) rfl
  replace e37 := And.intro (mask_get3 hm1 (q := 37) (by decide) (by decide) (by decide) e37) (mask_get3 hm2 (q := 37) (by decide) (by decide) (by decide) e37)
  obtain ⟨_, e38, x38, rfl⟩ := ht.1.get 38 (.int .i64) rfl
  replace e38 := And.intro (mask_get3 hm1 (q := 38) (by decide) (by decide) (by decide) e38) (mask_get3 hm2 (q := 38) (by decide) (by decide) (by decide) e38)
  obtain ⟨_, e39, x39, rfl⟩ := ht.1.get 39 (.int .i64) rfl
  replace e39 := And.intro (mask_get3 hm1 (q := 39) (by decide) (by decide) (by decide) e39) (mask_get3 hm2 (q := 39) (by decide) (by decide) (by decide) e39)
  obtain ⟨_, e40, x40, rfl⟩ := ht.1.get 40 (.int .i64) rfl
  replace e40 := And.intro (mask_get3 hm1 (q := 40) (by decide) (by decide) (by decide) e40) (mask_get3 hm2 (q := 40) (by decide) (by decide) (by decide) e40)
  obtain ⟨_, e41, x41, rfl⟩ := ht.1.get 41 .str rfl
  replace e41 := And.intro (mask_get3 hm1 (q := 41) (by decide) (by decide) (by decide) e41) (mask_get3 hm2 (q := 41) (by decide) (by decide) (by decide) e41)
  obtain ⟨_, e42, x42, rfl⟩ := ht.1.get 42 .str rfl
  replace e42 := And.intro (mask_get3 hm1 (q := 42) (by decide) (by decide) (by decide) e42) (mask_get3 hm2 (q := 42) (by decide) (by decide) (by decide) e42)
  obtain ⟨_, e43, x43, rfl⟩ := ht.1.get 43 .str rfl
  replace e43 := And.intro (mask_get3 hm1 (q := 43) (by decide) (by decide) (by decide) e43) (mask_get3 hm2 (q := 43) (by decide) (by decide) (by decide) e43)
  obtain ⟨_, e45, x45, rfl⟩ := ht.1.get 45 (.int .i64) rfl
  replace e45 := And.intro (mask_get3 hm1 (q := 45) (by decide) (by decide) (by decide) e45) (mask_get3 hm2 (q := 45) (by decide) (by decide) (by decide) e45)
  obtain ⟨_, e46, x46, rfl⟩ := ht.1.get 46 (.int .i64) rfl
  replace e46 := And.intro (mask_get3 hm1 (q := 46) (by decide) (by decide) (by decide) e46) (mask_get3 hm2 (q := 46) (by decide) (by decide) (by decide) e46)
  obtain ⟨_, e47, x47, rfl⟩ := ht.1.get 47 (.int .i64) rfl
  replace e47 := And.intro (mask_get3 hm1 (q := 47) (by decide) (by decide) (by decide) e47) (mask_get3 hm2 (q := 47) (by decide) (by decide) (by decide) e47)
  obtain ⟨_, e48, x48, rfl⟩ := ht.1.get 48 (.int .i64) rfl
  replace e48 := And.intro (mask_get3 hm1 (q := 48) (by decide) (by decide) (by decide) e48) (mask_get3 hm2 (q := 48) (by decide) (by decide) (by decide) e48)
  obtain ⟨_, e49, x49, rfl⟩ := ht.1.get 49 (.int .i64) rfl
  replace e49 := And.intro (mask_get3 hm1 (q := 49) (by decide) (by decide) (by decide) e49) (mask_get3 hm2 (q := 49) (by decide) (by decide) (by decide) e49)
  have C1 : Hid (∀ V, Below W.heap.size W V → V.cell? ⟨w.heap.size, 0, none⟩ = some (.int .i64 x1) ∧ V.cell? ⟨w.heap.size, 21, none⟩ = some (.string x22) ∧ V.cell? ⟨w.heap.size, 22, none⟩ = some (.int .i64 x23) ∧ V.cell? ⟨w.heap.size, 23, none⟩ = some (.string x24) ∧ V.cell? ⟨w.heap.size, 24, none⟩ = some (.int .i64 x25) ∧ V.cell? ⟨w.heap.size, 25, none⟩ = some (.int .i64 x26) ∧ V.cell? ⟨w.heap.size, 26, none⟩ = some (.int .i64 x27) ∧ V.cell? ⟨w.heap.size, 27, none⟩ = some (.int .i64 x28) ∧ V.cell? ⟨w.heap.size, 28, none⟩ = some (.int .i64 x29) ∧ V.cell? ⟨w.heap.size, 29, none⟩ = some (.int .i64 x30) ∧ V.cell? ⟨w.heap.size, 30, none⟩ = some (.int .i64 x31) ∧ V.cell? ⟨w.heap.size, 31, none⟩ = some (.string x32) ∧ V.cell? ⟨w.heap.size, 32, none⟩ = some (.int .i64 x33) ∧ V.cell? ⟨w.heap.size, 33, none⟩ = some (.string x34) ∧ V.cell? ⟨w.heap.size, 34, none⟩ = some (.int .i64 x35) ∧ V.cell? ⟨w.heap.size, 35, none⟩ = some (.int .i64 x36) ∧ V.cell? ⟨w.heap.size, 36, none⟩ = some (.int .i64 x37)) := fun V hV => ⟨cell_at (B1.out V hV).1 (by rw [hq1]; exact drop_at e1.1), cell_at (B1.out V hV).1 (by rw [hq1]; exact drop_at e22.1), cell_at (B1.out V hV).1 (by rw [hq1]; exact drop_at e23.1), cell_at (B1.out V hV).1 (by rw [hq1]; exact drop_at e24.1), cell_at (B1.out V hV).1 (by rw [hq1]; exact drop_at e25.1), cell_at (B1.out V hV).1 (by rw [hq1]; exact drop_at e26.1), cell_at (B1.out V hV).1 (by rw [hq1]; exact drop_at e27.1), cell_at (B1.out V hV).1 (by rw [hq1]; exact drop_at e28.1), cell_at (B1.out V hV).1 (by rw [hq1]; exact drop_at e29.1), cell_at (B1.out V hV).1 (by rw [hq1]; exact drop_at e30.1), cell_at (B1.out V hV).1 (by rw [hq1]; exact drop_at e31.1), cell_at (B1.out V hV).1 (by rw [hq1]; exact drop_at e32.1), cell_at (B1.out V hV).1 (by rw [hq1]; exact drop_at e33.1), cell_at (B1.out V hV).1 (by rw [hq1]; exact drop_at e34.1), cell_at (B1.out V hV).1 (by rw [hq1]; exact drop_at e35.1), cell_at (B1.out V hV).1 (by rw [hq1]; exact drop_at e36.1), cell_at (B1.out V hV).1 (by rw [hq1]; exact drop_at e37.1)⟩
  have C2 : Hid (∀ V, Below W.heap.size W V → V.cell? ⟨(w.heap.size + 1), 0, none⟩ = some (.int .i64 x1) ∧ V.cell? ⟨(w.heap.size + 1), 21, none⟩ = some (.string x22) ∧ V.cell? ⟨(w.heap.size + 1), 22, none⟩ = some (.int .i64 x23) ∧ V.cell? ⟨(w.heap.size + 1), 23, none⟩ = some (.string x24) ∧ V.cell? ⟨(w.heap.size + 1), 24, none⟩ = some (.int .i64 x25) ∧ V.cell? ⟨(w.heap.size + 1), 25, none⟩ = some (.int .i64 x26) ∧ V.cell? ⟨(w.heap.size + 1), 26, none⟩ = some (.int .i64 x27) ∧ V.cell? ⟨(w.heap.size + 1), 27, none⟩ = some (.int .i64 x28) ∧ V.cell? ⟨(w.heap.size + 1), 28, none⟩ = some (.int .i64 x29) ∧ V.cell? ⟨(w.heap.size + 1), 29, none⟩ = some (.int .i64 x30) ∧ V.cell? ⟨(w.heap.size + 1), 30, none⟩ = some (.int .i64 x31) ∧ V.cell? ⟨(w.heap.size + 1), 31, none⟩ = some (.string x32) ∧ V.cell? ⟨(w.heap.size + 1), 32, none⟩ = some (.int .i64 x33) ∧ V.cell? ⟨(w.heap.size + 1), 33, none⟩ = some (.string x34) ∧ V.cell? ⟨(w.heap.size + 1), 34, none⟩ = some (.int .i64 x35) ∧ V.cell? ⟨(w.heap.size + 1), 35, none⟩ = some (.int .i64 x36) ∧ V.cell? ⟨(w.heap.size + 1), 36, none⟩ = some (.int .i64 x37)) := fun V hV => ⟨cell_at (B2.out V hV).1 (by rw [hq2]; exact drop_at e1.2), cell_at (B2.out V hV).1 (by rw [hq2]; exact drop_at e22.2), cell_at (B2.out V hV).1 (by rw [hq2]; exact drop_at e23.2), cell_at (B2.out V hV).1 (by rw [hq2]; exact drop_at e24.2), cell_at (B2.out V hV).1 (by rw [hq2]; exact drop_at e25.2), cell_at (B2.out V hV).1 (by rw [hq2]; exact drop_at e26.2), cell_at (B2.out V hV).1 (by rw [hq2]; exact drop_at e27.2), cell_at (B2.out V hV).1 (by rw [hq2]; exact drop_at e28.2), cell_at (B2.out V hV).1 (by rw [hq2]; exact drop_at e29.2), cell_at (B2.out V hV).1 (by rw [hq2]; exact drop_at e30.2), cell_at (B2.out V hV).1 (by rw [hq2]; exact drop_at e31.2), cell_at (B2.out V hV).1 (by rw [hq2]; exact drop_at e32.2), cell_at (B2.out V hV).1 (by rw [hq2]; exact drop_at e33.2), cell_at (B2.out V hV).1 (by rw [hq2]; exact drop_at e34.2), cell_at (B2.out V hV).1 (by rw [hq2]; exact drop_at e35.2), cell_at (B2.out V hV).1 (by rw [hq2]; exact drop_at e36.2), cell_at (B2.out V hV).1 (by rw [hq2]; exact drop_at e37.2)⟩
  have C3 : Hid (∀ (V : World) (b : Nat), V.heap[b]? = some (.cells l1.toArray 92 (0, 0)) → V.cell? ⟨b, 0, none⟩ = some (.int .i64 x38) ∧ V.cell? ⟨b, 1, none⟩ = some (.int .i64 x39) ∧ V.cell? ⟨b, 2, none⟩ = some (.int .i64 x40) ∧ V.cell? ⟨b, 3, none⟩ = some (.string x41) ∧ V.cell? ⟨b, 4, none⟩ = some (.string x42) ∧ V.cell? ⟨b, 5, none⟩ = some (.string x43) ∧ V.cell? ⟨b, 7, none⟩ = some (.int .i64 x45) ∧ V.cell? ⟨b, 8, none⟩ = some (.int .i64 x46) ∧ V.cell? ⟨b, 9, none⟩ = some (.int .i64 x47) ∧ V.cell? ⟨b, 10, none⟩ = some (.int .i64 x48) ∧ V.cell? ⟨b, 11, none⟩ = some (.int .i64 x49) ∧ V.cell? ⟨b, 6, none⟩ = some v3) := fun V b hV => ⟨cell_at hV (by rw [hll1]; exact take_at (by omega) (drop_at e38.1)), cell_at hV (by rw [hll1]; exact take_at (by omega) (drop_at e39.1)), cell_at hV (by rw [hll1]; exact take_at (by omega) (drop_at e40.1)), cell_at hV (by rw [hll1]; exact take_at (by omega) (drop_at e41.1)), cell_at hV (by rw [hll1]; exact take_at (by omega) (drop_at e42.1)), cell_at hV (by rw [hll1]; exact take_at (by omega) (drop_at e43.1)), cell_at hV (by rw [hll1]; exact take_at (by omega) (drop_at e45.1)), cell_at hV (by rw [hll1]; exact take_at (by omega) (drop_at e46.1)), cell_at hV (by rw [hll1]; exact take_at (by omega) (drop_at e47.1)), cell_at hV (by rw [hll1]; exact take_at (by omega) (drop_at e48.1)), cell_at hV (by rw [hll1]; exact take_at (by omega) (drop_at e49.1)), cell_at hV (by rw [hll1]; exact take_at (by omega) (drop_at p44))⟩
  have C4 : Hid (∀ (V : World) (b : Nat), V.heap[b]? = some (.cells l2.toArray 92 (0, 0)) → V.cell? ⟨b, 0, none⟩ = some (.int .i64 x38) ∧ V.cell? ⟨b, 1, none⟩ = some (.int .i64 x39) ∧ V.cell? ⟨b, 2, none⟩ = some (.int .i64 x40) ∧ V.cell? ⟨b, 3, none⟩ = some (.string x41) ∧ V.cell? ⟨b, 4, none⟩ = some (.string x42) ∧ V.cell? ⟨b, 5, none⟩ = some (.string x43) ∧ V.cell? ⟨b, 7, none⟩ = some (.int .i64 x45) ∧ V.cell? ⟨b, 8, none⟩ = some (.int .i64 x46) ∧ V.cell? ⟨b, 9, none⟩ = some (.int .i64 x47) ∧ V.cell? ⟨b, 10, none⟩ = some (.int .i64 x48) ∧ V.cell? ⟨b, 11, none⟩ = some (.int .i64 x49) ∧ V.cell? ⟨b, 6, none⟩ = some v3') := fun V b hV => ⟨cell_at hV (by rw [hll2]; exact take_at (by omega) (drop_at e38.2)), cell_at hV (by rw [hll2]; exact take_at (by omega) (drop_at e39.2)), cell_at hV (by rw [hll2]; exact take_at (by omega) (drop_at e40.2)), cell_at hV (by rw [hll2]; exact take_at (by omega) (drop_at e41.2)), cell_at hV (by rw [hll2]; exact take_at (by omega) (drop_at e42.2)), cell_at hV (by rw [hll2]; exact take_at (by omega) (drop_at e43.2)), cell_at hV (by rw [hll2]; exact take_at (by omega) (drop_at e45.2)), cell_at hV (by rw [hll2]; exact take_at (by omega) (drop_at e46.2)), cell_at hV (by rw [hll2]; exact take_at (by omega) (drop_at e47.2)), cell_at hV (by rw [hll2]; exact take_at (by omega) (drop_at e48.2)), cell_at hV (by rw [hll2]; exact take_at (by omega) (drop_at e49.2)), cell_at hV (by rw [hll2]; exact take_at (by omega) (drop_at q44))⟩
  have HACT := Lib.hid hact
  have HW := Lib.hid hW
  have HBW := Lib.hid hbw
  have N1 := Lib.hid n1
  have N2 := Lib.hid n2
  have M1 := Lib.hid m1
  have M2 := Lib.hid m2
  obtain ⟨fs86, hu86⟩ := und86
  obtain ⟨fs92, hu92⟩ := und92
  clear hb1 hb2 hbw hl1 hl2 ho1 ho2 hm1 hm2 ha1 ha2 p44 q44 hr1 hr2 hS1 hS2 hW hact ht hll1 hll2 ht1 ht2 n1 n2 m1 m2 hs0 hlt hq1 hq2 e1 e22 e23 e24 e25 e26 e27 e28 e29 e30 e31 e32 e33 e34 e35 e36 e37 e38 e39 e40 e41 e42 e43 e45 e46 e47 e48 e49
  go_enter Try.func43, Try.ntmps43
  go_upto_region 1 with fail
  change Code.wp _ _ _ _ ((w.alloc (.cells r1.toArray 94)).alloc (.cells r2.toArray 94))
  rw [← HW.out]
  go_wp2_with (first
    | (refine wpList_load_mid rfl 86 _ rfl w.heap.size 1 rfl t1 _ A1.out hu86 rfl ?i1 ?_; (case i1 => rw [M1.out]; exact size86))
    | (refine wpList_load_mid rfl 86 _ rfl (w.heap.size + 1) 1 rfl t2 _ A2.out hu86 rfl ?i2 ?_; (case i2 => rw [M2.out]; exact size86)))
  refine HACT.out.mono ?_
  rintro e W1 ⟨rfl, hb1⟩
  have HB1 := Lib.hid hb1
  clear hb1 HACT A1 A2
  obtain ⟨W2, hW2⟩ : ∃ W2, W2 = W1.alloc (.cells z92.toArray 92) := ⟨_, rfl⟩
  obtain ⟨W3, hW3⟩ : ∃ W3, W3 = W2.setCells W1.heap.size 0 l1 := ⟨_, rfl⟩
  obtain ⟨g2, hb3, hg3⟩ := box_store N1.out hW2 hW3
  have hlt3 : W1.heap.size < W3.heap.size := (Array.getElem?_eq_some_iff.1 hg3).1
  obtain ⟨W4, hW4⟩ : ∃ W4, W4 = W3.alloc (.cells z92.toArray 92) := ⟨_, rfl⟩
  obtain ⟨W5, hW5⟩ : ∃ W5, W5 = W4.setCells W3.heap.size 0 l2 := ⟨_, rfl⟩
  obtain ⟨g4, hb5, hg5⟩ := box_store N2.out hW4 hW5
  have hb13 : Below W.heap.size W W3 := HB1.out.trans (hb3.mono HB1.out.size)
  have hb15 : Below W.heap.size W W5 := hb13.trans (hb5.mono hb13.size)
  have hg3' := block_up hb5 hg3 hlt3
  have R92 := Lib.hid (B1.out W1 HB1.out).2
  have R92' := Lib.hid (B2.out W3 hb13).2
  have T2 := Lib.hid (there_block g2)
  have T4 := Lib.hid (there_block g4)
  have K1 := Lib.hid (C1.out W5 hb15)
  have K2 := Lib.hid (C2.out W5 hb15)
  have K3 := Lib.hid (C3.out W5 _ hg3')
  have K4 := Lib.hid (C4.out W5 _ hg5)
  have HS := Lib.hid (strings_any W5 _ _ v3 v3' E.nd E.dto (R1.out.keep (S' := fun _ => True) (fun _ _ => trivial) (fun k _ hk => hb15.block k hk)) (R2.out.keep (S' := fun _ => True) (fun _ _ => trivial) (fun k _ hk => hb15.block k hk)) HDTO.out)
  have HFIN := Lib.hid (HBW.out.trans (hb15.mono HBW.out.size))
  have NS1 : Hid (l1.toArray.size = 12) := by show l1.toArray.size = 12; simpa using N1.out
  have NS2 : Hid (l2.toArray.size = 12) := by show l2.toArray.size = 12; simpa using N2.out
  have HW2 : Hid (W2 = W1.alloc (.cells z92.toArray 92)) := hW2
  have HW3 : Hid (W3 = W2.setCells W1.heap.size 0 l1) := hW3
  have HW4 : Hid (W4 = W3.alloc (.cells z92.toArray 92)) := hW4
  have HW5 : Hid (W5 = W4.setCells W3.heap.size 0 l2) := hW5
  clear hW2 hW3 hW4 hW5 g2 g4 hb3 hb5 hg3 hg5 hb13 hb15 hg3' hlt3 B1 B2 C1 C2 C3 C4 R1 R2 HDTO HB1
  go_upto_region 3 with (first
    | (refine wpList_load_mid rfl 92 _ rfl w.heap.size 37 rfl l1 _ R92.out hu92 rfl ?i1 ?_; (case i1 => rw [N1.out]; exact size92))
    | (change wpList _ _ _ _ _ (W1.alloc (.cells z92.toArray 92)); rw [← HW2.out]; refine wpList_store_mid rfl 92 _ _ rfl W1.heap.size 0 l1.toArray rfl rfl ?i2 ?i3 ?i4 ?_; (case i2 => rw [NS1.out]; exact T2.out); (case i3 => rw [NS1.out]; exact size92); (case i4 => exact all_oneCell_toArray O1.out)))
  change Code.wp _ _ _ _ (W2.setCells W1.heap.size 0 l1)
  rw [← HW3.out]
  go_upto_region 4 with (first
    | (refine wpList_load_mid rfl 92 _ rfl (w.heap.size + 1) 37 rfl l2 _ R92'.out hu92 rfl ?i1 ?_; (case i1 => rw [N2.out]; exact size92))
    | (change wpList _ _ _ _ _ (W3.alloc (.cells z92.toArray 92)); rw [← HW4.out]; refine wpList_store_mid rfl 92 _ _ rfl W3.heap.size 0 l2.toArray rfl rfl ?i2 ?i3 ?i4 ?_; (case i2 => rw [NS2.out]; exact T4.out); (case i3 => rw [NS2.out]; exact size92); (case i4 => exact all_oneCell_toArray O2.out)))
  change Code.wp _ _ _ _ (W4.setCells W3.heap.size 0 l2)
  rw [← HW5.out]
  obtain ⟨c1, c22, c23, c24, c25, c26, c27, c28, c29, c30, c31, c32, c33, c34, c35, c36, c37⟩ := K1.out
  obtain ⟨d1, d22, d23, d24, d25, d26, d27, d28, d29, d30, d31, d32, d33, d34, d35, d36, d37⟩ := K2.out
  obtain ⟨c38, c39, c40, c41, c42, c43, c45, c46, c47, c48, c49, c44⟩ := K3.out
  obtain ⟨d38, d39, d40, d41, d42, d43, d45, d46, d47, d48, d49, d44⟩ := K4.out
  clear K1 K2 K3 K4
  go_wp2_with fail
  refine HS.out.mono ?_
  rintro e w6 ⟨rfl, m, rfl⟩
  clear HS
  go_wp2
  trace_state
  go_ret
  exact ⟨rfl, below_drewN HFIN.out m⟩
end Go.Proofs.Ytdkpgjhjdnfieaa

