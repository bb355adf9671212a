/- Same of messages: two that read alike are the same. Condition: their cells are of their kinds. -/
import Derived.Test.YtdkpgjhjdnfieaaAo
import Derived.StillTailTactics
set_option linter.unusedVariables false
set_option linter.unusedSimpArgs false
namespace Go.Proofs.Ytdkpgjhjdnfieaa
open Go.RowKit Go.Mf
set_option maxRecDepth 100000

def K42 : List CK := [.int .i64, .int .i64, .int .i64, .int .i64, .int .i64, .str, .int .i64, .int .i64, .int .i64, .int .i64, .sl, .int .i64, .int .i64, .int .i64, .str, .int .i64, .int .i64, .int .i64, .int .i64, .int .i64, .int .i64, .int .i64, .str, .int .i64, .int .i64, .int .i64, .int .i64, .int .i64, .str, .int .i64, .int .i64, .int .i64, .str, .sl]
def MsgTy (M : MsgD) : Prop := All2 K42 M.sc ∧ (∀ E ∈ M.ents, EntTy E) ∧ ∀ u ∈ M.link, CK.str.ok u
theorem und35 : ∃ fs, Try.prog.underlying 35 = some (.struct fs) := ⟨_, rfl⟩
theorem und94 : ∃ fs, Try.prog.underlying 94 = some (.struct fs) := ⟨_, rfl⟩
theorem size35 : (Try.prog.info? 35).map (·.size) = some 8 := by kernel_rfl
theorem size94 : (Try.prog.info? 94).map (·.size) = some 49 := by kernel_rfl
def z35 : List Value := [.int .i64 0, .int .i64 0, .string ⟨#[]⟩, .int .i64 0, .int .i64 0, .int .i64 0, .int .i64 0, .slice none 0 0]
theorem yields_index {ops : Array Oper} {S : World → Prop} {oi : Oper} {a : Act} {x y : Operand} {b o n c k : Nat} (hop : oi.op = .indexAddr 33 x y) (hw : Region.wanted oi (yielded ops a.tmps) = true) (hx : a.eval x = .slice (some ⟨b, o, none⟩) n c) (hy : a.eval y = .int .i64 (k : Int)) (hk : k < n) :
    YieldsIf Try.prog ops S oi (.pointer (some ⟨b, o + k * 50, none⟩)) a :=
  .inl ⟨hw, fun w _ => by
    have hk0 : (0 : Int) ≤ k := by omega
    have hkI : (k : Int) < n := by omega
    unfold execOp
    simp only [hop, hx, hy]
    go_simp⟩
theorem yields_field {ops : Array Oper} {S : World → Prop} {oi : Oper} {a : Act} {x : Operand} {b o : Nat} (hop : oi.op = .fieldAddr 96 x 1) (hw : Region.wanted oi (yielded ops a.tmps) = true) (hx : a.eval x = .pointer (some ⟨b, o, none⟩)) :
    YieldsIf Try.prog ops S oi (.pointer (some ⟨b, o + 1, none⟩)) a :=
  .inl ⟨hw, fun w _ => by
    unfold execOp
    simp only [hop, hx]
    go_simp⟩
theorem still_load_mid {o : Oper} {a : Act} {w : World} {K : Act → Prop} (ty : TypeId) (x : Operand) (ho : o.op = .load ty x) (b off : Nat) (hx : a.eval x = .pointer (some ⟨b, off, none⟩)) (cs : List Value) (d : TypeDesc) (hc : w.rangeAt b off cs)
    (hu : Try.prog.underlying ty = some d) (hd : d.isRow = true) (hi : (Try.prog.info? ty).map (·.size) = some cs.length) (h : K (a.put o.dst (.agg cs.toArray))) : o.still Try.prog a w K := by
  unfold Oper.still execOp
  simp only [ho, hx, Instr.loadAt, Instr.sureAddr, Sem.run_bind, Sem.run_pure, Result.andThen_ok, run_loadVar_mid w b off ty cs d hc hu hd hi]
  rw [Oper.stillUpon_value]
  exact h
theorem EntsIn.entAt {w : World} {S : Nat → Prop} {v : Value} {L : List EntD} (h : EntsIn w S v L) {k : Nat} {E : EntD} (hE : L[k]? = some E) :
    ∃ b o c cs, v = .slice (some ⟨b, o, none⟩) L.length c ∧ S b ∧ EntIn w S cs E ∧ w.rangeAt b (o + k * 50) cs := by
  obtain ⟨a, c, css, rfl, h2, h3, h4, h5⟩ := h
  have hk : k < L.length := (List.getElem?_eq_some_iff.1 hE).1
  obtain ⟨b, o, rfl, hb, h8⟩ := h5 (by omega)
  obtain ⟨cs, hcs⟩ : ∃ cs, css[k]? = some cs := ⟨css[k]'(by omega), List.getElem?_eq_getElem _⟩
  have hall : ∀ x ∈ css, x.length = 50 := fun x hx => by
    obtain ⟨j, hj, rfl⟩ := List.getElem_of_mem hx
    exact (h4 j _ (L[j]'(by omega)) (List.getElem?_eq_getElem hj) (List.getElem?_eq_getElem _)).1
  have hent := h4 k cs E hcs hE
  refine ⟨b, o, c, cs, rfl, hb, hent, fun j u hu => ?_⟩
  have hj : j < 50 := by rw [← hent.1]; exact (List.getElem?_eq_some_iff.1 hu).1
  have := flat_get hall hcs hj
  rw [hu] at this
  rw [Nat.add_assoc]
  exact h8 _ _ this
theorem rangeAt_drop {w : World} {b o : Nat} {cs : List Value} (h : w.rangeAt b o cs) (d : Nat) : w.rangeAt b (o + d) (cs.drop d) := fun j u hu => by
  rw [List.getElem?_drop] at hu
  rw [Nat.add_assoc]
  exact h _ _ hu
theorem rangeAt_up {w w' : World} {b o : Nat} {cs : List Value} (h : w.rangeAt b o cs) (hb : Below w.heap.size w w') : w'.rangeAt b o cs := fun j u hu => cell_later hb (h j u hu)

set_option maxHeartbeats 8000000 in
theorem same_any (w : World) (S1 S2 : Nat → Prop) (cs1 cs2 : List Value) (M : MsgD) (h1 : MsgIn w S1 cs1 M) (h2 : MsgIn w S2 cs2 M) (hS1 : ∀ k, S1 k → k < w.heap.size) (hS2 : ∀ k, S2 k → k < w.heap.size) (ht : MsgTy M) :
    Calls Try.prog 23 #[.agg cs1.toArray, .agg cs2.toArray] w fun e w' => e = .returned (.bool true) ∧ Below w.heap.size w w' := by
  obtain ⟨W, hW⟩ : ∃ W, W = (w.alloc (.cells cs1.toArray 42)).alloc (.cells cs2.toArray 42) := ⟨_, rfl⟩
  have hs0 : (w.alloc (.cells cs1.toArray 42)).heap.size = w.heap.size + 1 := by simp
  have hb2 : W.heap[w.heap.size + 1]? = some (.cells cs2.toArray 42 (0, 0)) := by rw [hW, ← hs0]; exact heap_alloc_new _ _
  have hb1 : W.heap[w.heap.size]? = some (.cells cs1.toArray 42 (0, 0)) := by rw [hW, Below.heap_alloc _ _ _ (by omega)]; exact heap_alloc_new w _
  have hbw : Below w.heap.size w W := by rw [hW]; exact ((Below.refl _ w).alloc (Nat.le_refl _) _).alloc (by omega) _
  have hlt : w.heap.size + 1 < W.heap.size := (Array.getElem?_eq_some_iff.1 hb2).1
  obtain ⟨hl1, ho1, hm1, v1, v2, p10, p33, he1, hr1⟩ := h1
  obtain ⟨hl2, ho2, hm2, v1', v2', q10, q33, he2, hr2⟩ := h2
  obtain ⟨l1, hll1⟩ : ∃ l, l = (cs1.drop 3).take 8 := ⟨_, rfl⟩
  obtain ⟨l2, hll2⟩ : ∃ l, l = (cs2.drop 3).take 8 := ⟨_, rfl⟩
  have n1 : l1.length = 8 := by rw [hll1]; simp; omega
  have n2 : l2.length = 8 := by rw [hll2]; simp; omega
  have O1 : Hid (∀ u ∈ l1, u.oneCell' = true) := fun u hu => ho1 u (by rw [hll1] at hu; exact List.mem_of_mem_drop (List.mem_of_mem_take hu))
  have O2 : Hid (∀ u ∈ l2, u.oneCell' = true) := fun u hu => ho2 u (by rw [hll2] at hu; exact List.mem_of_mem_drop (List.mem_of_mem_take hu))
  obtain ⟨W2, hW2⟩ : ∃ W2, W2 = W.alloc (.cells z35.toArray 35) := ⟨_, rfl⟩
  obtain ⟨W3, hW3⟩ : ∃ W3, W3 = W2.setCells W.heap.size 0 l1 := ⟨_, rfl⟩
  obtain ⟨g2, hb3, hg3⟩ := box_store n1 hW2 hW3
  have hlt3 : W.heap.size < W3.heap.size := (Array.getElem?_eq_some_iff.1 hg3).1
  obtain ⟨W4, hW4⟩ : ∃ W4, W4 = W3.alloc (.cells z35.toArray 35) := ⟨_, rfl⟩
  obtain ⟨W5, hW5⟩ : ∃ W5, W5 = W4.setCells W3.heap.size 0 l2 := ⟨_, rfl⟩
  obtain ⟨g4, hb5, hg5⟩ := box_store n2 hW4 hW5
  have hb15 : Below W.heap.size W W5 := hb3.trans (hb5.mono hb3.size)
  have hlt5 : W3.heap.size < W5.heap.size := (Array.getElem?_eq_some_iff.1 hg5).1
  have hg3' := block_up hb5 hg3 hlt3
  have R35 : Hid (W.rangeAt w.heap.size 3 l1) := by rw [hll1]; exact range_of hb1 3 8
  have R35' : Hid (W3.rangeAt (w.heap.size + 1) 3 l2) := by rw [hll2]; exact range_of (block_up hb3 hb2 hlt) 3 8
  have hwW5 : Below w.heap.size w W5 := hbw.trans (hb15.mono hbw.size)
  have E1 : Hid (EntsIn W5 S1 v1 M.ents) := he1.keep (fun _ h _ => h) (fun k hk _ => hwW5.block k (hS1 k hk))
  have E2 : Hid (EntsIn W5 S2 v1' M.ents) := he2.keep (fun _ h _ => h) (fun k hk _ => hwW5.block k (hS2 k hk))
  have R1 : Hid (RowsIn W5 S1 1 16 v2 M.nl M.link) := hr1.below hwW5 hS1
  have R2 : Hid (RowsIn W5 S2 1 16 v2' M.nl M.link) := hr2.below hwW5 hS2
  have HS1 : Hid (∀ k, S1 k → k < W5.heap.size) := fun k hk => Nat.lt_of_lt_of_le (hS1 k hk) hwW5.size
  have HS2 : Hid (∀ k, S2 k → k < W5.heap.size) := fun k hk => Nat.lt_of_lt_of_le (hS2 k hk) hwW5.size
  have HTY := Lib.hid ht
  have B1 : Hid (∀ V, Below W5.heap.size W5 V → V.heap[w.heap.size]? = some (.cells cs1.toArray 42 (0, 0))) := fun V hV => block_up hV (block_up hb15 hb1 (by omega)) (by omega)
  have B2 : Hid (∀ V, Below W5.heap.size W5 V → V.heap[w.heap.size + 1]? = some (.cells cs2.toArray 42 (0, 0))) := fun V hV => block_up hV (block_up hb15 hb2 (by omega)) (by omega)
  have B3 : Hid (∀ V, Below W5.heap.size W5 V → V.heap[W.heap.size]? = some (.cells l1.toArray 35 (0, 0))) := fun V hV => block_up hV hg3' (by omega)
  have B4 : Hid (∀ V, Below W5.heap.size W5 V → V.heap[W3.heap.size]? = some (.cells l2.toArray 35 (0, 0))) := fun V hV => block_up hV hg5 (by omega)
  obtain ⟨_, e0, x0, rfl⟩ := ht.1.get 0 (.int .i64) rfl
  replace e0 := And.intro (mask_get hm1 (k := 0) (by decide) (by decide) e0) (mask_get hm2 (k := 0) (by decide) (by decide) e0)
  obtain ⟨_, e1, x1, rfl⟩ := ht.1.get 1 (.int .i64) rfl
  replace e1 := And.intro (mask_get hm1 (k := 1) (by decide) (by decide) e1) (mask_get hm2 (k := 1) (by decide) (by decide) e1)
  obtain ⟨_, e2, x2, rfl⟩ := ht.1.get 2 (.int .i64) rfl
  replace e2 := And.intro (mask_get hm1 (k := 2) (by decide) (by decide) e2) (mask_get hm2 (k := 2) (by decide) (by decide) e2)
  obtain ⟨_, e3, x3, rfl⟩ := ht.1.get 3 (.int .i64) rfl
  replace e3 := And.intro (mask_get hm1 (k := 3) (by decide) (by decide) e3) (mask_get hm2 (k := 3) (by decide) (by decide) e3)
  obtain ⟨_, e4, x4, rfl⟩ := ht.1.get 4 (.int .i64) rfl
  replace e4 := And.intro (mask_get hm1 (k := 4) (by decide) (by decide) e4) (mask_get hm2 (k := 4) (by decide) (by decide) e4)
  obtain ⟨_, e5, x5, rfl⟩ := ht.1.get 5 .str rfl
  replace e5 := And.intro (mask_get hm1 (k := 5) (by decide) (by decide) e5) (mask_get hm2 (k := 5) (by decide) (by decide) e5)
  obtain ⟨_, e6, x6, rfl⟩ := ht.1.get 6 (.int .i64) rfl
  replace e6 := And.intro (mask_get hm1 (k := 6) (by decide) (by decide) e6) (mask_get hm2 (k := 6) (by decide) (by decide) e6)
  obtain ⟨_, e7, x7, rfl⟩ := ht.1.get 7 (.int .i64) rfl
  replace e7 := And.intro (mask_get hm1 (k := 7) (by decide) (by decide) e7) (mask_get hm2 (k := 7) (by decide) (by decide) e7)
  obtain ⟨_, e8, x8, rfl⟩ := ht.1.get 8 (.int .i64) rfl
  replace e8 := And.intro (mask_get hm1 (k := 8) (by decide) (by decide) e8) (mask_get hm2 (k := 8) (by decide) (by decide) e8)
  obtain ⟨_, e9, x9, rfl⟩ := ht.1.get 9 (.int .i64) rfl
  replace e9 := And.intro (mask_get hm1 (k := 9) (by decide) (by decide) e9) (mask_get hm2 (k := 9) (by decide) (by decide) e9)
  obtain ⟨_, e11, x11, rfl⟩ := ht.1.get 11 (.int .i64) rfl
  replace e11 := And.intro (mask_get hm1 (k := 11) (by decide) (by decide) e11) (mask_get hm2 (k := 11) (by decide) (by decide) e11)
  obtain ⟨_, e12, x12, rfl⟩ := ht.1.get 12 (.int .i64) rfl
  replace e12 := And.intro (mask_get hm1 (k := 12) (by decide) (by decide) e12) (mask_get hm2 (k := 12) (by decide) (by decide) e12)
  obtain ⟨_, e13, x13, rfl⟩ := ht.1.get 13 (.int .i64) rfl
  replace e13 := And.intro (mask_get hm1 (k := 13) (by decide) (by decide) e13) (mask_get hm2 (k := 13) (by decide) (by decide) e13)
  obtain ⟨_, e14, x14, rfl⟩ := ht.1.get 14 .str rfl
  replace e14 := And.intro (mask_get hm1 (k := 14) (by decide) (by decide) e14) (mask_get hm2 (k := 14) (by decide) (by decide) e14)
  obtain ⟨_, e15, x15, rfl⟩ := ht.1.get 15 (.int .i64) rfl
  replace e15 := And.intro (mask_get hm1 (k := 15) (by decide) (by decide) e15) (mask_get hm2 (k := 15) (by decide) (by decide) e15)
  obtain ⟨_, e16, x16, rfl⟩ := ht.1.get 16 (.int .i64) rfl
  replace e16 := And.intro (mask_get hm1 (k := 16) (by decide) (by decide) e16) (mask_get hm2 (k := 16) (by decide) (by decide) e16)
  obtain ⟨_, e17, x17, rfl⟩ := ht.1.get 17 (.int .i64) rfl
  replace e17 := And.intro (mask_get hm1 (k := 17) (by decide) (by decide) e17) (mask_get hm2 (k := 17) (by decide) (by decide) e17)
  obtain ⟨_, e18, x18, rfl⟩ := ht.1.get 18 (.int .i64) rfl
  replace e18 := And.intro (mask_get hm1 (k := 18) (by decide) (by decide) e18) (mask_get hm2 (k := 18) (by decide) (by decide) e18)
  obtain ⟨_, e19, x19, rfl⟩ := ht.1.get 19 (.int .i64) rfl
  replace e19 := And.intro (mask_get hm1 (k := 19) (by decide) (by decide) e19) (mask_get hm2 (k := 19) (by decide) (by decide) e19)
  obtain ⟨_, e20, x20, rfl⟩ := ht.1.get 20 (.int .i64) rfl
  replace e20 := And.intro (mask_get hm1 (k := 20) (by decide) (by decide) e20) (mask_get hm2 (k := 20) (by decide) (by decide) e20)
  obtain ⟨_, e21, x21, rfl⟩ := ht.1.get 21 (.int .i64) rfl
  replace e21 := And.intro (mask_get hm1 (k := 21) (by decide) (by decide) e21) (mask_get hm2 (k := 21) (by decide) (by decide) e21)
  obtain ⟨_, e22, x22, rfl⟩ := ht.1.get 22 .str rfl
  replace e22 := And.intro (mask_get hm1 (k := 22) (by decide) (by decide) e22) (mask_get hm2 (k := 22) (by decide) (by decide) e22)
  obtain ⟨_, e23, x23, rfl⟩ := ht.1.get 23 (.int .i64) rfl
  replace e23 := And.intro (mask_get hm1 (k := 23) (by decide) (by decide) e23) (mask_get hm2 (k := 23) (by decide) (by decide) e23)
  obtain ⟨_, e24, x24, rfl⟩ := ht.1.get 24 (.int .i64) rfl
  replace e24 := And.intro (mask_get hm1 (k := 24) (by decide) (by decide) e24) (mask_get hm2 (k := 24) (by decide) (by decide) e24)
  obtain ⟨_, e25, x25, rfl⟩ := ht.1.get 25 (.int .i64) rfl
  replace e25 := And.intro (mask_get hm1 (k := 25) (by decide) (by decide) e25) (mask_get hm2 (k := 25) (by decide) (by decide) e25)
  obtain ⟨_, e26, x26, rfl⟩ := ht.1.get 26 (.int .i64) rfl
  replace e26 := And.intro (mask_get hm1 (k := 26) (by decide) (by decide) e26) (mask_get hm2 (k := 26) (by decide) (by decide) e26)
  obtain ⟨_, e27, x27, rfl⟩ := ht.1.get 27 (.int .i64) rfl
  replace e27 := And.intro (mask_get hm1 (k := 27) (by decide) (by decide) e27) (mask_get hm2 (k := 27) (by decide) (by decide) e27)
  obtain ⟨_, e28, x28, rfl⟩ := ht.1.get 28 .str rfl
  replace e28 := And.intro (mask_get hm1 (k := 28) (by decide) (by decide) e28) (mask_get hm2 (k := 28) (by decide) (by decide) e28)
  obtain ⟨_, e29, x29, rfl⟩ := ht.1.get 29 (.int .i64) rfl
  replace e29 := And.intro (mask_get hm1 (k := 29) (by decide) (by decide) e29) (mask_get hm2 (k := 29) (by decide) (by decide) e29)
  obtain ⟨_, e30, x30, rfl⟩ := ht.1.get 30 (.int .i64) rfl
  replace e30 := And.intro (mask_get hm1 (k := 30) (by decide) (by decide) e30) (mask_get hm2 (k := 30) (by decide) (by decide) e30)
  obtain ⟨_, e31, x31, rfl⟩ := ht.1.get 31 (.int .i64) rfl
  replace e31 := And.intro (mask_get hm1 (k := 31) (by decide) (by decide) e31) (mask_get hm2 (k := 31) (by decide) (by decide) e31)
  obtain ⟨_, e32, x32, rfl⟩ := ht.1.get 32 .str rfl
  replace e32 := And.intro (mask_get hm1 (k := 32) (by decide) (by decide) e32) (mask_get hm2 (k := 32) (by decide) (by decide) e32)
  have C1 : Hid (∀ V, Below W5.heap.size W5 V → V.cell? ⟨w.heap.size, 0, none⟩ = some (.int .i64 x0) ∧ V.cell? ⟨w.heap.size, 1, none⟩ = some (.int .i64 x1) ∧ V.cell? ⟨w.heap.size, 2, none⟩ = some (.int .i64 x2) ∧ V.cell? ⟨w.heap.size, 11, none⟩ = some (.int .i64 x11) ∧ V.cell? ⟨w.heap.size, 12, none⟩ = some (.int .i64 x12) ∧ V.cell? ⟨w.heap.size, 13, none⟩ = some (.int .i64 x13) ∧ V.cell? ⟨w.heap.size, 14, none⟩ = some (.string x14) ∧ V.cell? ⟨w.heap.size, 15, none⟩ = some (.int .i64 x15) ∧ V.cell? ⟨w.heap.size, 16, none⟩ = some (.int .i64 x16) ∧ V.cell? ⟨w.heap.size, 17, none⟩ = some (.int .i64 x17) ∧ V.cell? ⟨w.heap.size, 18, none⟩ = some (.int .i64 x18) ∧ V.cell? ⟨w.heap.size, 19, none⟩ = some (.int .i64 x19) ∧ V.cell? ⟨w.heap.size, 20, none⟩ = some (.int .i64 x20) ∧ V.cell? ⟨w.heap.size, 21, none⟩ = some (.int .i64 x21) ∧ V.cell? ⟨w.heap.size, 22, none⟩ = some (.string x22) ∧ V.cell? ⟨w.heap.size, 23, none⟩ = some (.int .i64 x23) ∧ V.cell? ⟨w.heap.size, 24, none⟩ = some (.int .i64 x24) ∧ V.cell? ⟨w.heap.size, 25, none⟩ = some (.int .i64 x25) ∧ V.cell? ⟨w.heap.size, 26, none⟩ = some (.int .i64 x26) ∧ V.cell? ⟨w.heap.size, 27, none⟩ = some (.int .i64 x27) ∧ V.cell? ⟨w.heap.size, 28, none⟩ = some (.string x28) ∧ V.cell? ⟨w.heap.size, 29, none⟩ = some (.int .i64 x29) ∧ V.cell? ⟨w.heap.size, 30, none⟩ = some (.int .i64 x30) ∧ V.cell? ⟨w.heap.size, 31, none⟩ = some (.int .i64 x31) ∧ V.cell? ⟨w.heap.size, 32, none⟩ = some (.string x32) ∧ V.cell? ⟨w.heap.size, 33, none⟩ = some (v2)) := fun V hV => ⟨cell_at (B1.out V hV) e0.1, cell_at (B1.out V hV) e1.1, cell_at (B1.out V hV) e2.1, cell_at (B1.out V hV) e11.1, cell_at (B1.out V hV) e12.1, cell_at (B1.out V hV) e13.1, cell_at (B1.out V hV) e14.1, cell_at (B1.out V hV) e15.1, cell_at (B1.out V hV) e16.1, cell_at (B1.out V hV) e17.1, cell_at (B1.out V hV) e18.1, cell_at (B1.out V hV) e19.1, cell_at (B1.out V hV) e20.1, cell_at (B1.out V hV) e21.1, cell_at (B1.out V hV) e22.1, cell_at (B1.out V hV) e23.1, cell_at (B1.out V hV) e24.1, cell_at (B1.out V hV) e25.1, cell_at (B1.out V hV) e26.1, cell_at (B1.out V hV) e27.1, cell_at (B1.out V hV) e28.1, cell_at (B1.out V hV) e29.1, cell_at (B1.out V hV) e30.1, cell_at (B1.out V hV) e31.1, cell_at (B1.out V hV) e32.1, cell_at (B1.out V hV) p33⟩
  have C2 : Hid (∀ V, Below W5.heap.size W5 V → V.cell? ⟨(w.heap.size + 1), 0, none⟩ = some (.int .i64 x0) ∧ V.cell? ⟨(w.heap.size + 1), 1, none⟩ = some (.int .i64 x1) ∧ V.cell? ⟨(w.heap.size + 1), 2, none⟩ = some (.int .i64 x2) ∧ V.cell? ⟨(w.heap.size + 1), 11, none⟩ = some (.int .i64 x11) ∧ V.cell? ⟨(w.heap.size + 1), 12, none⟩ = some (.int .i64 x12) ∧ V.cell? ⟨(w.heap.size + 1), 13, none⟩ = some (.int .i64 x13) ∧ V.cell? ⟨(w.heap.size + 1), 14, none⟩ = some (.string x14) ∧ V.cell? ⟨(w.heap.size + 1), 15, none⟩ = some (.int .i64 x15) ∧ V.cell? ⟨(w.heap.size + 1), 16, none⟩ = some (.int .i64 x16) ∧ V.cell? ⟨(w.heap.size + 1), 17, none⟩ = some (.int .i64 x17) ∧ V.cell? ⟨(w.heap.size + 1), 18, none⟩ = some (.int .i64 x18) ∧ V.cell? ⟨(w.heap.size + 1), 19, none⟩ = some (.int .i64 x19) ∧ V.cell? ⟨(w.heap.size + 1), 20, none⟩ = some (.int .i64 x20) ∧ V.cell? ⟨(w.heap.size + 1), 21, none⟩ = some (.int .i64 x21) ∧ V.cell? ⟨(w.heap.size + 1), 22, none⟩ = some (.string x22) ∧ V.cell? ⟨(w.heap.size + 1), 23, none⟩ = some (.int .i64 x23) ∧ V.cell? ⟨(w.heap.size + 1), 24, none⟩ = some (.int .i64 x24) ∧ V.cell? ⟨(w.heap.size + 1), 25, none⟩ = some (.int .i64 x25) ∧ V.cell? ⟨(w.heap.size + 1), 26, none⟩ = some (.int .i64 x26) ∧ V.cell? ⟨(w.heap.size + 1), 27, none⟩ = some (.int .i64 x27) ∧ V.cell? ⟨(w.heap.size + 1), 28, none⟩ = some (.string x28) ∧ V.cell? ⟨(w.heap.size + 1), 29, none⟩ = some (.int .i64 x29) ∧ V.cell? ⟨(w.heap.size + 1), 30, none⟩ = some (.int .i64 x30) ∧ V.cell? ⟨(w.heap.size + 1), 31, none⟩ = some (.int .i64 x31) ∧ V.cell? ⟨(w.heap.size + 1), 32, none⟩ = some (.string x32) ∧ V.cell? ⟨(w.heap.size + 1), 33, none⟩ = some (v2')) := fun V hV => ⟨cell_at (B2.out V hV) e0.2, cell_at (B2.out V hV) e1.2, cell_at (B2.out V hV) e2.2, cell_at (B2.out V hV) e11.2, cell_at (B2.out V hV) e12.2, cell_at (B2.out V hV) e13.2, cell_at (B2.out V hV) e14.2, cell_at (B2.out V hV) e15.2, cell_at (B2.out V hV) e16.2, cell_at (B2.out V hV) e17.2, cell_at (B2.out V hV) e18.2, cell_at (B2.out V hV) e19.2, cell_at (B2.out V hV) e20.2, cell_at (B2.out V hV) e21.2, cell_at (B2.out V hV) e22.2, cell_at (B2.out V hV) e23.2, cell_at (B2.out V hV) e24.2, cell_at (B2.out V hV) e25.2, cell_at (B2.out V hV) e26.2, cell_at (B2.out V hV) e27.2, cell_at (B2.out V hV) e28.2, cell_at (B2.out V hV) e29.2, cell_at (B2.out V hV) e30.2, cell_at (B2.out V hV) e31.2, cell_at (B2.out V hV) e32.2, cell_at (B2.out V hV) q33⟩
  have C3 : Hid (∀ V, Below W5.heap.size W5 V → V.cell? ⟨W.heap.size, 0, none⟩ = some (.int .i64 x3) ∧ V.cell? ⟨W.heap.size, 1, none⟩ = some (.int .i64 x4) ∧ V.cell? ⟨W.heap.size, 2, none⟩ = some (.string x5) ∧ V.cell? ⟨W.heap.size, 3, none⟩ = some (.int .i64 x6) ∧ V.cell? ⟨W.heap.size, 4, none⟩ = some (.int .i64 x7) ∧ V.cell? ⟨W.heap.size, 5, none⟩ = some (.int .i64 x8) ∧ V.cell? ⟨W.heap.size, 6, none⟩ = some (.int .i64 x9) ∧ V.cell? ⟨W.heap.size, 7, none⟩ = some (v1)) := fun V hV => ⟨cell_at (B3.out V hV) (by rw [hll1]; exact take_at (by omega) (drop_at e3.1)), cell_at (B3.out V hV) (by rw [hll1]; exact take_at (by omega) (drop_at e4.1)), cell_at (B3.out V hV) (by rw [hll1]; exact take_at (by omega) (drop_at e5.1)), cell_at (B3.out V hV) (by rw [hll1]; exact take_at (by omega) (drop_at e6.1)), cell_at (B3.out V hV) (by rw [hll1]; exact take_at (by omega) (drop_at e7.1)), cell_at (B3.out V hV) (by rw [hll1]; exact take_at (by omega) (drop_at e8.1)), cell_at (B3.out V hV) (by rw [hll1]; exact take_at (by omega) (drop_at e9.1)), cell_at (B3.out V hV) (by rw [hll1]; exact take_at (by omega) (drop_at p10))⟩
  have C4 : Hid (∀ V, Below W5.heap.size W5 V → V.cell? ⟨W3.heap.size, 0, none⟩ = some (.int .i64 x3) ∧ V.cell? ⟨W3.heap.size, 1, none⟩ = some (.int .i64 x4) ∧ V.cell? ⟨W3.heap.size, 2, none⟩ = some (.string x5) ∧ V.cell? ⟨W3.heap.size, 3, none⟩ = some (.int .i64 x6) ∧ V.cell? ⟨W3.heap.size, 4, none⟩ = some (.int .i64 x7) ∧ V.cell? ⟨W3.heap.size, 5, none⟩ = some (.int .i64 x8) ∧ V.cell? ⟨W3.heap.size, 6, none⟩ = some (.int .i64 x9) ∧ V.cell? ⟨W3.heap.size, 7, none⟩ = some (v1')) := fun V hV => ⟨cell_at (B4.out V hV) (by rw [hll2]; exact take_at (by omega) (drop_at e3.2)), cell_at (B4.out V hV) (by rw [hll2]; exact take_at (by omega) (drop_at e4.2)), cell_at (B4.out V hV) (by rw [hll2]; exact take_at (by omega) (drop_at e5.2)), cell_at (B4.out V hV) (by rw [hll2]; exact take_at (by omega) (drop_at e6.2)), cell_at (B4.out V hV) (by rw [hll2]; exact take_at (by omega) (drop_at e7.2)), cell_at (B4.out V hV) (by rw [hll2]; exact take_at (by omega) (drop_at e8.2)), cell_at (B4.out V hV) (by rw [hll2]; exact take_at (by omega) (drop_at e9.2)), cell_at (B4.out V hV) (by rw [hll2]; exact take_at (by omega) (drop_at q10))⟩
  have HW := Lib.hid hW
  have HWF := Lib.hid hwW5
  have N1 := Lib.hid n1
  have N2 := Lib.hid n2
  have T2 := Lib.hid (there_block g2)
  have T4 := Lib.hid (there_block g4)
  have NS1 : Hid (l1.toArray.size = 8) := by show l1.toArray.size = 8; simpa using n1
  have NS2 : Hid (l2.toArray.size = 8) := by show l2.toArray.size = 8; simpa using n2
  have HW2 : Hid (W2 = W.alloc (.cells z35.toArray 35)) := hW2
  have HW3 : Hid (W3 = W2.setCells W.heap.size 0 l1) := hW3
  have HW4 : Hid (W4 = W3.alloc (.cells z35.toArray 35)) := hW4
  have HW5 : Hid (W5 = W4.setCells W3.heap.size 0 l2) := hW5
  obtain ⟨fs35, hu35⟩ := und35
  obtain ⟨fs94, hu94⟩ := und94
  obtain ⟨n, hn⟩ : ∃ n, M.ents.length = n := ⟨_, rfl⟩
  have HN := Lib.hid hn
  obtain ⟨a1, k1, css1, rfl, hnn, _⟩ := E1.out
  obtain ⟨a1', k1', css1', rfl, _⟩ := E2.out
  rw [hn] at hnn C3 C4
  have hn64 : n ≤ 140737488355328 := by omega
  clear hb1 hb2 hbw hl1 hl2 ho1 ho2 hm1 hm2 p10 p33 q10 q33 he1 he2 hr1 hr2 hS1 hS2 hW ht hll1 hll2 n1 n2 hs0 hlt hlt3 hlt5 hW2 hW3 hW4 hW5 g2 g4 hb3 hb5 hg3 hg5 hb15 hg3' hwW5 hn hnn B1 B2 B3 B4 e0 e1 e2 e3 e4 e5 e6 e7 e8 e9 e11 e12 e13 e14 e15 e16 e17 e18 e19 e20 e21 e22 e23 e24 e25 e26 e27 e28 e29 e30 e31 e32
  go_enter Try.func23, Try.ntmps23
  go_upto_region 1 with fail
  change Code.wp _ _ _ _ ((w.alloc (.cells cs1.toArray 42)).alloc (.cells cs2.toArray 42))
  rw [← HW.out]
  go_upto_region 2 with (first
    | (refine wpList_load_mid rfl 35 _ rfl w.heap.size 3 rfl l1 _ R35.out hu35 rfl ?i1 ?_; (case i1 => rw [N1.out]; exact size35))
    | (change wpList _ _ _ _ _ (W.alloc (.cells z35.toArray 35)); rw [← HW2.out]; refine wpList_store_mid rfl 35 _ _ rfl W.heap.size 0 l1.toArray rfl rfl ?i2 ?i3 ?i4 ?_; (case i2 => rw [NS1.out]; exact T2.out); (case i3 => rw [NS1.out]; exact size35); (case i4 => exact all_oneCell_toArray O1.out)))
  change Code.wp _ _ _ _ (W2.setCells W.heap.size 0 l1)
  rw [← HW3.out]
  go_upto_region 3 with (first
    | (refine wpList_load_mid rfl 35 _ rfl (w.heap.size + 1) 3 rfl l2 _ R35'.out hu35 rfl ?i1 ?_; (case i1 => rw [N2.out]; exact size35))
    | (change wpList _ _ _ _ _ (W3.alloc (.cells z35.toArray 35)); rw [← HW4.out]; refine wpList_store_mid rfl 35 _ _ rfl W3.heap.size 0 l2.toArray rfl rfl ?i2 ?i3 ?i4 ?_; (case i2 => rw [NS2.out]; exact T4.out); (case i3 => rw [NS2.out]; exact size35); (case i4 => exact all_oneCell_toArray O2.out)))
  change Code.wp _ _ _ _ (W4.setCells W3.heap.size 0 l2)
  rw [← HW5.out]
  obtain ⟨c3, c4, c5, c6, c7, c8, c9, c10⟩ := C3.out W5 (Below.refl _ _)
  obtain ⟨d3, d4, d5, d6, d7, d8, d9, d10⟩ := C4.out W5 (Below.refl _ _)
  clear O1 O2 T2 T4 NS1 NS2 N1 N2 HW2 HW3 HW4 HW5 R35 R35' HW
  go_wp2
  clear c3 c4 c5 c6 c7 c8 c9 c10 d3 d4 d5 d6 d7 d8 d9 d10
  go_loopw [7] (fun s wr => ∃ k : Nat, k ≤ n ∧ s = .int .i64 k ∧ Hid (Below W5.heap.size W5 wr)) (fun s _ => n - (intOf s).toNat)
  case atStart => exact ⟨0, by omega, rfl, Below.refl _ _⟩
  case round =>
    obtain ⟨k, hk, rfl, hst⟩ := hrel
    by_cases hkn : k < n
    · as_aux_lemma =>
        obtain ⟨E, hE⟩ : ∃ E, M.ents[k]? = some E := ⟨M.ents[k]'(by rw [HN.out]; exact hkn), List.getElem?_eq_getElem _⟩
        obtain ⟨sb, so, c, ds1, e1, hsb, hent1, hrg1⟩ := E1.out.entAt hE
        cases e1
        obtain ⟨sb', so', c', ds2, e2, hsb', hent2, hrg2⟩ := E2.out.entAt hE
        cases e2
        have HEt := Lib.hid (HTY.out.2.1 E (List.mem_of_getElem? hE))
        obtain ⟨_, i1, xe, rfl⟩ := HEt.out.1.get 0 (.int .i64) rfl
        have j1 := mask_get3 hent1.2.2.1 (q := 0) (by decide) (by decide) (by decide) i1
        have j2 := mask_get3 hent2.2.2.1 (q := 0) (by decide) (by decide) (by decide) i1
        have X1 : Hid (∀ V, Below W5.heap.size W5 V → V.rangeAt sb (so + k * 50 + 1) (ds1.drop 1) ∧ V.cell? ⟨sb, so + k * 50, none⟩ = some (.int .i64 xe)) := fun V hV => ⟨rangeAt_drop (rangeAt_up hrg1 hV) 1, by have := (rangeAt_up hrg1 hV) 0 _ j1; simpa using this⟩
        have X2 : Hid (∀ V, Below W5.heap.size W5 V → V.rangeAt sb' (so' + k * 50 + 1) (ds2.drop 1) ∧ V.cell? ⟨sb', so' + k * 50, none⟩ = some (.int .i64 xe)) := fun V hV => ⟨rangeAt_drop (rangeAt_up hrg2 hV) 1, by have := (rangeAt_up hrg2 hV) 0 _ j2; simpa using this⟩
        have HI : Hid (∀ V, Below W5.heap.size W5 V → Calls Try.prog 43 #[.agg (ds1.drop 1).toArray, .agg (ds2.drop 1).toArray] V fun e w' => e = .returned (.bool true) ∧ Below V.heap.size V w') := fun V hV =>
          items_any V S1 S2 ds1 ds2 E (hent1.keep (fun _ h _ => h) (fun k hk _ => hV.block k (HS1.out k hk))) (hent2.keep (fun _ h _ => h) (fun k hk _ => hV.block k (HS2.out k hk))) (fun k hk => Nat.lt_of_lt_of_le (HS1.out k hk) hV.size) (fun k hk => Nat.lt_of_lt_of_le (HS2.out k hk) hV.size) HEt.out
        have HL1 : Hid ((ds1.drop 1).length = 49) := by show (ds1.drop 1).length = 49; rw [List.length_drop, hent1.1]
        have HL2 : Hid ((ds2.drop 1).length = 49) := by show (ds2.drop 1).length = 49; rw [List.length_drop, hent2.1]
        obtain ⟨r1, hq1⟩ : ∃ r, r = ds1.drop 1 := ⟨_, rfl⟩
        obtain ⟨r2, hq2⟩ : ∃ r, r = ds2.drop 1 := ⟨_, rfl⟩
        rw [← hq1] at X1 HI HL1
        rw [← hq2] at X2 HI HL2
        have hk0 : (0 : Int) ≤ k := by omega
        have hkI : (k : Int) < n := by omega
        clear hE hsb hsb' hent1 hent2 hrg1 hrg2 i1 j1 j2 hq1 hq2 HEt
        have c10 : wr.cell? ⟨W.heap.size, 7, none⟩ = _ := (C3.out wr hst.out).2.2.2.2.2.2.2
        have d10 : wr.cell? ⟨W3.heap.size, 7, none⟩ = _ := (C4.out wr hst.out).2.2.2.2.2.2.2
        go_upto_region 8 with fail
        clear c10 d10
        go_cut [8] (fun s wx => s = .bool true ∧ Hid (Below W5.heap.size W5 wx))
        case first =>
          refine wp_region_still_tail 12 (by kernel_rfl) (by kernel_rfl) ?_
          simp only [List.take_succ_cons, List.take_zero, List.drop_succ_cons, List.drop_zero]
          change wpStill _ _ (World.drew wr) (fun a' => wpList _ _ _ _ a' (World.drew wr)) _ _
          have hd : Below W5.heap.size W5 wr.drew := hst.out.drew
          generalize wr.drew = V at hd ⊢
          have c11 : V.cell? ⟨W.heap.size, 7, none⟩ = _ := (C3.out V hd).2.2.2.2.2.2.2
          have d11 : V.cell? ⟨W3.heap.size, 7, none⟩ = _ := (C4.out V hd).2.2.2.2.2.2.2
          have HD := Lib.hid hd
          clear hd
          still_step
          still_step
          still_step
          still_step
          still_step
          refine wpStill_step (fun K hK => ?_)
          rw [if_pos (by rfl)]
          refine still_load_mid 94 _ rfl sb (so + k * 50 + 1) rfl r1 _ (X1.out V HD.out).1 hu94 rfl (by rw [HL1.out]; exact size94) ?_
          refine hK _ ?_
          clear hK K
          still_step
          still_step
          still_step
          still_step
          still_step
          refine wpStill_step (fun K hK => ?_)
          rw [if_pos (by rfl)]
          refine still_load_mid 94 _ rfl sb' (so' + k * 50 + 1) rfl r2 _ (X2.out V HD.out).1 hu94 rfl (by rw [HL2.out]; exact size94) ?_
          refine hK _ ?_
          clear hK K
          refine wpStill_nil ?_
          clear c11 d11
          go_wp2_with fail
          refine (HI.out _ HD.out).mono ?_
          rintro e w8 ⟨rfl, hb8⟩
          have HB8 : Hid (Below W5.heap.size W5 w8) := HD.out.trans (hb8.mono HD.out.size)
          clear hb8
          go_wp2
          go_meet
          exact ⟨rfl, HB8.out⟩
        case rest =>
        obtain ⟨rfl, HB8⟩ := hcut
        have c10 : wc.cell? ⟨W.heap.size, 7, none⟩ = _ := (C3.out wc HB8.out).2.2.2.2.2.2.2
        have d10 : wc.cell? ⟨W3.heap.size, 7, none⟩ = _ := (C4.out wc HB8.out).2.2.2.2.2.2.2
        have ce := (X1.out wc HB8.out).2
        have de := (X2.out wc HB8.out).2
        go_upto_region 9 with fail
        go_quiet (fail)
        clear c10 d10 ce de
        go_wp2
        go_roundw
        case rel => exact ⟨k + 1, by omega, by go_num, below_drewN HB8.out _⟩
        case measure => simp [intOf]; omega
    · as_aux_lemma =>
        obtain rfl : k = n := by omega
        clear hk
        obtain ⟨c3, c4, c5, c6, c7, c8, c9, c10⟩ := C3.out wr hst.out
        obtain ⟨d3, d4, d5, d6, d7, d8, d9, d10⟩ := C4.out wr hst.out
        obtain ⟨c0, c1, c2, c11, c12, c13, c14, c15, c16, c17, c18, c19, c20, c21, c22, c23, c24, c25, c26, c27, c28, c29, c30, c31, c32, c33⟩ := C1.out wr hst.out
        obtain ⟨d0, d1, d2, d11, d12, d13, d14, d15, d16, d17, d18, d19, d20, d21, d22, d23, d24, d25, d26, d27, d28, d29, d30, d31, d32, d33⟩ := C2.out wr hst.out
        have HS := Lib.hid (strings_any wr _ _ v2 v2' M.nl M.link (R1.out.keep (S' := S1) (fun _ h => h) (fun k _ hk => hst.out.block k hk)) (R2.out.keep (S' := S2) (fun _ h => h) (fun k _ hk => hst.out.block k hk)) HTY.out.2.2)
        have HFIN := Lib.hid (HWF.out.trans (hst.out.mono HWF.out.size))
        go_wp2_with fail
        refine HS.out.mono ?_
        rintro e w6 ⟨rfl, m, rfl⟩
        clear HS
        go_wp2
        go_ret
        exact ⟨rfl, below_drewN HFIN.out m⟩
end Go.Proofs.Ytdkpgjhjdnfieaa

