/- Same of actions: two that read alike are the same. Condition: their cells are of their kinds. -/
import Derived.Test.YtdkpgjhjdnfieaaAm
import Derived.Deep.MidRow
set_option linter.unusedVariables false
set_option linter.unusedSimpArgs false
namespace Go.Proofs.Ytdkpgjhjdnfieaa
open Go.RowKit Go.Mf
set_option maxRecDepth 100000

def K86 : List CK := [.str, .int .i64, .str, .int .i64, .int .i64, .str, .str, .int .i64, .str, .sl, .str, .str, .str, .str, .int .i64, .sl, .int .i64, .int .i64, .int .i64, .int .i64]
def WrTy (n : Nat) (wr : List Value) : Prop := ∀ k, k < n → ∃ (i0 i1 : Int) (s2 s3 s4 : ByteArray), ∀ (j : Nat) (u : Value), [Value.int .i64 i0, .int .i64 i1, .string s2, .string s3, .string s4][j]? = some u → wr[k * 5 + j]? = some u
def ActTy (A : ActD) : Prop := All2 K86 A.sc ∧ (∀ u ∈ A.tos, CK.str.ok u) ∧ WrTy A.nw A.wr
theorem und99 : ∃ fs, Try.prog.underlying 99 = some (.struct fs) := ⟨_, rfl⟩
theorem und83 : ∃ fs, Try.prog.underlying 83 = some (.struct fs) := ⟨_, rfl⟩
theorem und30 : ∃ fs, Try.prog.underlying 30 = some (.struct fs) := ⟨_, rfl⟩
theorem mask_get {cs sc : List Value} {i j : Nat} {a b u : Value} (h : (cs.set i a).set j b = sc) {k : Nat} (h1 : i ≠ k) (h2 : j ≠ k) (hu : sc[k]? = some u) : cs[k]? = some u := by
  rw [← h, List.getElem?_set_ne h2, List.getElem?_set_ne h1] at hu
  exact hu
theorem RowsIn.rangeAt {w : World} {S : Nat → Prop} {sz bt : Nat} {v : Value} {n : Nat} {xs : List Value} (h : RowsIn w S sz bt v n xs) {k : Nat} (hk : k < n) {l : List Value} (hl : ∀ (j : Nat) (u : Value), l[j]? = some u → xs[k * sz + j]? = some u) :
    ∃ b o c, v = .slice (some ⟨b, o, none⟩) n c ∧ w.rangeAt b (o + k * sz) l := by
  obtain ⟨a, c, rfl, h2, h3, h4, h5, h6⟩ := h
  obtain ⟨b, o, rfl, hb, h8⟩ := h6 (by omega)
  exact ⟨b, o, c, rfl, fun j u hu => by rw [Nat.add_assoc]; exact h8 _ _ (hl j u hu)⟩
theorem load_at {w : World} {b o : Nat} {ty : TypeId} {cs : List Value} {fs : Array Field} (hc : w.rangeAt b o cs) (hu : Try.prog.underlying ty = some (.struct fs)) (hi : (Try.prog.info? ty).map (·.size) = some cs.length) (n : Nat) :
    (Instr.loadAt ty (.pointer (some ⟨b, o, none⟩))).run Try.prog (w.drewN n) = .ok (.agg cs.toArray) (w.drewN n) :=
  run_loadAt_mid (w.drewN n) b o ty cs _ hc hu rfl hi

set_option maxHeartbeats 4000000 in
theorem act_same (w : World) (S1 S2 : Nat → Prop) (cs1 cs2 : List Value) (A : ActD) (h1 : ActIn w S1 cs1 A) (h2 : ActIn w S2 cs2 A) (hS1 : ∀ k, S1 k → k < w.heap.size) (hS2 : ∀ k, S2 k → k < w.heap.size) (ht : ActTy A) :
    Calls Try.prog 47 #[.agg cs1.toArray, .agg cs2.toArray] w fun e w' => e = .returned (.bool true) ∧ Below w.heap.size w w' := by
  obtain ⟨W, hW⟩ : ∃ W, W = (w.alloc (.cells cs1.toArray 86)).alloc (.cells cs2.toArray 86) := ⟨_, rfl⟩
  have hs0 : (w.alloc (.cells cs1.toArray 86)).heap.size = w.heap.size + 1 := by simp
  have hb2 : W.heap[w.heap.size + 1]? = some (.cells cs2.toArray 86 (0, 0)) := by rw [hW, ← hs0]; exact heap_alloc_new _ _
  have hb1 : W.heap[w.heap.size]? = some (.cells cs1.toArray 86 (0, 0)) := by rw [hW, Below.heap_alloc _ _ _ (by omega)]; exact heap_alloc_new w _
  have hbw : Below w.heap.size w W := by rw [hW]; exact ((Below.refl _ w).alloc (Nat.le_refl _) _).alloc (by omega) _
  obtain ⟨hl1, _, hm1, v1, v2, p9, p15, hr1, hr2⟩ := h1
  obtain ⟨hl2, _, hm2, v1', v2', q9, q15, hr1', hr2'⟩ := h2
  have HR1 := Lib.hid (hr1.below hbw hS1)
  have HR2 := Lib.hid (hr2.below hbw hS1)
  have HR1' := Lib.hid (hr1'.below hbw hS2)
  have HR2' := Lib.hid (hr2'.below hbw hS2)
  obtain ⟨nt, hnt⟩ : ∃ n, A.nt = n := ⟨_, rfl⟩
  obtain ⟨nw, hnw⟩ : ∃ n, A.nw = n := ⟨_, rfl⟩
  rw [hnt] at HR1 HR1'
  rw [hnw] at HR2 HR2'
  have HTOS := Lib.hid ht.2.1
  have HWR : Hid (WrTy nw A.wr) := by rw [← hnw]; exact ht.2.2
  obtain ⟨_, e0, x0, rfl⟩ := ht.1.get 0 .str rfl
  have c0 := cell_at hb1 (mask_get hm1 (k := 0) (by decide) (by decide) e0)
  have d0 := cell_at hb2 (mask_get hm2 (k := 0) (by decide) (by decide) e0)
  obtain ⟨_, e1, x1, rfl⟩ := ht.1.get 1 (.int .i64) rfl
  have c1 := cell_at hb1 (mask_get hm1 (k := 1) (by decide) (by decide) e1)
  have d1 := cell_at hb2 (mask_get hm2 (k := 1) (by decide) (by decide) e1)
  obtain ⟨_, e2, x2, rfl⟩ := ht.1.get 2 .str rfl
  have c2 := cell_at hb1 (mask_get hm1 (k := 2) (by decide) (by decide) e2)
  have d2 := cell_at hb2 (mask_get hm2 (k := 2) (by decide) (by decide) e2)
  obtain ⟨_, e3, x3, rfl⟩ := ht.1.get 3 (.int .i64) rfl
  have c3 := cell_at hb1 (mask_get hm1 (k := 3) (by decide) (by decide) e3)
  have d3 := cell_at hb2 (mask_get hm2 (k := 3) (by decide) (by decide) e3)
  obtain ⟨_, e4, x4, rfl⟩ := ht.1.get 4 (.int .i64) rfl
  have c4 := cell_at hb1 (mask_get hm1 (k := 4) (by decide) (by decide) e4)
  have d4 := cell_at hb2 (mask_get hm2 (k := 4) (by decide) (by decide) e4)
  obtain ⟨_, e5, x5, rfl⟩ := ht.1.get 5 .str rfl
  have c5 := cell_at hb1 (mask_get hm1 (k := 5) (by decide) (by decide) e5)
  have d5 := cell_at hb2 (mask_get hm2 (k := 5) (by decide) (by decide) e5)
  obtain ⟨_, e6, x6, rfl⟩ := ht.1.get 6 .str rfl
  have c6 := cell_at hb1 (mask_get hm1 (k := 6) (by decide) (by decide) e6)
  have d6 := cell_at hb2 (mask_get hm2 (k := 6) (by decide) (by decide) e6)
  obtain ⟨_, e7, x7, rfl⟩ := ht.1.get 7 (.int .i64) rfl
  have c7 := cell_at hb1 (mask_get hm1 (k := 7) (by decide) (by decide) e7)
  have d7 := cell_at hb2 (mask_get hm2 (k := 7) (by decide) (by decide) e7)
  obtain ⟨_, e8, x8, rfl⟩ := ht.1.get 8 .str rfl
  have c8 := cell_at hb1 (mask_get hm1 (k := 8) (by decide) (by decide) e8)
  have d8 := cell_at hb2 (mask_get hm2 (k := 8) (by decide) (by decide) e8)
  obtain ⟨_, e10, x10, rfl⟩ := ht.1.get 10 .str rfl
  have c10 := cell_at hb1 (mask_get hm1 (k := 10) (by decide) (by decide) e10)
  have d10 := cell_at hb2 (mask_get hm2 (k := 10) (by decide) (by decide) e10)
  obtain ⟨_, e11, x11, rfl⟩ := ht.1.get 11 .str rfl
  have c11 := cell_at hb1 (mask_get hm1 (k := 11) (by decide) (by decide) e11)
  have d11 := cell_at hb2 (mask_get hm2 (k := 11) (by decide) (by decide) e11)
  obtain ⟨_, e12, x12, rfl⟩ := ht.1.get 12 .str rfl
  have c12 := cell_at hb1 (mask_get hm1 (k := 12) (by decide) (by decide) e12)
  have d12 := cell_at hb2 (mask_get hm2 (k := 12) (by decide) (by decide) e12)
  obtain ⟨_, e13, x13, rfl⟩ := ht.1.get 13 .str rfl
  have c13 := cell_at hb1 (mask_get hm1 (k := 13) (by decide) (by decide) e13)
  have d13 := cell_at hb2 (mask_get hm2 (k := 13) (by decide) (by decide) e13)
  obtain ⟨_, e14, x14, rfl⟩ := ht.1.get 14 (.int .i64) rfl
  have c14 := cell_at hb1 (mask_get hm1 (k := 14) (by decide) (by decide) e14)
  have d14 := cell_at hb2 (mask_get hm2 (k := 14) (by decide) (by decide) e14)
  obtain ⟨_, e16, x16, rfl⟩ := ht.1.get 16 (.int .i64) rfl
  have c16 := cell_at hb1 (mask_get hm1 (k := 16) (by decide) (by decide) e16)
  have d16 := cell_at hb2 (mask_get hm2 (k := 16) (by decide) (by decide) e16)
  obtain ⟨_, e17, x17, rfl⟩ := ht.1.get 17 (.int .i64) rfl
  have c17 := cell_at hb1 (mask_get hm1 (k := 17) (by decide) (by decide) e17)
  have d17 := cell_at hb2 (mask_get hm2 (k := 17) (by decide) (by decide) e17)
  obtain ⟨_, e18, x18, rfl⟩ := ht.1.get 18 (.int .i64) rfl
  have c18 := cell_at hb1 (mask_get hm1 (k := 18) (by decide) (by decide) e18)
  have d18 := cell_at hb2 (mask_get hm2 (k := 18) (by decide) (by decide) e18)
  obtain ⟨_, e19, x19, rfl⟩ := ht.1.get 19 (.int .i64) rfl
  have c19 := cell_at hb1 (mask_get hm1 (k := 19) (by decide) (by decide) e19)
  have d19 := cell_at hb2 (mask_get hm2 (k := 19) (by decide) (by decide) e19)
  have c9 := cell_at hb1 p9
  have c15 := cell_at hb1 p15
  have d9 := cell_at hb2 q9
  have d15 := cell_at hb2 q15
  have g83 : W.rangeAt w.heap.size 11 [.string x11, .string x12, .string x13] := fun j u hu => by
    match j, hu with
    | 0, hu => simp at hu; subst hu; exact c11
    | 1, hu => simp at hu; subst hu; exact c12
    | 2, hu => simp at hu; subst hu; exact c13
  have g83' : W.rangeAt (w.heap.size + 1) 11 [.string x11, .string x12, .string x13] := fun j u hu => by
    match j, hu with
    | 0, hu => simp at hu; subst hu; exact d11
    | 1, hu => simp at hu; subst hu; exact d12
    | 2, hu => simp at hu; subst hu; exact d13
  have g30 : W.rangeAt w.heap.size 18 [.int .i64 x18, .int .i64 x19] := fun j u hu => by
    match j, hu with
    | 0, hu => simp at hu; subst hu; exact c18
    | 1, hu => simp at hu; subst hu; exact c19
  have g30' : W.rangeAt (w.heap.size + 1) 18 [.int .i64 x18, .int .i64 x19] := fun j u hu => by
    match j, hu with
    | 0, hu => simp at hu; subst hu; exact d18
    | 1, hu => simp at hu; subst hu; exact d19
  obtain ⟨fs83, hu83⟩ := und83
  obtain ⟨fs30, hu30⟩ := und30
  obtain ⟨fs99, hu99⟩ := und99
  have l83 := Lib.hid (load_at g83 hu83 (by exact size83))
  have l83' := Lib.hid (load_at g83' hu83 (by exact size83))
  have l30 := Lib.hid (load_at g30 hu30 (by exact size30))
  have l30' := Lib.hid (load_at g30' hu30 (by exact size30))
  have HU99 := Lib.hid hu99
  obtain ⟨a1, k1, rfl, _, _, hnt2, _⟩ := HR1.out
  obtain ⟨a1', k1', rfl, _⟩ := HR1'.out
  obtain ⟨a2, k2, rfl, _, _, hnw2, _⟩ := HR2.out
  obtain ⟨a2', k2', rfl, _⟩ := HR2'.out
  have HW := Lib.hid hW
  have HBW := Lib.hid hbw
  clear hb1 hb2 hbw hl1 hl2 hm1 hm2 p9 p15 q9 q15 hr1 hr2 hr1' hr2' hnt hnw ht hS1 hS2 hW g83 g83' g30 g30' hu83 hu30 hu99 e0 e1 e2 e3 e4 e5 e6 e7 e8 e10 e11 e12 e13 e14 e16 e17 e18 e19
  go_enter Try.func47, Try.ntmps47
  go_upto_region 1 with fail
  change Code.wp _ _ _ _ ((w.alloc (.cells cs1.toArray 86)).alloc (.cells cs2.toArray 86))
  rw [← HW.out]
  go_wp2
  go_loopw [5] (fun s wr => ∃ k : Nat, k ≤ nt ∧ s = .int .i64 k ∧ ∃ m, wr = W.drewN m) (fun s _ => nt - (intOf s).toNat)
  case atStart => exact ⟨0, by omega, rfl, 0, rfl⟩
  case round =>
    obtain ⟨k, hk, rfl, m, rfl⟩ := hrel
    by_cases hkn : k < nt
    · as_aux_lemma =>
        obtain ⟨b1, o1, c1', e1, _, hc1⟩ := HR1.out.cellsAt hkn
        cases e1
        obtain ⟨b2, o2, c2', e2, _, hc2⟩ := HR1'.out.cellsAt hkn
        cases e2
        obtain ⟨u, hu, f1⟩ := hc1 0 (by omega)
        obtain ⟨u', hu', f2⟩ := hc2 0 (by omega)
        rw [hu] at hu'
        cases hu'
        obtain ⟨s, rfl⟩ := HTOS.out u (List.mem_of_getElem? hu)
        rw [Nat.mul_one, Nat.add_zero] at f1 f2
        clear hc1 hc2 hu
        have hk0 : (0 : Int) ≤ k := by omega
        have hkI : (k : Int) < nt := by omega
        go_wp2_with fail
        go_quiet (fail)
        go_wp2
        go_roundw
        case rel => exact ⟨k + 1, by omega, by go_num, _, rfl⟩
        case measure => simp [intOf]; omega
    · as_aux_lemma =>
        obtain rfl : k = nt := by omega
        clear hk
        go_wp2
        go_loopw [6] (fun s wr => ∃ k : Nat, k ≤ nw ∧ s = .int .i64 k ∧ ∃ m, wr = W.drewN m) (fun s _ => nw - (intOf s).toNat)
        case atStart => exact ⟨0, by omega, rfl, m, rfl⟩
        case round =>
          obtain ⟨q, hq, rfl, m, rfl⟩ := hrel
          by_cases hqn : q < nw
          · obtain ⟨i0, i1, s2, s3, s4, hrow⟩ := HWR.out q hqn
            obtain ⟨b1, o1, c1', e1, hc1⟩ := HR2.out.rangeAt hqn hrow
            cases e1
            obtain ⟨b2, o2, c2', e2, hc2⟩ := HR2'.out.rangeAt hqn hrow
            cases e2
            have f0 := hc1 0 _ rfl
            have f1 := hc1 1 _ rfl
            have f2 := hc1 2 _ rfl
            have f3 := hc1 3 _ rfl
            have f4 := hc1 4 _ rfl
            have f5 := hc2 0 _ rfl
            have f6 := hc2 1 _ rfl
            have f7 := hc2 2 _ rfl
            have f8 := hc2 3 _ rfl
            have f9 := hc2 4 _ rfl
            rw [Nat.add_zero] at f0 f5
            clear hrow hc1 hc2
            have hk0 : (0 : Int) ≤ q := by omega
            have hkI : (q : Int) < nw := by omega
            go_wp2_with fail
            go_quiet (fail)
            go_wp2
            go_roundw
            case rel => exact ⟨q + 1, by omega, by go_num, _, rfl⟩
            case measure => simp [intOf]; omega
          · obtain rfl : q = nw := by omega
            clear hq
            replace l83 := l83.out m
            replace l83' := l83'.out m
            replace l30 := l30.out m
            replace l30' := l30'.out m
            go_wp2
            go_ret
            exact ⟨rfl, below_drewN HBW.out m⟩
end Go.Proofs.Ytdkpgjhjdnfieaa

