/- The contracts of Take and Lose. Condition: the net lies in memory as stated. -/
import Derived.Test.YtdkpgjhjdnfieaaR
set_option linter.unusedVariables false
set_option linter.unusedSimpArgs false
namespace Go.Proofs.Ytdkpgjhjdnfieaa
open Go.RowKit Go.Mf
set_option maxRecDepth 100000

theorem results_two {fn : Func} {p s : Tmp} (h : fn.results = #[.cell p 42, .tmp s]) (tmps : Array Value) (w : World) (g : Nat) (t : TypeId) (cs : Array Value) (fr : Nat × Nat) (u : Value)
    (hp : tmps.getD p undef = .pointer (some ⟨g, 0, none⟩)) (hg : w.heap[g]? = some (.cells cs t fr)) (hs : tmps.getD s undef = u) (hi : cs.size = 34) :
    (results fn tmps).run Try.prog w = .ok (.tuple #[.agg cs, u]) w := by
  have hp' : tmps[p]?.getD undef = .pointer (some ⟨g, 0, none⟩) := by simpa using hp
  have hs' : tmps[s]?.getD undef = u := by simpa using hs
  simp [results, h, hp', hs', asAddr, loadMsg w g cs t fr hg hi]
theorem zMsg_size : zMsg.toArray.size = 34 := rfl
theorem zMsg_all : zMsg.toArray.all (·.oneCell') = true := by decide +kernel

def Nx.pop (X : Nx) (a b i : Int) : Nx := X.set a.toNat b.toNat ((X.q a.toNat b.toNat).eraseIdx i.toNat)
def TakePost (w : World) (S : Nat → Prop) (x : Nat) (X : Nx) (a b t : Int) (ok : Bool) : Ending → World → Prop := fun e w' =>
  ∃ X' m, e = .returned (.tuple #[.agg m.toArray, .bool ok]) ∧ NetOk w' S x X' ∧ Fr S S w w' ∧ m.length = 34 ∧ (∀ u ∈ m, u.oneCell' = true) ∧ (ok = false → X' = X ∧ m = zMsg) ∧
    (ok = true → X' = X.pop a b t ∧ (X.q a.toNat b.toNat)[t.toNat]? = some m)

theorem taken {w w1 w' : World} {S : Nat → Prop} {x rb : Nat} {rr : Nat → Nat} {qv : Nat → Nat → Value} {X : Nx} {i j k : Nat} {m : List Value} {e : Ending} (h : NetIn w S x rb rr qv X) (hS : ∀ k, S k → k < w.heap.size) (hi : i < X.n) (hj : j < X.n) (hk : (X.q i j)[k]? = some m)
    (h1 : Below w.heap.size w w1) (hp : RemPost w1 (rr i) (j * 2) (linkCells X.n (qv i) (X.off i)) (qv i j) (X.q i j) k m e w') :
    e = .returned (.agg m.toArray) ∧ w1.heap.size ≤ w'.heap.size ∧ (∀ q, w.heap.size ≤ q → q < w1.heap.size → w'.heap[q]? = w1.heap[q]?) ∧
      ∀ F, (Only w.heap.size w' F) → TakePost w S x X i j k true (.returned (.tuple #[.agg m.toArray, .bool true])) F := by
  obtain ⟨g, cap, he, hr, hown, hg, p1, p2, p3, p4, p5⟩ := hp
  have hs1 := h1.size
  have lt : ∀ {k : Nat} {o : Obj}, w.heap[k]? = some o → k < w.heap.size := fun h => (Array.getElem?_eq_some_iff.1 h).1
  have hkl := (List.getElem?_eq_some_iff.1 hk).1
  have hlen : (X.q i j).length - 1 = ((X.q i j).eraseIdx k).length := by rw [List.length_eraseIdx_of_lt hkl]
  have hok : MsgsOk ((X.q i j).eraseIdx k) := fun m hm => h.ok i j m (List.mem_of_mem_eraseIdx hm)
  have hgS : ∀ q, (qv i j).ownBlock = some q → S q := fun q hq => h.sq i j q hi hj hq
  have hrS := h.sl i hi
  have hne : ∀ q, w.heap.size ≤ q → q < w1.heap.size → w'.heap[q]? = w1.heap[q]? := fun q hq hq1 => p5 q hq1 (fun e => by have := hS _ hrS; omega) (fun e => by have := hS _ (hgS q e.symm); omega)
  refine ⟨he, p4, hne, fun F hF => ?_⟩
  rw [hlen] at hr hown
  have hnet := net_set h hi hj ((X.q i j).eraseIdx k) hok hS hr hown (.inl hg) (fun q hq hqr hqn => by rw [p5 q (by omega) hqr hqn, h1.block q hq])
  have hF' : ∀ q, q < w.heap.size → F.heap[q]? = w'.heap[q]? := fun q hq => hF.block q (by omega)
  have hSg : S g := hgS g hg
  refine ⟨X.set i j ((X.q i j).eraseIdx k), m, rfl, ⟨fun q hq => ?_, rb, rr, _, (hnet.keep (S' := S) (fun q hq => hq.elim id (fun e => by rw [e]; exact hSg)) (fun q hq hql => ?_))⟩, ⟨?_, ?_, ?_, ?_, ?_, ?_⟩, (h.ok i j m (List.mem_of_getElem? hk)).1, (h.ok i j m (List.mem_of_getElem? hk)).2, fun h => (by cases h), fun _ => ⟨by simp [Nx.pop], by simpa using hk⟩⟩
  · have := hS q hq; rw [hF.size]; omega
  · exact hF' q (by rcases hq with hq | hq; exact hS q hq; rw [hq]; exact hS g hSg)
  · rw [hF.os, p1, h1.os]
  · rw [hF.tape, p2, h1.tape]
  · rw [hF.output, p3, h1.output]
  · rw [hF.size]; omega
  · intro q hq hnS
    rw [hF' q hq, p5 q (by omega) (fun e => hnS (by rw [e]; exact hrS)) (fun e => hnS (hgS q e.symm)), h1.block q hq]
  · exact fun q hq => .inl hq

set_option maxHeartbeats 1000000 in
theorem take_any (w : World) (S : Nat → Prop) (x : Nat) (X : Nx) (a b t : Int) (h : NetOk w S x X) :
    Calls Try.prog 15 #[.pointer (some ⟨x, 0, none⟩), .int .i64 a, .int .i64 b, .int .i64 t] w (TakePost w S x X a b t (X.hasAt a b t)) := by
  obtain ⟨hS, rb, rr, qv, hN⟩ := h
  obtain ⟨W, hW⟩ : ∃ W, W = w.alloc (.cells zMsg.toArray 42) := ⟨_, rfl⟩
  have hb0 : W.heap[w.heap.size]? = some (.cells zMsg.toArray 42 (0, 0)) := by rw [hW]; exact heap_alloc_new w _
  have hbw : Below w.heap.size w W := by rw [hW]; exact (Below.refl _ w).alloc (Nat.le_refl _) _
  have hNW : NetIn W S x rb rr qv X := hN.keep (fun _ h => h) (fun k _ hk => hbw.block k hk)
  have hlk := link_any hNW a b
  have hthw : W.there w.heap.size 0 34 := there_block hb0
  have hzF : (W.setCells w.heap.size 0 zMsg).heap[w.heap.size]? = some (.cells zMsg.toArray 42 (0, 0)) := by
    have := setCells_heap zMsg 0 hb0
    rwa [putL_all rfl] at this
  have hno : X.hasAt a b t = false → TakePost w S x X a b t (X.hasAt a b t) (.returned (.tuple #[.agg zMsg.toArray, .bool false])) (W.setCells w.heap.size 0 zMsg) := fun hf => by
    rw [hf]
    have ho := (Only.refl w.heap.size W).setCells zMsg 0
    obtain ⟨F, hF⟩ : ∃ F, F = W.setCells w.heap.size 0 zMsg := ⟨_, rfl⟩
    rw [← hF] at ho ⊢
    refine ⟨X, zMsg, rfl, ⟨fun k hk => ?_, rb, rr, qv, hNW.keep (fun _ h => h) (fun k hk _ => ho.block k (by have := hS k hk; omega))⟩, ⟨ho.os.trans hbw.os, ho.tape.trans hbw.tape, ho.output.trans hbw.output, by rw [ho.size]; exact hbw.size, fun k hk _ => ?_, fun k hk => .inl hk⟩, rfl, List.all_eq_true.1 (show zMsg.all (·.oneCell') = true by decide +kernel), fun _ => ⟨rfl, rfl⟩, fun h => (by cases h)⟩
    · rw [ho.size]; exact Nat.lt_of_lt_of_le (hS k hk) hbw.size
    · rw [ho.block k (by omega)]; exact hbw.block k hk
  obtain ⟨fs42, hu42⟩ := und42
  have HW : Hid (W = w.alloc (.cells zMsg.toArray 42)) := hW
  have HNO := Lib.hid hno
  have HB0 := Lib.hid hb0
  have HBW := Lib.hid hbw
  have HN := Lib.hid hN
  have HNW := Lib.hid hNW
  have HS := Lib.hid hS
  have HTHW := Lib.hid hthw
  have HZF := Lib.hid hzF
  by_cases hl : isLink X.n a b = true
  · obtain ⟨i, j, rfl, rfl, hi, hj, hne⟩ := isLink_nat hl
    obtain ⟨q, c, e, d1, d2⟩ := link_cells hNW hi hj
    rw [if_pos hl] at hlk
    simp only [Int.toNat_natCast] at hlk
    have HLK := Lib.hid hlk
    have hha : X.hasAt i j t = (decide (0 ≤ t) && decide (t < (X.q i j).length)) := by unfold Nx.hasAt; rw [hl]; simp
    have HSV := Lib.hid hha
    have hbi : (linkCells X.n (qv i) (X.off i))[j * 2]? = some (qv i j) := by rw [Nat.mul_comm]; exact (link_get (n := X.n) (qv i) (X.off i) hj).1
    have HBI := Lib.hid hbi
    have HOWN := Lib.hid (hNW.hq i j hi hj)
    have HLB := Lib.hid (hNW.hl i hi)
    obtain ⟨n, hn⟩ : ∃ n, (X.q i j).length = n := ⟨_, rfl⟩
    have HNN := Lib.hid hn
    rw [hn] at d1
    have HHAS := Lib.hid (has_any W (rr i) (j * 2) n c t q d1)
    clear hlk hno hN hS hl hbi hn hha e d2 hb0 hbw hNW hW hthw hzF
    go_enter Try.func15, Try.ntmps15
    go_upto_region 1 with fail
    change Code.wp _ _ _ _ (w.alloc (.cells zMsg.toArray 42))
    rw [← HW.out]
    go_wp2_with fail
    refine HLK.out.mono ?_
    rintro e w' ⟨rfl, rfl⟩
    clear HLK
    go_wp2_with fail
    by_cases hin : 0 ≤ t ∧ t < n
    · have hh := HHAS.out
      rw [show (decide (0 ≤ t) && decide (t < (n : Int))) = true by simp; omega] at hh
      have hyes : X.hasAt i j t = true := by rw [HSV.out, HNN.out]; simp; omega
      have HYES := Lib.hid hyes
      refine hh.mono ?_
      rintro e w1 ⟨rfl, rfl⟩
      clear hh hyes
      obtain ⟨k, rfl⟩ : ∃ k : Nat, t = k := ⟨t.toNat, by omega⟩
      have hkn : k < n := by omega
      obtain ⟨m, hm⟩ : ∃ m, (X.q i j)[k]? = some m := ⟨(X.q i j)[k]'(by rw [HNN.out]; exact hkn), List.getElem?_eq_getElem _⟩
      have HM := Lib.hid hm
      clear hm hin d1
      go_wp2_with fail
      refine (remove_any _ (rr i) (j * 2) _ (qv i j) (X.q i j) m k (HN.out.ok i j) HOWN.out HLB.out HBI.out HM.out).mono ?_
      intro e w2 hp
      obtain ⟨rfl, hsz, hold, hfin⟩ := taken HN.out HS.out hi hj HM.out HBW.out hp
      have hml := HN.out.ok i j m (List.mem_of_getElem? HM.out)
      have g2 : w2.heap[w.heap.size]? = some (.cells zMsg.toArray 42 (0, 0)) := (hold _ (Nat.le_refl _) (Array.getElem?_eq_some_iff.1 HB0.out).1).trans HB0.out
      have HTH2 := Lib.hid (there_block g2)
      have hF := setCells_heap m 0 g2
      rw [putL_all (by rw [hml.1]; rfl)] at hF
      have HF := Lib.hid hF
      have HMS : Hid (m.toArray.size = 34) := by show m.toArray.size = 34; simpa using hml.1
      have HM1 := Lib.hid hml.2
      have HFIN := Lib.hid (hfin _ ((Only.refl w.heap.size w2).setCells m 0))
      clear hp hsz hold hfin hml g2 hF
      go_wp2_with (refine wpList_store_mid rfl 42 _ _ rfl w.heap.size 0 m.toArray rfl rfl ?i2 ?i3 ?i4 ?_; (case i2 => rw [HMS.out]; exact HTH2.out); (case i3 => rw [HMS.out]; exact size42); (case i4 => exact all_oneCell_toArray HM1.out))
      exact bodyPost_ret (v := .tuple #[.agg m.toArray, .bool true]) (results_two rfl _ _ w.heap.size 42 m.toArray (0, 0) _ rfl HF.out rfl HMS.out) rfl (by rw [HYES.out]; exact HFIN.out)
    · have hh := HHAS.out
      rw [show (decide (0 ≤ t) && decide (t < (n : Int))) = false by simp; omega] at hh
      have HNF := Lib.hid (HNO.out (by rw [HSV.out, HNN.out]; simp; omega))
      refine hh.mono ?_
      rintro e w1 ⟨rfl, rfl⟩
      clear hh hin d1
      go_wp2_with (refine wpList_store_mid rfl 42 _ _ rfl w.heap.size 0 zMsg.toArray rfl rfl ?i2 ?i3 ?i4 ?_; (case i2 => rw [zMsg_size]; exact HTHW.out); (case i3 => rw [zMsg_size]; exact size42); (case i4 => exact zMsg_all))
      exact bodyPost_ret (v := .tuple #[.agg zMsg.toArray, .bool false]) (results_two rfl _ _ w.heap.size 42 zMsg.toArray (0, 0) _ rfl HZF.out rfl zMsg_size) rfl HNF.out
  · rw [if_neg hl] at hlk
    have HLK := Lib.hid hlk
    have hf : X.hasAt a b t = false := by unfold Nx.hasAt; simp [hl]
    have HF := Lib.hid (hno hf)
    clear hlk hno hN hS hl hf hb0 hbw hNW hW hthw hzF
    go_enter Try.func15, Try.ntmps15
    go_upto_region 1 with fail
    change Code.wp _ _ _ _ (w.alloc (.cells zMsg.toArray 42))
    rw [← HW.out]
    go_wp2_with fail
    refine HLK.out.mono ?_
    rintro e w' ⟨rfl, rfl⟩
    clear HLK
    go_wp2_with (refine wpList_store_mid rfl 42 _ _ rfl w.heap.size 0 zMsg.toArray rfl rfl ?i2 ?i3 ?i4 ?_; (case i2 => rw [zMsg_size]; exact HTHW.out); (case i3 => rw [zMsg_size]; exact size42); (case i4 => exact zMsg_all))
    exact bodyPost_ret (v := .tuple #[.agg zMsg.toArray, .bool false]) (results_two rfl _ _ w.heap.size 42 zMsg.toArray (0, 0) _ rfl HZF.out rfl zMsg_size) rfl HF.out

def LosePost (w : World) (S : Nat → Prop) (x : Nat) (X : Nx) (a b t : Int) (ok : Bool) : Ending → World → Prop := fun e w' =>
  ∃ X', e = .returned (.bool ok) ∧ NetOk w' S x X' ∧ Fr S S w w' ∧ (ok = false → X' = X) ∧ (ok = true → X' = X.pop a b t)

theorem netOk_up {w w' : World} {S : Nat → Prop} {x : Nat} {X : Nx} (h : NetOk w S x X) (hb : Below w.heap.size w w') : NetOk w' S x X := h.keep hb.size (fun k _ hk => hb.block k hk)
theorem Fr.up {S S' : Nat → Prop} {a b c : World} (h : Fr S S' a b) (hb : Below b.heap.size b c) : Fr S S' a c :=
  ⟨hb.os.trans h.os, hb.tape.trans h.tape, hb.output.trans h.output, Nat.le_trans h.size hb.size, fun k hk hn => (hb.block k (Nat.lt_of_lt_of_le hk h.size)).trans (h.block k hk hn), h.new⟩

set_option maxHeartbeats 1000000 in
theorem lose_any (w : World) (S : Nat → Prop) (x : Nat) (X : Nx) (a b t : Int) (h : NetOk w S x X) :
    Calls Try.prog 17 #[.pointer (some ⟨x, 0, none⟩), .int .i64 a, .int .i64 b, .int .i64 t] w (LosePost w S x X a b t (X.hasAt a b t)) := by
  have HT := Lib.hid (take_any w S x X a b t h)
  clear h
  go_enter Try.func17, Try.ntmps17
  go_wp2_with fail
  refine HT.out.mono ?_
  rintro e w1 ⟨X', m, rfl, hnet, hfr, hml, hm1, hno, hyes⟩
  clear HT
  obtain ⟨W2, hW2⟩ : ∃ W2, W2 = w1.alloc (.cells zMsg.toArray 42) := ⟨_, rfl⟩
  have g2 : W2.heap[w1.heap.size]? = some (.cells zMsg.toArray 42 (0, 0)) := by rw [hW2]; exact heap_alloc_new w1 _
  have hb2 : Below w1.heap.size w1 W2 := by rw [hW2]; exact (Below.refl _ w1).alloc (Nat.le_refl _) _
  have ho := (Only.refl w1.heap.size W2).setCells m 0
  have hb3 : Below w1.heap.size w1 (W2.setCells w1.heap.size 0 m) := ⟨ho.os.trans hb2.os, ho.tape.trans hb2.tape, ho.output.trans hb2.output, by rw [ho.size]; exact hb2.size, fun k hk => by rw [ho.block k (by omega)]; exact hb2.block k hk⟩
  have hfin : LosePost w S x X a b t (X.hasAt a b t) (.returned (.bool (X.hasAt a b t))) (W2.setCells w1.heap.size 0 m) :=
    ⟨X', rfl, netOk_up hnet hb3, hfr.up hb3, fun h => (hno h).1, fun h => (hyes h).1⟩
  have HFIN := Lib.hid hfin
  have HTH := Lib.hid (there_block g2)
  have HMS : Hid (m.toArray.size = 34) := by show m.toArray.size = 34; simpa using hml
  have HM1 := Lib.hid hm1
  have HW2 : Hid (W2 = w1.alloc (.cells zMsg.toArray 42)) := hW2
  obtain ⟨ok, hok⟩ : ∃ ok, X.hasAt a b t = ok := ⟨_, rfl⟩
  rw [hok] at HFIN ⊢
  have HOK := Lib.hid hok
  clear hnet hfr hml hm1 hno hyes g2 hb2 ho hb3 hfin hW2 hok
  go_wp2_with (change wpList _ _ _ _ _ (w1.alloc (.cells zMsg.toArray 42)); rw [← HW2.out]; refine wpList_store_mid rfl 42 _ _ rfl w1.heap.size 0 m.toArray rfl rfl ?i2 ?i3 ?i4 ?_; (case i2 => rw [HMS.out]; exact HTH.out); (case i3 => rw [HMS.out]; exact size42); (case i4 => exact all_oneCell_toArray HM1.out))
  go_ret
  rw [HOK.out]
  exact HFIN.out
end Go.Proofs.Ytdkpgjhjdnfieaa
