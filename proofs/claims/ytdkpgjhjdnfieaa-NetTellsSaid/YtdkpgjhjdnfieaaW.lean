/- The contract of small: it returns true and writes nothing that was there. No condition. -/
import Derived.Test.YtdkpgjhjdnfieaaV
set_option linter.unusedVariables false
set_option linter.unusedSimpArgs false
namespace Go.Proofs.Ytdkpgjhjdnfieaa
open Go.RowKit Go.Mf
set_option maxRecDepth 100000

def Kept (w : World) (S : Nat → Prop) (p : Addr) (v : Value) : Prop := w.cell? p = some v ∧ ¬ S p.block
theorem Kept.fr {a b : World} {S S' : Nat → Prop} {p : Addr} {v : Value} (h : Kept a S p v) (hf : Fr S S' a b) : Kept b S' p v := by
  have hl := World.block_lt_of_cell? _ _ h.1
  exact ⟨(World.cell?_of_block (hf.block _ hl h.2)).trans h.1, fun hs => (hf.new _ hs).elim h.2 (fun h' => by omega)⟩
theorem Kept.up {a b : World} {S : Nat → Prop} {p : Addr} {v : Value} (h : Kept a S p v) (hb : Below a.heap.size a b) : Kept b S p v :=
  ⟨(World.cell?_of_block (hb.block _ (World.block_lt_of_cell? _ _ h.1))).trans h.1, h.2⟩

def Xl (l : List (List Value)) : Nx := ⟨3, fun i j => if i = 0 ∧ j = 1 then l else [], fun _ _ => false⟩
theorem Xl_push (l : List (List Value)) (c : List Value) : (Xl l).push 0 1 c = Xl (l ++ [c]) := by
  unfold Xl Nx.push Nx.set
  simp only [Nx.mk.injEq, true_and, and_true]
  funext i j
  by_cases h : i = 0 ∧ j = 1 <;> simp [h]
theorem Xl_pop (l : List (List Value)) (k : Nat) : (Xl l).pop 0 1 (k : Int) = Xl (l.eraseIdx k) := by
  unfold Xl Nx.pop Nx.set
  simp only [Nx.mk.injEq, true_and, and_true]
  funext i j
  by_cases h : i = 0 ∧ j = 1 <;> simp [h]
theorem Xl_send (l : List (List Value)) (h : l.length < 1024) : (Xl l).sendOk 0 1 = true := by unfold Nx.sendOk Xl isLink; simp; exact h
theorem Xl_has (l : List (List Value)) (k : Nat) (h : k < l.length) : (Xl l).hasAt 0 1 (k : Int) = true := by unfold Nx.hasAt Xl isLink; simp; exact h
theorem Xl_twice (l : List (List Value)) (k : Nat) (h : k < l.length) (h2 : l.length < 1024) : (Xl l).twiceOk 0 1 (k : Int) = true := by unfold Nx.twiceOk; rw [Xl_has l k h]; unfold Xl; simp; exact h2
theorem Xl_q (l : List (List Value)) : (Xl l).q (0 : Int).toNat (1 : Int).toNat = l := by simp [Xl]

set_option maxHeartbeats 2000000 in
theorem small_any (w : World) : Calls Try.prog 8 #[] w fun e w' => e = .returned (.bool true) ∧ Below w.heap.size w w' := by
  obtain ⟨fs42, hu42⟩ := und42
  go_enter Try.func8, Try.ntmps8
  go_wp2_with fail
  refine (new_any _ 3).mono ?_
  rintro e w0 ⟨x, rfl, hnet, hb⟩
  have hnet' : NetOk w0 (fun k => w.heap.size ≤ k ∧ k < w0.heap.size) x (Xl []) := ⟨fun k hk => hk.2, by
    have e : (⟨many 3, fun _ _ => [], fun _ _ => false⟩ : Nx) = Xl [] := by unfold Xl many; rw [show (min (max (3 : Int) 0) 20).toNat = 3 from rfl]; simp
    rw [← e]; exact hnet⟩
  obtain ⟨S0, hS0⟩ : ∃ S0 : Nat → Prop, S0 = fun k => w.heap.size ≤ k ∧ k < w0.heap.size := ⟨_, rfl⟩
  rw [← hS0] at hnet'
  have INV : Hid (Inv w S0 x (Xl []) w0) := ⟨hnet', fun k hk => by rw [hS0] at hk; exact hk.1, hb⟩
  clear hnet hnet' hb hS0
  go_wp2_with fail
  refine (receipt_any _ 0 1 5).mono ?_
  rintro e w1 ⟨rfl, hb⟩
  replace INV := Lib.hid (INV.out.up hb)
  clear hb
  go_wp2_with fail
  have hs := send_any _ S0 (fun _ => False) x (Xl []) (rcpt 0 1 5) (rcptM 0 1 5) 0 1 INV.out.1 (rcpt_in _ _ _ _ _) (fun _ h => h.elim) rfl rfl
  rw [show ((Xl [])).sendOk 0 1 = true from Xl_send _ (by decide)] at hs
  refine hs.mono ?_
  rintro e w2 ⟨S1, X', rfl, hnet, hfr, hno, hyes⟩
  obtain ⟨c1, rfl, hm⟩ := hyes rfl
  rw [Xl_push, List.nil_append] at hnet
  replace INV := Lib.hid (INV.out.fr hnet hfr)
  have Hc1 : Hid (Holds w2 S1 c1 (rcptM 0 1 5)) := Holds.new hm
  clear hnet hfr hno hyes hm hs
  go_wp2_with fail
  refine (receipt_any _ 0 1 6).mono ?_
  rintro e w3 ⟨rfl, hb⟩
  replace INV := Lib.hid (INV.out.up hb)
  replace Hc1 := Lib.hid (Hc1.out.up hb)
  clear hb
  go_wp2_with fail
  have hs := send_any _ S1 (fun _ => False) x (Xl [c1]) (rcpt 0 1 6) (rcptM 0 1 6) 0 1 INV.out.1 (rcpt_in _ _ _ _ _) (fun _ h => h.elim) rfl rfl
  rw [show ((Xl [c1])).sendOk 0 1 = true from Xl_send _ (by simp)] at hs
  refine hs.mono ?_
  rintro e w4 ⟨S2, X', rfl, hnet, hfr, hno, hyes⟩
  obtain ⟨c2, rfl, hm⟩ := hyes rfl
  rw [Xl_push, show [c1] ++ [c2] = [c1, c2] from rfl] at hnet
  replace INV := Lib.hid (INV.out.fr hnet hfr)
  replace Hc1 := Lib.hid (Hc1.out.fr hfr)
  have Hc2 : Hid (Holds w4 S2 c2 (rcptM 0 1 6)) := Holds.new hm
  clear hnet hfr hno hyes hm hs
  go_wp2_with fail
  have hs := len_ok INV.out.1 0 1
  rw [show (Xl [c1, c2]).len 0 1 = 2 from by simp [Nx.len, Xl, isLink]] at hs
  refine hs.mono ?_
  rintro e w5 ⟨rfl, rfl⟩
  clear hs
  go_wp2_with fail
  have hs := len_ok INV.out.1 1 0
  rw [show (Xl [c1, c2]).len 1 0 = 0 from by simp [Nx.len, Xl, isLink]] at hs
  refine hs.mono ?_
  rintro e w6 ⟨rfl, rfl⟩
  clear hs
  go_wp2_with fail
  have hs := twice_any _ S2 _ x (Xl [c1, c2]) (rcptM 0 1 5) 0 1 0 INV.out.1 (fun _ => ⟨c1, by rw [Xl_q]; rfl, Hc1.out⟩) (fun k hk => hk.1)
  rw [show (Xl [c1, c2]).twiceOk 0 1 0 = true from Xl_twice [c1, c2] 0 (by simp) (by simp)] at hs
  refine hs.mono ?_
  rintro e w7 ⟨S3, X', rfl, hnet, hfr, hno, hyes⟩
  obtain ⟨c3, rfl, hm⟩ := hyes rfl
  rw [Xl_push, show [c1, c2] ++ [c3] = [c1, c2, c3] from rfl] at hnet
  replace INV := Lib.hid (INV.out.fr hnet hfr)
  replace Hc1 := Lib.hid (Hc1.out.fr hfr)
  replace Hc2 := Lib.hid (Hc2.out.fr hfr)
  have Hc3 : Hid (Holds w7 S3 c3 (rcptM 0 1 5)) := Holds.new hm
  clear hnet hfr hno hyes hm hs
  go_wp2_with fail
  have hs := take_any _ S3 x (Xl [c1, c2, c3]) 0 1 2 INV.out.1
  rw [show (Xl [c1, c2, c3]).hasAt 0 1 2 = true from Xl_has [c1, c2, c3] 2 (by simp)] at hs
  refine hs.mono ?_
  rintro e w8 ⟨X', m, rfl, hnet, hfr, hml, hm1, hno, hyes⟩
  obtain ⟨rfl, hq⟩ := hyes rfl
  rw [Xl_q] at hq
  obtain rfl : c3 = m := by simpa using hq
  rw [show (Xl [c1, c2, c3]).pop 0 1 2 = Xl [c1, c2] from Xl_pop [c1, c2, c3] 2] at hnet
  replace INV := Lib.hid (INV.out.fr hnet hfr)
  replace Hc1 := Lib.hid (Hc1.out.fr hfr)
  replace Hc2 := Lib.hid (Hc2.out.fr hfr)
  replace Hc3 := Lib.hid (Hc3.out.fr hfr)
  obtain ⟨w9, hw9⟩ : ∃ W2, W2 = w8.alloc (.cells zMsg.toArray 42) := ⟨_, rfl⟩
  have g2 : w9.heap[w8.heap.size]? = some (.cells zMsg.toArray 42 (0, 0)) := by rw [hw9]; exact heap_alloc_new w8 _
  have hb2 : Below w8.heap.size w8 w9 := by rw [hw9]; exact (Below.refl _ w8).alloc (Nat.le_refl _) _
  have hg := setCells_heap c3 0 g2
  rw [putL_all (by rw [hml]; rfl)] at hg
  have ho := (Only.refl w8.heap.size w9).setCells c3 0
  obtain ⟨W3, hW3⟩ : ∃ W3, W3 = w9.setCells w8.heap.size 0 c3 := ⟨_, rfl⟩
  have hb3 : Below w8.heap.size w8 W3 := by rw [hW3]; exact ⟨ho.os.trans hb2.os, ho.tape.trans hb2.tape, ho.output.trans hb2.output, by rw [ho.size]; exact hb2.size, fun k hk => by rw [ho.block k (by omega)]; exact hb2.block k hk⟩
  rw [← hW3] at hg
  have hnS : ¬ S3 w8.heap.size := fun hs => Nat.lt_irrefl _ (INV.out.1.1 _ hs)
  have K1 : Hid (Kept W3 S3 ⟨w8.heap.size, 13, none⟩ (.int .i64 5)) := ⟨cell_at hg (by rw [sc_get Hc3.out (by decide) (by decide)]; rfl), hnS⟩
  replace INV := Lib.hid (INV.out.up hb3)
  replace Hc1 := Lib.hid (Hc1.out.up hb3)
  replace Hc2 := Lib.hid (Hc2.out.up hb3)
  replace Hc3 := Lib.hid (Hc3.out.up hb3)
  have HTH := Lib.hid (there_block g2)
  have HMS : Hid (c3.toArray.size = 34) := by show c3.toArray.size = 34; simpa using hml
  have HM1 := Lib.hid hm1
  have HW2 : Hid (w9 = w8.alloc (.cells zMsg.toArray 42)) := hw9
  have HW3 : Hid (W3 = w9.setCells w8.heap.size 0 c3) := hW3
  clear hs hnet hfr hml hm1 hno hyes hq g2 hb2 ho hb3 hw9 hg hnS hW3
  go_upto_region 10 with (change wpList _ _ _ _ _ (w8.alloc (.cells zMsg.toArray 42)); rw [← HW2.out]; refine wpList_store_mid rfl 42 _ _ rfl w8.heap.size 0 c3.toArray rfl rfl ?i2 ?i3 ?i4 ?_; (case i2 => rw [HMS.out]; exact HTH.out); (case i3 => rw [HMS.out]; exact size42); (case i4 => exact all_oneCell_toArray HM1.out))
  change Code.wp _ _ _ _ (w9.setCells w8.heap.size 0 c3)
  rw [← HW3.out]
  obtain ⟨w8x, rfl⟩ : ∃ v : World, v = W3 := ⟨_, rfl⟩
  clear HW2 HW3 HTH HMS HM1
  go_wp2_with fail
  have hs := take_any _ S3 x (Xl [c1, c2]) 0 1 1 INV.out.1
  rw [show (Xl [c1, c2]).hasAt 0 1 1 = true from Xl_has [c1, c2] 1 (by simp)] at hs
  refine hs.mono ?_
  rintro e w10 ⟨X', m, rfl, hnet, hfr, hml, hm1, hno, hyes⟩
  obtain ⟨rfl, hq⟩ := hyes rfl
  rw [Xl_q] at hq
  obtain rfl : c2 = m := by simpa using hq
  rw [show (Xl [c1, c2]).pop 0 1 1 = Xl [c1] from Xl_pop [c1, c2] 1] at hnet
  replace INV := Lib.hid (INV.out.fr hnet hfr)
  replace Hc1 := Lib.hid (Hc1.out.fr hfr)
  replace Hc2 := Lib.hid (Hc2.out.fr hfr)
  replace Hc3 := Lib.hid (Hc3.out.fr hfr)
  replace K1 := Lib.hid (K1.out.fr hfr)
  obtain ⟨w11, hw11⟩ : ∃ W2, W2 = w10.alloc (.cells zMsg.toArray 42) := ⟨_, rfl⟩
  have g2 : w11.heap[w10.heap.size]? = some (.cells zMsg.toArray 42 (0, 0)) := by rw [hw11]; exact heap_alloc_new w10 _
  have hb2 : Below w10.heap.size w10 w11 := by rw [hw11]; exact (Below.refl _ w10).alloc (Nat.le_refl _) _
  have hg := setCells_heap c2 0 g2
  rw [putL_all (by rw [hml]; rfl)] at hg
  have ho := (Only.refl w10.heap.size w11).setCells c2 0
  obtain ⟨W3, hW3⟩ : ∃ W3, W3 = w11.setCells w10.heap.size 0 c2 := ⟨_, rfl⟩
  have hb3 : Below w10.heap.size w10 W3 := by rw [hW3]; exact ⟨ho.os.trans hb2.os, ho.tape.trans hb2.tape, ho.output.trans hb2.output, by rw [ho.size]; exact hb2.size, fun k hk => by rw [ho.block k (by omega)]; exact hb2.block k hk⟩
  rw [← hW3] at hg
  have hnS : ¬ S3 w10.heap.size := fun hs => Nat.lt_irrefl _ (INV.out.1.1 _ hs)
  have K2 : Hid (Kept W3 S3 ⟨w10.heap.size, 13, none⟩ (.int .i64 6)) := ⟨cell_at hg (by rw [sc_get Hc2.out (by decide) (by decide)]; rfl), hnS⟩
  replace INV := Lib.hid (INV.out.up hb3)
  replace Hc1 := Lib.hid (Hc1.out.up hb3)
  replace Hc2 := Lib.hid (Hc2.out.up hb3)
  replace Hc3 := Lib.hid (Hc3.out.up hb3)
  replace K1 := Lib.hid (K1.out.up hb3)
  have HTH := Lib.hid (there_block g2)
  have HMS : Hid (c2.toArray.size = 34) := by show c2.toArray.size = 34; simpa using hml
  have HM1 := Lib.hid hm1
  have HW2 : Hid (w11 = w10.alloc (.cells zMsg.toArray 42)) := hw11
  have HW3 : Hid (W3 = w11.setCells w10.heap.size 0 c2) := hW3
  clear hs hnet hfr hml hm1 hno hyes hq g2 hb2 ho hb3 hw11 hg hnS hW3
  go_upto_region 11 with (change wpList _ _ _ _ _ (w10.alloc (.cells zMsg.toArray 42)); rw [← HW2.out]; refine wpList_store_mid rfl 42 _ _ rfl w10.heap.size 0 c2.toArray rfl rfl ?i2 ?i3 ?i4 ?_; (case i2 => rw [HMS.out]; exact HTH.out); (case i3 => rw [HMS.out]; exact size42); (case i4 => exact all_oneCell_toArray HM1.out))
  change Code.wp _ _ _ _ (w11.setCells w10.heap.size 0 c2)
  rw [← HW3.out]
  obtain ⟨w10x, rfl⟩ : ∃ v : World, v = W3 := ⟨_, rfl⟩
  clear HW2 HW3 HTH HMS HM1
  go_wp2_with fail
  have hs := lose_any _ S3 x (Xl [c1]) 0 1 0 INV.out.1
  rw [show (Xl [c1]).hasAt 0 1 0 = true from Xl_has [c1] 0 (by simp)] at hs
  refine hs.mono ?_
  rintro e w12 ⟨X', rfl, hnet, hfr, hno, hyes⟩
  obtain rfl := hyes rfl
  rw [show (Xl [c1]).pop 0 1 0 = Xl [] from Xl_pop [c1] 0] at hnet
  replace INV := Lib.hid (INV.out.fr hnet hfr)
  replace Hc1 := Lib.hid (Hc1.out.fr hfr)
  replace Hc2 := Lib.hid (Hc2.out.fr hfr)
  replace Hc3 := Lib.hid (Hc3.out.fr hfr)
  replace K1 := Lib.hid (K1.out.fr hfr)
  replace K2 := Lib.hid (K2.out.fr hfr)
  clear hs hnet hfr hno hyes
  go_wp2_with fail
  have hs := total_any _ S3 x (Xl []) INV.out.1 ⟨by decide, fun i j => by simp [Xl]⟩
  rw [show (Xl []).total = 0 from by simp [Nx.total, Xl, sumTo]] at hs
  refine hs.mono ?_
  rintro e w13 ⟨rfl, hb⟩
  replace INV := Lib.hid (INV.out.up hb)
  replace Hc1 := Lib.hid (Hc1.out.up hb)
  replace Hc2 := Lib.hid (Hc2.out.up hb)
  replace Hc3 := Lib.hid (Hc3.out.up hb)
  replace K1 := Lib.hid (K1.out.up hb)
  replace K2 := Lib.hid (K2.out.up hb)
  clear hs hb
  go_wp2_with fail
  refine (receipt_any _ 0 0 1).mono ?_
  rintro e w14 ⟨rfl, hb⟩
  replace INV := Lib.hid (INV.out.up hb)
  replace Hc1 := Lib.hid (Hc1.out.up hb)
  replace Hc2 := Lib.hid (Hc2.out.up hb)
  replace Hc3 := Lib.hid (Hc3.out.up hb)
  replace K1 := Lib.hid (K1.out.up hb)
  replace K2 := Lib.hid (K2.out.up hb)
  clear hb
  go_wp2_with fail
  have hs := send_any _ S3 (fun _ => False) x (Xl []) (rcpt 0 0 1) (rcptM 0 0 1) 0 0 INV.out.1 (rcpt_in _ _ _ _ _) (fun _ h => h.elim) rfl rfl
  rw [show ((Xl [])).sendOk 0 0 = false from by simp [Nx.sendOk, Xl, isLink]] at hs
  refine hs.mono ?_
  rintro e w15 ⟨S4, X', rfl, hnet, hfr, hno, hyes⟩
  obtain ⟨rfl, rfl⟩ := hno rfl
  replace INV := Lib.hid (INV.out.fr hnet hfr)
  replace Hc1 := Lib.hid (Hc1.out.fr hfr)
  replace Hc2 := Lib.hid (Hc2.out.fr hfr)
  replace Hc3 := Lib.hid (Hc3.out.fr hfr)
  replace K1 := Lib.hid (K1.out.fr hfr)
  replace K2 := Lib.hid (K2.out.fr hfr)
  clear hnet hfr hno hyes hs
  go_wp2_with fail
  refine (receipt_any _ 0 3 1).mono ?_
  rintro e w16 ⟨rfl, hb⟩
  replace INV := Lib.hid (INV.out.up hb)
  replace Hc1 := Lib.hid (Hc1.out.up hb)
  replace Hc2 := Lib.hid (Hc2.out.up hb)
  replace Hc3 := Lib.hid (Hc3.out.up hb)
  replace K1 := Lib.hid (K1.out.up hb)
  replace K2 := Lib.hid (K2.out.up hb)
  clear hb
  go_wp2_with fail
  have hs := send_any _ S4 (fun _ => False) x (Xl []) (rcpt 0 3 1) (rcptM 0 3 1) 0 3 INV.out.1 (rcpt_in _ _ _ _ _) (fun _ h => h.elim) rfl rfl
  rw [show ((Xl [])).sendOk 0 3 = false from by simp [Nx.sendOk, Xl, isLink]] at hs
  refine hs.mono ?_
  rintro e w17 ⟨S5, X', rfl, hnet, hfr, hno, hyes⟩
  obtain ⟨rfl, rfl⟩ := hno rfl
  replace INV := Lib.hid (INV.out.fr hnet hfr)
  replace Hc1 := Lib.hid (Hc1.out.fr hfr)
  replace Hc2 := Lib.hid (Hc2.out.fr hfr)
  replace Hc3 := Lib.hid (Hc3.out.fr hfr)
  replace K1 := Lib.hid (K1.out.fr hfr)
  replace K2 := Lib.hid (K2.out.fr hfr)
  clear hnet hfr hno hyes hs
  go_wp2_with fail
  have hs := cut_ok INV.out.1 0 1 true
  unfold CutOkPost at hs
  rw [show isLink (Xl []).n 0 1 = true from by simp [Xl, isLink]] at hs
  refine hs.mono ?_
  rintro e w18 ⟨rfl, hnet, hfr⟩
  replace INV := Lib.hid (INV.out.fr hnet hfr)
  replace Hc1 := Lib.hid (Hc1.out.fr hfr)
  replace Hc2 := Lib.hid (Hc2.out.fr hfr)
  replace Hc3 := Lib.hid (Hc3.out.fr hfr)
  replace K1 := Lib.hid (K1.out.fr hfr)
  replace K2 := Lib.hid (K2.out.fr hfr)
  clear hs hnet hfr
  go_wp2_with fail
  refine (receipt_any _ 0 1 1).mono ?_
  rintro e w19 ⟨rfl, hb⟩
  replace INV := Lib.hid (INV.out.up hb)
  replace Hc1 := Lib.hid (Hc1.out.up hb)
  replace Hc2 := Lib.hid (Hc2.out.up hb)
  replace Hc3 := Lib.hid (Hc3.out.up hb)
  replace K1 := Lib.hid (K1.out.up hb)
  replace K2 := Lib.hid (K2.out.up hb)
  clear hb
  go_wp2_with fail
  have hs := send_any _ S5 (fun _ => False) x ((Xl []).cut 0 1 true) (rcpt 0 1 1) (rcptM 0 1 1) 0 1 INV.out.1 (rcpt_in _ _ _ _ _) (fun _ h => h.elim) rfl rfl
  rw [show (((Xl []).cut 0 1 true)).sendOk 0 1 = false from by simp [Nx.sendOk, Nx.cut, Xl, isLink]] at hs
  refine hs.mono ?_
  rintro e w20 ⟨S6, X', rfl, hnet, hfr, hno, hyes⟩
  obtain ⟨rfl, rfl⟩ := hno rfl
  replace INV := Lib.hid (INV.out.fr hnet hfr)
  replace Hc1 := Lib.hid (Hc1.out.fr hfr)
  replace Hc2 := Lib.hid (Hc2.out.fr hfr)
  replace Hc3 := Lib.hid (Hc3.out.fr hfr)
  replace K1 := Lib.hid (K1.out.fr hfr)
  replace K2 := Lib.hid (K2.out.fr hfr)
  clear hnet hfr hno hyes hs
  go_wp2_with fail
  refine (receipt_any _ 1 0 1).mono ?_
  rintro e w21 ⟨rfl, hb⟩
  replace INV := Lib.hid (INV.out.up hb)
  replace Hc1 := Lib.hid (Hc1.out.up hb)
  replace Hc2 := Lib.hid (Hc2.out.up hb)
  replace Hc3 := Lib.hid (Hc3.out.up hb)
  replace K1 := Lib.hid (K1.out.up hb)
  replace K2 := Lib.hid (K2.out.up hb)
  clear hb
  go_wp2_with fail
  have hs := send_any _ S6 (fun _ => False) x ((Xl []).cut 0 1 true) (rcpt 1 0 1) (rcptM 1 0 1) 1 0 INV.out.1 (rcpt_in _ _ _ _ _) (fun _ h => h.elim) rfl rfl
  rw [show (((Xl []).cut 0 1 true)).sendOk 1 0 = true from by simp [Nx.sendOk, Nx.cut, Xl, isLink]] at hs
  refine hs.mono ?_
  rintro e w22 ⟨S7, X', rfl, hnet, hfr, hno, hyes⟩
  obtain ⟨cz, rfl, hm⟩ := hyes rfl
  replace INV := Lib.hid (INV.out.fr hnet hfr)
  replace Hc1 := Lib.hid (Hc1.out.fr hfr)
  replace Hc2 := Lib.hid (Hc2.out.fr hfr)
  replace Hc3 := Lib.hid (Hc3.out.fr hfr)
  replace K1 := Lib.hid (K1.out.fr hfr)
  replace K2 := Lib.hid (K2.out.fr hfr)
  clear hnet hfr hno hyes hm hs
  have k1 := K1.out.1
  have k2 := K2.out.1
  go_wp2_with fail
  have hs := off_ok INV.out.1 0 1
  rw [show (((Xl []).cut 0 1 true).push 1 0 cz).cutOf 0 1 = true from by simp [Nx.cutOf, Nx.cut, Xl, isLink]] at hs
  refine hs.mono ?_
  rintro e wy ⟨rfl, rfl⟩
  clear hs
  go_wp2_with fail
  have hs := off_ok INV.out.1 1 0
  rw [show (((Xl []).cut 0 1 true).push 1 0 cz).cutOf 1 0 = false from by simp [Nx.cutOf, Nx.cut, Xl, isLink]] at hs
  refine hs.mono ?_
  rintro e wz ⟨rfl, rfl⟩
  clear hs
  go_wp2
  go_ret
  exact ⟨rfl, INV.out.2.2⟩
end Go.Proofs.Ytdkpgjhjdnfieaa
