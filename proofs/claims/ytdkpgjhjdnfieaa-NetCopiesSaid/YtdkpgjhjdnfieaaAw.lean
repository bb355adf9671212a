/- NetCopies as a run: it returns true. Condition: its argument reads as a message whose cells are of their kinds. -/
import Derived.Test.YtdkpgjhjdnfieaaAv
import Derived.Test.YtdkpgjhjdnfieaaAr
import Derived.Test.YtdkpgjhjdnfieaaAt
import Derived.Deep.CutBlock
import Derived.Deep.QuietTactic
import Derived.BigQuiet
set_option linter.unusedVariables false
set_option linter.unusedSimpArgs false
namespace Go.Proofs.Ytdkpgjhjdnfieaa
open Go.RowKit Go.Mf
set_option maxRecDepth 100000

def LawPost (w : World) : Ending → World → Prop := fun e w' => e = .returned (.bool true) ∧ Below w.heap.size w w'

set_option maxHeartbeats 4000000 in
theorem copies_raw (w : World) (S0 : Nat → Prop) (cs : List Value) (M : MsgD) (hM : MsgIn w S0 cs M) (hS0 : ∀ k, S0 k → k < w.heap.size) (ht : MsgTy M) : Calls Try.prog 6 #[.agg cs.toArray] w (LawPost w) := by
  obtain ⟨M', hM', ht'⟩ := ends_put hM ht
  obtain ⟨hl0, ho0, _, v1, v2, h10, h33, ⟨a1, c1, _, rfl, _⟩, ⟨a2, c2, rfl, _⟩⟩ := id hM
  obtain ⟨U, hU⟩ : ∃ U, U = w.alloc (.cells cs.toArray 42) := ⟨_, rfl⟩
  have hb0 : U.heap[w.heap.size]? = some (.cells cs.toArray 42 (0, 0)) := by rw [hU]; exact heap_alloc_new w _
  have hbw : Below w.heap.size w U := by rw [hU]; exact (Below.refl _ w).alloc (Nat.le_refl _) _
  have hsz : U.heap.size = w.heap.size + 1 := by rw [hU]; simp
  obtain ⟨n, hn⟩ : ∃ n, M.ents.length = n := ⟨_, rfl⟩
  obtain ⟨m, hm⟩ : ∃ m, M.nl = m := ⟨_, rfl⟩
  rw [hn] at h10
  rw [hm] at h33
  have HU : Hid (U = w.alloc (.cells cs.toArray 42)) := hU
  have HB0 := Lib.hid hb0
  have HBW := Lib.hid hbw
  have HSZ := Lib.hid hsz
  have HM := Lib.hid hM'
  have HS0 := Lib.hid hS0
  have HT := Lib.hid ht'
  have H10 := Lib.hid h10
  have H33 := Lib.hid h33
  have HL0 := Lib.hid hl0
  have HO0 := Lib.hid ho0
  clear hM ht hU hb0 hbw hsz hM' hS0 ht' h10 h33 hn hm hl0 ho0
  go_enter Try.func6, Try.ntmps6
  go_upto_region 1 with fail
  change Code.wp _ _ _ _ (w.alloc (.cells cs.toArray 42))
  rw [← HU.out]
  go_wp2_with fail
  refine (small_any _).mono ?_
  rintro e w1 ⟨rfl, hb1⟩
  go_wp2_with fail
  refine (new_any _ 20).mono ?_
  rintro e w2 ⟨x, rfl, hnet, hb2⟩
  rw [show many 20 = 20 from rfl] at hnet
  have hlt : w.heap.size < U.heap.size := by have := HSZ.out; omega
  have hs1 := hb1.size
  have g2 : w2.heap[w.heap.size]? = some (.cells cs.toArray 42 (0, 0)) := by rw [hb2.block _ (by omega), hb1.block _ hlt]; exact HB0.out
  obtain ⟨S, hS⟩ : ∃ S : Nat → Prop, S = fun k => w1.heap.size ≤ k ∧ k < w2.heap.size := ⟨_, rfl⟩
  have hinv : Inv w S x (XF 20 3 2 [] []) w2 := by
    rw [← XF_zero, hS]
    exact ⟨⟨fun k hk => hk.2, hnet⟩, fun k hk => by have := hk.1; omega, (HBW.out.trans (hb1.mono (by omega))).trans (hb2.mono (by omega))⟩
  have hNB : ¬ S w.heap.size := by rw [hS]; intro h; have := h.1; omega
  have d10 : w2.cell? ⟨w.heap.size, 10, none⟩ = some (.slice a1 n c1) := cell_at g2 H10.out
  have d33 : w2.cell? ⟨w.heap.size, 33, none⟩ = some (.slice a2 m c2) := cell_at g2 H33.out
  have INV := Lib.hid hinv
  have G2 := Lib.hid g2
  have NB := Lib.hid hNB
  clear hnet hinv hb1 hb2 hs1 g2 hS hNB
  by_cases h3 : 3 < n
  · have h3' : decide ((3 : Int) < (n : Int)) = true := by simp; omega
    have HFIN := Lib.hid INV.out.2.2
    go_wp2
    go_ret
    exact ⟨rfl, HFIN.out⟩
  · have h3' : decide ((3 : Int) < (n : Int)) = false := by simp; omega
    by_cases h4 : 10 < m
    · have h4' : decide ((10 : Int) < (m : Int)) = true := by simp; omega
      have HFIN := Lib.hid INV.out.2.2
      go_wp2
      go_ret
      exact ⟨rfl, HFIN.out⟩
    · have h4' : decide ((10 : Int) < (m : Int)) = false := by simp; omega
      obtain ⟨cs', hcs'⟩ : ∃ l, l = (cs.set 1 (.int .i64 3)).set 2 (.int .i64 2) := ⟨_, rfl⟩
      rw [← hcs'] at HM
      obtain ⟨w3, hw3⟩ : ∃ v, v = (w2.setCell ⟨w.heap.size, 1, none⟩ (.int .i64 3)).setCell ⟨w.heap.size, 2, none⟩ (.int .i64 2) := ⟨_, rfl⟩
      have hl0 := HL0.out
      have d1 : w2.cell? ⟨w.heap.size, 1, none⟩ = some (cs[1]'(by omega)) := cell_at G2.out (List.getElem?_eq_getElem _)
      have d2 : w2.cell? ⟨w.heap.size, 2, none⟩ = some (cs[2]'(by omega)) := cell_at G2.out (List.getElem?_eq_getElem _)
      have f1 : w2.frozen? ⟨w.heap.size, 1, none⟩ = false := frozen_of_block G2.out _
      have f2 : w2.frozen? ⟨w.heap.size, 2, none⟩ = false := frozen_of_block G2.out _
      obtain ⟨u1, hu1⟩ : ∃ u, u = cs[1]'(by omega) := ⟨_, rfl⟩
      obtain ⟨u2, hu2⟩ : ∃ u, u = cs[2]'(by omega) := ⟨_, rfl⟩
      rw [← hu1] at d1
      rw [← hu2] at d2
      have hk3 : ∀ k, k ≠ w.heap.size → w3.heap[k]? = w2.heap[k]? := fun k hk => by rw [hw3, Below.heap_setCell _ _ _ _ hk, Below.heap_setCell _ _ _ _ hk]
      have hs3 : w3.heap.size = w2.heap.size := by rw [hw3]; simp
      have hinv3 : Inv w S x (XF 20 3 2 [] []) w3 := ⟨INV.out.1.keep (by omega) (fun k hk _ => hk3 k (fun e => NB.out (by rw [← e]; exact hk))), INV.out.2.1, by rw [hw3]; exact (INV.out.2.2.setCell (Nat.le_refl _) _).setCell (Nat.le_refl _) _⟩
      have hbx3 : Bx S w.heap.size cs' w3 := ⟨NB.out, by
        rw [hw3, hcs']; have := setCell_block (setCell_block G2.out 1 (.int .i64 3)) 2 (.int .i64 2); simpa using this⟩
      have hl' : cs'.toArray.size = 34 := by rw [hcs']; simpa using hl0
      have E1 : Hid (cs'[1]? = some (.int .i64 3)) := by rw [hcs', List.getElem?_set_ne (by omega), List.getElem?_set_self (by omega)]; rfl
      have E2 : Hid (cs'[2]? = some (.int .i64 2)) := by rw [hcs', List.getElem?_set_self (by simp; omega)]; rfl
      have INV3 := Lib.hid hinv3
      have BX := Lib.hid hbx3
      have HLS : Hid (cs'.toArray.size = 34) := hl'
      have HW3 : Hid (w3 = (w2.setCell ⟨w.heap.size, 1, none⟩ (.int .i64 3)).setCell ⟨w.heap.size, 2, none⟩ (.int .i64 2)) := hw3
      have HOWN := Lib.hid (own_any w3 S0 cs' M' (HM.out.keep (fun _ h _ => h) (fun k _ hk => hinv3.2.2.block k hk)) (fun k hk => by have := HS0.out k hk; have := hinv3.2.2.size; omega))
      obtain ⟨fs42, hu42⟩ := und42
      clear hcs' hw3 hl0 hu1 hu2 hk3 hs3 hinv3 hbx3 hl' INV G2 NB h3 h4
      go_upto_region 7 with fail
      change Code.wp _ _ _ _ ((w2.setCell ⟨w.heap.size, 1, none⟩ (.int .i64 3)).setCell ⟨w.heap.size, 2, none⟩ (.int .i64 2))
      rw [← HW3.out]
      clear HW3 d10 d33 d1 d2 f1 f2
      go_wp2_with (refine wpList_load_row rfl 42 _ rfl w.heap.size rfl 42 cs'.toArray (0, 0) _ BX.out.2 hu42 rfl ?i1 ?_; (case i1 => rw [HLS.out]; exact size42))
      refine HOWN.out.mono ?_
      rintro e w4 ⟨mc, rfl, hmc, hb4⟩
      have hml := hmc.1
      obtain ⟨p1, p2, p3⟩ := box_put (a := w4) hml
      obtain ⟨w5, hw5⟩ : ∃ v, v = (w4.alloc (.cells zMsg.toArray 42)).setCells w4.heap.size 0 mc := ⟨_, rfl⟩
      rw [← hw5] at p2 p3
      have hbe := INV3.out.up hb4
      have INV5 := Lib.hid (hbe.up p2)
      have BX5 := Lib.hid ((BX.out.up hb4).up p2)
      have hSb : ∀ k, w3.heap.size ≤ k → ¬ S k := fun k hk hs => by have := INV3.out.1.1 k hs; omega
      have hs4 := hb4.size
      have BM : Hid (Bx S w4.heap.size mc w5) := ⟨hSb _ hs4, p3⟩
      have HMW : Hid (Hw S w3.heap.size w4.heap.size mc M' w5) := Hw.up ⟨hmc.keep (fun k hk _ => ⟨hk.1, hk.2, hSb k hk.1⟩) (fun _ _ _ => rfl), Nat.le_refl _⟩ p2
      have hm1 : mc[1]? = some (.int .i64 3) := by rw [sc_get hmc.to (by decide) (by decide), ← sc_get HM.out (by decide) (by decide)]; exact E1.out
      have hm2 : mc[2]? = some (.int .i64 2) := by rw [sc_get hmc.to (by decide) (by decide), ← sc_get HM.out (by decide) (by decide)]; exact E2.out
      have M1 := Lib.hid hm1
      have M2 := Lib.hid hm2
      have HTH := Lib.hid p1
      have HMS : Hid (mc.toArray.size = 34) := by show mc.toArray.size = 34; simpa using hml
      have HM1 := Lib.hid hmc.2.1
      have HW5 : Hid (w5 = (w4.alloc (.cells zMsg.toArray 42)).setCells w4.heap.size 0 mc) := hw5
      have hs5 := p2.size
      have HB45 := Lib.hid p2
      have hws : w.heap.size < w3.heap.size := BX.out.lt
      clear hmc hml p1 p2 p3 hw5 hbe hb4 hSb HOWN hm1 hm2
      go_upto_region 8 with (refine wpList_store_mid rfl 42 _ _ rfl w4.heap.size 0 mc.toArray rfl rfl ?i2 ?i3 ?i4 ?_; (case i2 => rw [HMS.out]; exact HTH.out); (case i3 => rw [HMS.out]; exact size42); (case i4 => exact all_oneCell_toArray HM1.out))
      change Code.wp _ _ _ _ ((w4.alloc (.cells zMsg.toArray 42)).setCells w4.heap.size 0 mc)
      rw [← HW5.out]
      clear HW5 HTH
      have HLK : Hid (isLink 20 ((3 : Nat) : Int) ((2 : Nat) : Int) = true) := by rfl
      have hsend := send_any w5 S _ x (XF 20 3 2 [] []) mc M' ((3 : Nat) : Int) ((2 : Nat) : Int) INV5.out.1 HMW.out.1.to HMW.out.lt M1.out M2.out
      rw [YF_send HLK.out [] (by decide)] at hsend
      have HSEND := Lib.hid hsend
      clear hsend
      go_wp2_with (refine wpList_load_row rfl 42 _ rfl w4.heap.size rfl 42 mc.toArray (0, 0) _ BM.out.2 hu42 rfl ?i1 ?_; (case i1 => rw [HMS.out]; exact size42))
      refine HSEND.out.mono ?_
      rintro e w6 ⟨S1, X', rfl, hnet, hfr, hno, hyes⟩
      obtain ⟨m1, rfl, hw1⟩ := hyes rfl
      rw [YF_push, List.nil_append] at hnet
      have INV6 := Lib.hid (INV5.out.fr hnet hfr)
      have BX6 := Lib.hid (BX5.out.fr hfr)
      have BM6 := Lib.hid (BM.out.fr hfr)
      have HMW6 := Lib.hid (HMW.out.fr hfr)
      have H16 := Lib.hid (Hw.new hw1)
      have hs6 := hfr.size
      clear hnet hfr hno hyes hw1 INV5 BX5 BM HMW HSEND INV3 BX M1 M2 E1 E2
      have htw := twice_any w6 S1 _ x (XF 20 3 2 [m1] []) M' ((3 : Nat) : Int) ((2 : Nat) : Int) ((0 : Nat) : Int) INV6.out.1 (fun _ => ⟨m1, by simp only [Int.toNat_natCast]; rw [XF_q]; rfl, H16.out.1.to⟩) H16.out.lt
      rw [YF_twice HLK.out [m1] 0 (by simp) (by simp)] at htw
      have HTW := Lib.hid htw
      clear htw
      go_wp2_with fail
      refine HTW.out.mono ?_
      rintro e w7 ⟨S2, X', rfl, hnet, hfr, hno, hyes⟩
      obtain ⟨m2, rfl, hw2⟩ := hyes rfl
      rw [YF_push, List.singleton_append] at hnet
      have INV7 := Lib.hid (INV6.out.fr hnet hfr)
      have BX7 := Lib.hid (BX6.out.fr hfr)
      have BM7 := Lib.hid (BM6.out.fr hfr)
      have HMW7 := Lib.hid (HMW6.out.fr hfr)
      have H17 := Lib.hid (H16.out.fr hfr)
      have H27 := Lib.hid (Hw.new hw2)
      have hs7 := hfr.size
      clear hnet hfr hno hyes hw2 INV6 BX6 BM6 HMW6 H16 HTW
      have HSP := Lib.hid (spoil_any w7 _ mc M' HMW7.out.1 HMW7.out.lt)
      go_wp2_with (refine wpList_load_row rfl 42 _ rfl w4.heap.size rfl 42 mc.toArray (0, 0) _ BM7.out.2 hu42 rfl ?i1 ?_; (case i1 => rw [HMS.out]; exact size42))
      refine HSP.out.mono ?_
      rintro e w8 ⟨rfl, hfr⟩
      have INV8 := Lib.hid (INV7.out.sp hfr (fun k hk => hk) (by omega))
      have BX8 := Lib.hid (BX7.out.sp hfr (fun k hk => hk) (.inl hws))
      have H18 := Lib.hid (H17.out.sp hfr (fun k hk => hk) (.inr (by omega)))
      have H28 := Lib.hid (H27.out.sp hfr (fun k hk => hk) (.inr (by omega)))
      have hs8 := hfr.size
      clear hfr INV7 BX7 BM7 HMW7 H17 H27 HSP
      have hta := take_any w8 S2 x (XF 20 3 2 [m1, m2] []) ((3 : Nat) : Int) ((2 : Nat) : Int) ((0 : Nat) : Int) INV8.out.1
      rw [YF_has HLK.out [m1, m2] 0 (by simp)] at hta
      have HTA := Lib.hid hta
      clear hta
      go_wp2_with fail
      refine HTA.out.mono ?_
      rintro e w9 ⟨X', t1, rfl, hnet, hfr, htl, ht1, hno, hyes⟩
      obtain ⟨rfl, hq⟩ := hyes rfl
      simp only [Int.toNat_natCast] at hq
      rw [XF_q] at hq
      obtain rfl : m1 = t1 := by simpa using hq
      rw [YF_pop] at hnet
      have hnet' : NetOk w9 S2 x (XF 20 3 2 [m2] []) := hnet
      have hiv := INV8.out.fr hnet' hfr
      obtain ⟨p1, p2, p3⟩ := box_put (a := w9) htl
      obtain ⟨w10, hw10⟩ : ∃ v, v = (w9.alloc (.cells zMsg.toArray 42)).setCells w9.heap.size 0 m1 := ⟨_, rfl⟩
      rw [← hw10] at p2 p3
      have INV10 := Lib.hid (hiv.up p2)
      have BX10 := Lib.hid ((BX8.out.fr hfr).up p2)
      have B610 : Hid (Bx S2 w9.heap.size m1 w10) := ⟨fun hs => by have := hiv.1.1 _ hs; omega, p3⟩
      have H110 := Lib.hid ((H18.out.fr hfr).up p2)
      have H210 := Lib.hid ((H28.out.fr hfr).up p2)
      have HTH := Lib.hid p1
      have HTS : Hid (m1.toArray.size = 34) := by show m1.toArray.size = 34; simpa using htl
      have HT1 := Lib.hid ht1
      have HW10 : Hid (w10 = (w9.alloc (.cells zMsg.toArray 42)).setCells w9.heap.size 0 m1) := hw10
      have hs9 := hfr.size
      have hs10 := p2.size
      clear hnet hnet' hfr htl ht1 hno hyes hq hiv p1 p2 p3 hw10 INV8 BX8 H18 H28 HTA
      go_upto_region 12 with (refine wpList_store_mid rfl 42 _ _ rfl w9.heap.size 0 m1.toArray rfl rfl ?i2 ?i3 ?i4 ?_; (case i2 => rw [HTS.out]; exact HTH.out); (case i3 => rw [HTS.out]; exact size42); (case i4 => exact all_oneCell_toArray HT1.out))
      change Code.wp _ _ _ _ ((w9.alloc (.cells zMsg.toArray 42)).setCells w9.heap.size 0 m1)
      rw [← HW10.out]
      clear HW10 HTH
      have HSA := Lib.hid (same_any w10 _ S0 m1 cs' M' H110.out.1.to (HM.out.keep (fun _ h _ => h) (fun k _ hk => INV10.out.2.2.block k hk)) H110.out.lt (fun k hk => by have := HS0.out k hk; have := INV10.out.2.2.size; omega) HT.out)
      go_wp2_with (first
        | (refine wpList_load_guarded (by rfl) 42 _ rfl w9.heap.size rfl 42 m1.toArray (0, 0) _ B610.out.2 hu42 ?i1 ?_; (case i1 => rw [HTS.out]; exact size42))
        | (refine wpList_load_guarded (by rfl) 42 _ rfl w.heap.size rfl 42 cs'.toArray (0, 0) _ BX10.out.2 hu42 ?i1 ?_; (case i1 => rw [HLS.out]; exact size42)))
      refine HSA.out.mono ?_
      rintro e w11 ⟨rfl, hb11⟩
      have INV11 := Lib.hid (INV10.out.up hb11)
      have BX11 := Lib.hid (BX10.out.up hb11)
      have B611 := Lib.hid (B610.out.up hb11)
      have H111 := Lib.hid (H110.out.up hb11)
      have H211 := Lib.hid (H210.out.up hb11)
      have hs11 := hb11.size
      clear hb11 INV10 BX10 B610 H110 H210 HSA
      have HSP := Lib.hid (spoil_any w11 _ m1 M' H111.out.1 H111.out.lt)
      go_wp2_with (refine wpList_load_row rfl 42 _ rfl w9.heap.size rfl 42 m1.toArray (0, 0) _ B611.out.2 hu42 rfl ?i1 ?_; (case i1 => rw [HTS.out]; exact size42))
      refine HSP.out.mono ?_
      rintro e w12 ⟨rfl, hfr⟩
      have INV12 := Lib.hid (INV11.out.sp hfr (fun k hk => hk) (by omega))
      have BX12 := Lib.hid (BX11.out.sp hfr (fun k hk => hk) (.inl (by omega)))
      have H212 := Lib.hid (H211.out.sp hfr (fun k hk => hk) (.inr (by omega)))
      have hs12 := hfr.size
      clear hfr INV11 BX11 B611 H111 H211 HSP
      have hta := take_any w12 S2 x (XF 20 3 2 [m2] []) ((3 : Nat) : Int) ((2 : Nat) : Int) ((0 : Nat) : Int) INV12.out.1
      rw [YF_has HLK.out [m2] 0 (by simp)] at hta
      have HTA := Lib.hid hta
      clear hta
      go_wp2_with fail
      refine HTA.out.mono ?_
      rintro e w13 ⟨X', t2, rfl, hnet, hfr, htl, ht2, hno, hyes⟩
      obtain ⟨rfl, hq⟩ := hyes rfl
      simp only [Int.toNat_natCast] at hq
      rw [XF_q] at hq
      obtain rfl : m2 = t2 := by simpa using hq
      rw [YF_pop] at hnet
      have hnet' : NetOk w13 S2 x (XF 20 3 2 [] []) := hnet
      have hiv := INV12.out.fr hnet' hfr
      obtain ⟨p1, p2, p3⟩ := box_put (a := w13) htl
      obtain ⟨w14, hw14⟩ : ∃ v, v = (w13.alloc (.cells zMsg.toArray 42)).setCells w13.heap.size 0 m2 := ⟨_, rfl⟩
      rw [← hw14] at p2 p3
      have INV14 := Lib.hid (hiv.up p2)
      have BX14 := Lib.hid ((BX12.out.fr hfr).up p2)
      have B814 : Hid (Bx S2 w13.heap.size m2 w14) := ⟨fun hs => by have := hiv.1.1 _ hs; omega, p3⟩
      have H214 := Lib.hid ((H212.out.fr hfr).up p2)
      have HTH := Lib.hid p1
      have HTS2 : Hid (m2.toArray.size = 34) := by show m2.toArray.size = 34; simpa using htl
      have HT2 := Lib.hid ht2
      have HW14 : Hid (w14 = (w13.alloc (.cells zMsg.toArray 42)).setCells w13.heap.size 0 m2) := hw14
      have hs13 := hfr.size
      have hs14 := p2.size
      clear hnet hnet' hfr htl ht2 hno hyes hq hiv p1 p2 p3 hw14 INV12 BX12 H212 HTA
      go_upto_region 16 with (refine wpList_store_mid rfl 42 _ _ rfl w13.heap.size 0 m2.toArray rfl rfl ?i2 ?i3 ?i4 ?_; (case i2 => rw [HTS2.out]; exact HTH.out); (case i3 => rw [HTS2.out]; exact size42); (case i4 => exact all_oneCell_toArray HT2.out))
      change Code.wp _ _ _ _ ((w13.alloc (.cells zMsg.toArray 42)).setCells w13.heap.size 0 m2)
      rw [← HW14.out]
      clear HW14 HTH
      have hta := take_any w14 S2 x (XF 20 3 2 [] []) ((3 : Nat) : Int) ((2 : Nat) : Int) ((0 : Nat) : Int) INV14.out.1
      rw [YF_hasnot [] 0 (by simp)] at hta
      have HTA := Lib.hid hta
      clear hta
      go_wp2_with fail
      refine HTA.out.mono ?_
      rintro e w15 ⟨X', t3, rfl, hnet, hfr, htl, ht3, hno, hyes⟩
      obtain ⟨rfl, rfl⟩ := hno rfl
      have hiv := INV14.out.fr hnet hfr
      obtain ⟨p1, p2, p3⟩ := box_put (a := w15) htl
      obtain ⟨w16, hw16⟩ : ∃ v, v = (w15.alloc (.cells zMsg.toArray 42)).setCells w15.heap.size 0 zMsg := ⟨_, rfl⟩
      rw [← hw16] at p2 p3
      have INV16 := Lib.hid (hiv.up p2)
      have BX16 := Lib.hid ((BX14.out.fr hfr).up p2)
      have B816 := Lib.hid ((B814.out.fr hfr).up p2)
      have H216 := Lib.hid ((H214.out.fr hfr).up p2)
      have HTH := Lib.hid p1
      have HW16 : Hid (w16 = (w15.alloc (.cells zMsg.toArray 42)).setCells w15.heap.size 0 zMsg) := hw16
      clear hnet hfr htl ht3 hno hyes hiv p1 p2 p3 hw16 INV14 BX14 B814 H214 HTA
      have HSA := Lib.hid (same_any w16 _ S0 m2 cs' M' H216.out.1.to (HM.out.keep (fun _ h _ => h) (fun k _ hk => INV16.out.2.2.block k hk)) H216.out.lt (fun k hk => by have := HS0.out k hk; have := INV16.out.2.2.size; omega) HT.out)
      go_upto_region 17 with (refine wpList_store_mid rfl 42 _ _ rfl w15.heap.size 0 zMsg.toArray rfl rfl ?i2 ?i3 ?i4 ?_; (case i2 => rw [zMsg_size]; exact HTH.out); (case i3 => rw [zMsg_size]; exact size42); (case i4 => exact zMsg_all))
      change Code.wp _ _ _ _ ((w15.alloc (.cells zMsg.toArray 42)).setCells w15.heap.size 0 zMsg)
      rw [← HW16.out]
      clear HW16 HTH
      go_wp2_with (first
        | (refine wpList_load_guarded (by rfl) 42 _ rfl w13.heap.size rfl 42 m2.toArray (0, 0) _ B816.out.2 hu42 ?i1 ?_; (case i1 => rw [HTS2.out]; exact size42))
        | (refine wpList_load_guarded (by rfl) 42 _ rfl w.heap.size rfl 42 cs'.toArray (0, 0) _ BX16.out.2 hu42 ?i1 ?_; (case i1 => rw [HLS.out]; exact size42)))
      refine HSA.out.mono ?_
      rintro e w17 ⟨rfl, hb17⟩
      have HFIN := Lib.hid (INV16.out.up hb17).2.2
      clear hb17 HSA
      go_wp2
      go_ret
      exact ⟨rfl, HFIN.out⟩
end Go.Proofs.Ytdkpgjhjdnfieaa
