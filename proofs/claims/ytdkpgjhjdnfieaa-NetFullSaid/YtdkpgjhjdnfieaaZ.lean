/- The walk of NetFull: it returns true and writes nothing that was there. No condition. -/
import Derived.Test.YtdkpgjhjdnfieaaY
set_option linter.unusedVariables false
set_option linter.unusedSimpArgs false
namespace Go.Proofs.Ytdkpgjhjdnfieaa
open Go.RowKit Go.Mf
set_option maxRecDepth 100000

theorem zero_total (n : Nat) : (⟨n, fun _ _ => [], fun _ _ => false⟩ : Nx).total = 0 := by
  unfold Nx.total
  have : sumTo (fun a => sumTo (fun b => ((⟨n, fun _ _ => [], fun _ _ => false⟩ : Nx).q a b).length) n) n = sumTo (fun _ => 0) n := sumTo_congr _ (fun a _ => by rw [← sumTo_zero n]; exact sumTo_congr _ (fun b _ => rfl))
  exact this.trans (sumTo_zero n)
theorem XF_send {n i j : Nat} (hl : isLink n (i : Int) (j : Int) = true) (hne : i ≠ j) (l r : List (List Value)) (h : l.length < 1024) : (XF n i j l r).sendOk i j = true := by
  unfold Nx.sendOk
  rw [show isLink (XF n i j l r).n (i : Int) (j : Int) = true from hl]
  simp only [Int.toNat_natCast, XF_q]
  unfold XF
  simp [h]
theorem XF_nosend {n i j : Nat} (l r : List (List Value)) (h : 1024 ≤ l.length) : (XF n i j l r).sendOk i j = false := by
  unfold Nx.sendOk
  simp only [Int.toNat_natCast, XF_q]
  have : decide (l.length < 1024) = false := by simp; omega
  rw [this, Bool.and_false]
theorem XF_push (n i j : Nat) (l r : List (List Value)) (c : List Value) : (XF n i j l r).push (i : Int) (j : Int) c = XF n i j (l ++ [c]) r := by
  unfold Nx.push
  simp only [Int.toNat_natCast, XF_q, XF_set]
theorem XF_sendb {n i j : Nat} (hi : i < n) (hj : j < n) (hne : i ≠ j) (l r : List (List Value)) (h : r.length < 1024) : (XF n i j l r).sendOk j i = true := by
  unfold Nx.sendOk
  rw [show isLink (XF n i j l r).n (j : Int) (i : Int) = true from isLink_of hj hi (Ne.symm hne)]
  simp only [Int.toNat_natCast, XF_qb hne]
  unfold XF
  simp [h]
theorem XF_pushb {n i j : Nat} (hne : i ≠ j) (l r : List (List Value)) (c : List Value) : (XF n i j l r).push (j : Int) (i : Int) c = XF n i j l (r ++ [c]) := by
  unfold Nx.push
  simp only [Int.toNat_natCast, XF_qb hne, XF_back hne]
theorem XF_has {n i j : Nat} (hl : isLink n (i : Int) (j : Int) = true) (l r : List (List Value)) (k : Nat) (h : k < l.length) : (XF n i j l r).hasAt i j (k : Int) = true := by
  unfold Nx.hasAt
  rw [show isLink (XF n i j l r).n (i : Int) (j : Int) = true from hl]
  simp only [Int.toNat_natCast, XF_q]
  simp; omega
theorem XF_hasnot {n i j : Nat} (l r : List (List Value)) (k : Nat) (h : l.length ≤ k) : (XF n i j l r).hasAt i j (k : Int) = false := by
  unfold Nx.hasAt
  simp only [Int.toNat_natCast, XF_q]
  have : decide ((k : Int) < l.length) = false := by simp; omega
  rw [this, Bool.and_false, Bool.and_false]
theorem XF_twice {n i j : Nat} (hl : isLink n (i : Int) (j : Int) = true) (hne : i ≠ j) (l r : List (List Value)) (k : Nat) (h : k < l.length) (h2 : l.length < 1024) : (XF n i j l r).twiceOk i j (k : Int) = true := by
  unfold Nx.twiceOk
  rw [XF_has hl l r k h]
  simp only [Int.toNat_natCast, XF_q]
  simpa using h2
theorem XF_notwice {n i j : Nat} (l r : List (List Value)) (k : Int) (h : 1024 ≤ l.length) : (XF n i j l r).twiceOk i j k = false := by
  unfold Nx.twiceOk
  simp only [Int.toNat_natCast, XF_q]
  have : decide (l.length < 1024) = false := by simp; omega
  rw [this, Bool.and_false]
theorem XF_pop (n i j : Nat) (l r : List (List Value)) (k : Nat) : (XF n i j l r).pop (i : Int) (j : Int) (k : Int) = XF n i j (l.eraseIdx k) r := by
  unfold Nx.pop
  simp only [Int.toNat_natCast, XF_q, XF_set]
def LawPost (w : World) : Ending → World → Prop := fun e w' => e = .returned (.bool true) ∧ Below w.heap.size w w'

set_option maxHeartbeats 2000000 in
theorem full_raw (w : World) (n0 a b : Int) : Calls Try.prog 7 #[.int .i64 n0, .int .i64 a, .int .i64 b] w (LawPost w) := by
  go_enter Try.func7, Try.ntmps7
  go_wp2_with fail
  refine (small_any _).mono ?_
  rintro e w1 ⟨rfl, hb1⟩
  go_wp2_with fail
  refine (new_any _ n0).mono ?_
  rintro e w2 ⟨x, rfl, hnet, hb2⟩
  obtain ⟨n, hn⟩ : ∃ n, many n0 = n := ⟨_, rfl⟩
  have hn20 := many_le n0
  have HMIN : Hid (min (max n0 0) 20 = (n : Int)) := by show min (max n0 0) 20 = (n : Int); rw [← hn]; unfold many; omega
  rw [hn] at hnet hn20
  obtain ⟨S0, hS0⟩ : ∃ S0 : Nat → Prop, S0 = fun k => w1.heap.size ≤ k ∧ k < w2.heap.size := ⟨_, rfl⟩
  have hnet' : NetOk w2 S0 x ⟨n, fun _ _ => [], fun _ _ => false⟩ := by rw [hS0]; exact ⟨fun k hk => hk.2, hnet⟩
  have INV : Hid (Inv w S0 x ⟨n, fun _ _ => [], fun _ _ => false⟩ w2) := ⟨hnet', fun k hk => by rw [hS0] at hk; exact Nat.le_trans hb1.size hk.1, hb1.trans (hb2.mono hb1.size)⟩
  clear hnet hnet' hS0 hb1 hb2 hn
  go_upto_region 5 with fail
  go_cut [9] (fun s9 wx => s9 = .int .i64 (n : Int) ∧ wx = w2)
  case first =>
    go_wp2
    all_goals
      go_meet
      exact ⟨ret_int' (by have := HMIN.out; omega), rfl⟩
  case rest =>
    obtain ⟨rfl, rfl⟩ := hcut
    obtain ⟨w2, rfl⟩ : ∃ v : World, v = wc := ⟨_, rfl⟩
    clear HMIN
    go_upto_region 6 with fail
    go_cut [10] (fun s10 wx => s10 = .bool (isLink n a b) ∧ wx = w2)
    case first =>
      by_cases d0 : 0 ≤ a
      · have d0' : decide (0 ≤ a) = true := by simpa using d0
        by_cases d1 : a < n
        · have d1' : decide (a < n) = true := by simpa using d1
          by_cases d2 : 0 ≤ b
          · have d2' : decide (0 ≤ b) = true := by simpa using d2
            by_cases d3 : b < n
            · have d3' : decide (b < n) = true := by simpa using d3
              by_cases d4 : a = b
              · have d4' : (a != b) = false := by simpa using d4
                have hv : isLink n a b = false := by simp only [isLink, d0', d1', d2', d3', d4']; rfl
                have HV := Lib.hid hv
                clear hv d0 d1 d2 d3 d4
                go_wp2
                go_meet
                exact ⟨by rw [HV.out], rfl⟩
              · have d4' : (a != b) = true := by simpa using d4
                have hv : isLink n a b = true := by simp only [isLink, d0', d1', d2', d3', d4']; rfl
                have HV := Lib.hid hv
                clear hv d0 d1 d2 d3 d4
                go_wp2
                go_meet
                exact ⟨by rw [HV.out], rfl⟩
            · have d3' : decide (b < n) = false := by simpa using d3
              have hv : isLink n a b = false := by simp only [isLink, d0', d1', d2', d3']; rfl
              have HV := Lib.hid hv
              clear hv d0 d1 d2 d3
              go_wp2
              go_meet
              exact ⟨by rw [HV.out], rfl⟩
          · have d2' : decide (0 ≤ b) = false := by simpa using d2
            have hv : isLink n a b = false := by simp only [isLink, d0', d1', d2']; rfl
            have HV := Lib.hid hv
            clear hv d0 d1 d2
            go_wp2
            go_meet
            exact ⟨by rw [HV.out], rfl⟩
        · have d1' : decide (a < n) = false := by simpa using d1
          have hv : isLink n a b = false := by simp only [isLink, d0', d1']; rfl
          have HV := Lib.hid hv
          clear hv d0 d1
          go_wp2
          go_meet
          exact ⟨by rw [HV.out], rfl⟩
      · have d0' : decide (0 ≤ a) = false := by simpa using d0
        have hv : isLink n a b = false := by simp only [isLink, d0']; rfl
        have HV := Lib.hid hv
        clear hv d0
        go_wp2
        go_meet
        exact ⟨by rw [HV.out], rfl⟩
    case rest =>
      obtain ⟨rfl, rfl⟩ := hcut
      obtain ⟨w2, rfl⟩ : ∃ v : World, v = wc := ⟨_, rfl⟩
      by_cases hl : isLink n a b = true
      · obtain ⟨i, j, rfl, rfl, hi, hj, hne⟩ := isLink_nat hl
        rw [XF_zero n i j] at INV
        rw [hl]
        have HL := Lib.hid hl
        have HNE := Lib.hid hne
        clear hl hne
        go_wp2_with fail
        have hs := cut_ok INV.out.1 i j false
        unfold CutOkPost at hs
        rw [show isLink (XF n i j [] []).n i j = true from HL.out, XF_cut] at hs
        refine hs.mono ?_
        rintro e w3 ⟨rfl, hnet, hfr⟩
        replace INV := Lib.hid (INV.out.fr hnet hfr)
        clear hs hnet hfr
        go_wp2_with fail
        refine (receipt_any _ i j 0).mono ?_
        rintro e w4 ⟨rfl, hb⟩
        replace INV := Lib.hid (INV.out.up hb)
        clear hb
        go_wp2_with fail
        have hs := send_any _ _ (fun _ => False) x _ (rcpt i j 0) (rcptM i j 0) i j INV.out.1 (rcpt_in _ _ _ _ _) (fun _ h => h.elim) rfl rfl
        rw [XF_send HL.out HNE.out [] [] (by decide)] at hs
        refine hs.mono ?_
        rintro e w5 ⟨S1, X', rfl, hnet, hfr, hno, hyes⟩
        obtain ⟨c1, rfl, hm⟩ := hyes rfl
        rw [XF_push, List.nil_append] at hnet
        replace INV := Lib.hid (INV.out.fr hnet hfr)
        have HC : Hid (∀ c ∈ [c1], Holds w5 S1 c (rcptM i j 0)) := fun c hc => by rw [List.mem_singleton] at hc; subst hc; exact Holds.new hm
        clear hs hnet hfr hno hyes hm
        go_wp2_with fail
        have hs := off_ok INV.out.1 i j
        rw [show (XF n i j [c1] []).cutOf i j = false from by unfold Nx.cutOf XF; simp] at hs
        refine hs.mono ?_
        rintro e w6 ⟨rfl, rfl⟩
        clear hs
        go_wp2
        go_loopw [11] (fun s wr => ∃ k : Nat, 1 ≤ k ∧ k ≤ 1024 ∧ s = .int .i64 k ∧ Hid (∃ S l, Inv w S x (XF n i j l []) wr ∧ l.length = k ∧ ∀ c ∈ l, Holds wr S c (rcptM i j 0))) (fun s _ => 1024 - (intOf s).toNat)
        case atStart => exact ⟨1, by omega, by omega, rfl, S1, [c1], INV.out, rfl, HC.out⟩
        case round =>
          obtain ⟨k, hk1, hk2, rfl, hst⟩ := hrel
          clear HC INV
          by_cases hlt : k < 1024
          · obtain ⟨S, l, inv, hll, hh⟩ := hst.out
            have hc : ∃ c, l[k - 1]? = some c := ⟨l[k - 1]'(by omega), List.getElem?_eq_getElem _⟩
            obtain ⟨c, hc⟩ := hc
            have hs := twice_any wr S _ x (XF n i j l []) (rcptM i j 0) i j ((k : Int) - 1) inv.1 (fun _ => ⟨c, by rw [show ((k : Int) - 1).toNat = k - 1 by omega]; simp only [Int.toNat_natCast]; rw [XF_q]; exact hc, hh c (List.mem_of_getElem? hc)⟩) (fun k hk => hk.1)
            rw [show ((k : Int) - 1) = ((k - 1 : Nat) : Int) by omega, XF_twice HL.out HNE.out l [] (k - 1) (by omega) (by omega)] at hs
            have HS := Lib.hid hs
            have HLL := Lib.hid hll
            have HH := Lib.hid hh
            have HI := Lib.hid inv
            clear hs hll hh inv hc hst
            go_wp2_with fail
            rw [show ((k : Int) - 1) = ((k - 1 : Nat) : Int) by omega]
            refine HS.out.mono ?_
            rintro e w7 ⟨S2, X', rfl, hnet, hfr, hno, hyes⟩
            obtain ⟨c2, rfl, hm⟩ := hyes rfl
            rw [XF_push] at hnet
            have HI2 := Lib.hid (HI.out.fr hnet hfr)
            have HH2 : Hid (∀ c ∈ l ++ [c2], Holds w7 S2 c (rcptM i j 0)) := fun c hc => by
              rcases List.mem_append.1 hc with hc | hc
              · exact (HH.out c hc).fr hfr
              · rw [List.mem_singleton] at hc; subst hc; exact Holds.new hm
            clear hnet hfr hno hyes hm HS
            go_wp2
            go_roundw
            case rel => exact ⟨k + 1, by omega, by omega, by go_num, S2, l ++ [c2], HI2.out, by simp [HLL.out], HH2.out⟩
            case measure => simp [intOf]; omega
          · have hk : k = 1024 := by omega
            subst hk
            obtain ⟨S, l, inv, hll, hh⟩ := hst.out
            have INV := Lib.hid inv
            have HLL := Lib.hid hll
            clear inv hll hh hst hlt hk1 hk2
            go_wp2_with fail
            have hs := len_ok INV.out.1 i j
            rw [show (XF n i j l []).len i j = 1024 from by unfold Nx.len; rw [show isLink (XF n i j l []).n i j = true from HL.out]; simp only [if_true, Int.toNat_natCast]; rw [XF_q]; exact HLL.out] at hs
            refine hs.mono ?_
            rintro e w7 ⟨rfl, rfl⟩
            clear hs
            go_wp2_with fail
            refine (receipt_any _ i j 1).mono ?_
            rintro e w8 ⟨rfl, hb⟩
            replace INV := Lib.hid (INV.out.up hb)
            clear hb
            go_wp2_with fail
            have hs := send_any _ _ (fun _ => False) x _ (rcpt i j 1) (rcptM i j 1) i j INV.out.1 (rcpt_in _ _ _ _ _) (fun _ h => h.elim) rfl rfl
            rw [XF_nosend l [] (by rw [HLL.out]; omega)] at hs
            refine hs.mono ?_
            rintro e w9 ⟨S3, X', rfl, hnet, hfr, hno, hyes⟩
            obtain ⟨rfl, rfl⟩ := hno rfl
            replace INV := Lib.hid (INV.out.fr hnet hfr)
            clear hs hnet hfr hno hyes
            go_wp2_with fail
            have hs := twice_any _ _ (fun _ => False) x _ (rcptM i j 0) i j 0 INV.out.1 (fun h => by rw [XF_notwice l [] 0 (by rw [HLL.out]; omega)] at h; cases h) (fun _ h => h.elim)
            rw [XF_notwice l [] 0 (by rw [HLL.out]; omega)] at hs
            refine hs.mono ?_
            rintro e w10 ⟨S4, X', rfl, hnet, hfr, hno, hyes⟩
            obtain ⟨rfl, rfl⟩ := hno rfl
            replace INV := Lib.hid (INV.out.fr hnet hfr)
            clear hs hnet hfr hno hyes
            go_wp2_with fail
            refine (receipt_any _ j i 1).mono ?_
            rintro e w11 ⟨rfl, hb⟩
            replace INV := Lib.hid (INV.out.up hb)
            clear hb
            go_wp2_with fail
            have hs := send_any _ _ (fun _ => False) x _ (rcpt j i 1) (rcptM j i 1) j i INV.out.1 (rcpt_in _ _ _ _ _) (fun _ h => h.elim) rfl rfl
            rw [XF_sendb hi hj HNE.out l [] (by decide)] at hs
            refine hs.mono ?_
            rintro e w12 ⟨S5, X', rfl, hnet, hfr, hno, hyes⟩
            obtain ⟨c3, rfl, hm⟩ := hyes rfl
            rw [XF_pushb HNE.out, List.nil_append] at hnet
            replace INV := Lib.hid (INV.out.fr hnet hfr)
            clear hs hnet hfr hno hyes hm
            go_wp2_with fail
            have hs := lose_any _ _ x _ i j 1023 INV.out.1
            rw [show (XF n i j l [c3]).hasAt i j 1023 = true from XF_has HL.out l [c3] 1023 (by rw [HLL.out]; omega)] at hs
            refine hs.mono ?_
            rintro e w13 ⟨X', rfl, hnet, hfr, hno, hyes⟩
            obtain rfl := hyes rfl
            rw [show (XF n i j l [c3]).pop i j 1023 = XF n i j (l.eraseIdx 1023) [c3] from XF_pop n i j l [c3] 1023] at hnet
            obtain ⟨l', hl'⟩ : ∃ l', l' = l.eraseIdx 1023 := ⟨_, rfl⟩
            have HLL' : Hid (l'.length = 1023) := by show l'.length = 1023; rw [hl', List.length_eraseIdx_of_lt (by rw [HLL.out]; omega), HLL.out]
            rw [← hl'] at hnet
            replace INV := Lib.hid (INV.out.fr hnet hfr)
            clear hs hnet hfr hno hyes hl'
            go_wp2_with fail
            have hs := lose_any _ _ x _ i j 1023 INV.out.1
            rw [show (XF n i j l' [c3]).hasAt i j 1023 = false from XF_hasnot l' [c3] 1023 (by rw [HLL'.out]; omega)] at hs
            refine hs.mono ?_
            rintro e w14 ⟨X', rfl, hnet, hfr, hno, hyes⟩
            obtain rfl := hno rfl
            replace INV := Lib.hid (INV.out.fr hnet hfr)
            clear hs hnet hfr hno hyes
            go_wp2_with fail
            refine (receipt_any _ i j 9).mono ?_
            rintro e w15 ⟨rfl, hb⟩
            replace INV := Lib.hid (INV.out.up hb)
            clear hb
            go_wp2_with fail
            have hs := send_any _ _ (fun _ => False) x _ (rcpt i j 9) (rcptM i j 9) i j INV.out.1 (rcpt_in _ _ _ _ _) (fun _ h => h.elim) rfl rfl
            rw [XF_send HL.out HNE.out l' [c3] (by rw [HLL'.out]; omega)] at hs
            refine hs.mono ?_
            rintro e w16 ⟨S6, X', rfl, hnet, hfr, hno, hyes⟩
            obtain ⟨c4, rfl, hm⟩ := hyes rfl
            rw [XF_push] at hnet
            replace INV := Lib.hid (INV.out.fr hnet hfr)
            clear hs hnet hfr hno hyes hm
            go_wp2_with fail
            have hs := total_any _ _ x _ INV.out.1 (XF_small hn20 (by simp [HLL'.out]) (by simp))
            rw [show (XF n i j (l' ++ [c4]) [c3]).total = 1025 from by rw [XF_total hi hj HNE.out]; simp [HLL'.out]] at hs
            refine hs.mono ?_
            rintro e w17 ⟨rfl, hb⟩
            replace INV := Lib.hid (INV.out.up hb)
            clear hs hb
            go_wp2
            go_ret
            exact ⟨rfl, INV.out.2.2⟩
      · have hl' : isLink n a b = false := by simpa using hl
        rw [hl']
        have HL := Lib.hid hl'
        clear hl hl'
        go_wp2_with fail
        have hs := cut_ok INV.out.1 a b false
        unfold CutOkPost at hs
        rw [show isLink (⟨n, fun _ _ => [], fun _ _ => false⟩ : Nx).n a b = false from HL.out, show (⟨n, fun _ _ => [], fun _ _ => false⟩ : Nx).cut a b false = ⟨n, fun _ _ => [], fun _ _ => false⟩ from by unfold Nx.cut; simp [HL.out]] at hs
        refine hs.mono ?_
        rintro e w3 ⟨rfl, hnet, hfr⟩
        replace INV := Lib.hid (INV.out.fr hnet hfr)
        clear hs hnet hfr
        go_wp2_with fail
        refine (receipt_any _ a b 0).mono ?_
        rintro e w4 ⟨rfl, hb⟩
        replace INV := Lib.hid (INV.out.up hb)
        clear hb
        go_wp2_with fail
        have hs := send_any _ _ (fun _ => False) x _ (rcpt a b 0) (rcptM a b 0) a b INV.out.1 (rcpt_in _ _ _ _ _) (fun _ h => h.elim) rfl rfl
        rw [show (⟨n, fun _ _ => [], fun _ _ => false⟩ : Nx).sendOk a b = false from by unfold Nx.sendOk; simp [HL.out]] at hs
        refine hs.mono ?_
        rintro e w5 ⟨S1, X', rfl, hnet, hfr, hno, hyes⟩
        obtain ⟨rfl, rfl⟩ := hno rfl
        replace INV := Lib.hid (INV.out.fr hnet hfr)
        clear hs hnet hfr hno hyes
        go_wp2_with fail
        have hs := off_ok INV.out.1 a b
        rw [show (⟨n, fun _ _ => [], fun _ _ => false⟩ : Nx).cutOf a b = false from by unfold Nx.cutOf; simp] at hs
        refine hs.mono ?_
        rintro e w6 ⟨rfl, rfl⟩
        clear hs
        go_wp2_with fail
        have hs := len_ok INV.out.1 a b
        rw [show (⟨n, fun _ _ => [], fun _ _ => false⟩ : Nx).len a b = 0 from by unfold Nx.len; simp] at hs
        refine hs.mono ?_
        rintro e w7 ⟨rfl, rfl⟩
        clear hs
        go_wp2_with fail
        have hs := total_any _ _ x _ INV.out.1 ⟨hn20, fun i j => by simp⟩
        rw [show (⟨n, fun _ _ => [], fun _ _ => false⟩ : Nx).total = 0 from zero_total n] at hs
        refine hs.mono ?_
        rintro e w8 ⟨rfl, hb⟩
        replace INV := Lib.hid (INV.out.up hb)
        clear hs hb
        go_wp2_with fail
        have hs := twice_any _ _ (fun _ => False) x _ (rcptM a b 0) a b 0 INV.out.1 (fun h => by unfold Nx.twiceOk Nx.hasAt at h; simp [HL.out] at h) (fun _ h => h.elim)
        rw [show (⟨n, fun _ _ => [], fun _ _ => false⟩ : Nx).twiceOk a b 0 = false from by unfold Nx.twiceOk Nx.hasAt; simp [HL.out]] at hs
        refine hs.mono ?_
        rintro e w9 ⟨S2, X', rfl, hnet, hfr, hno, hyes⟩
        obtain ⟨rfl, rfl⟩ := hno rfl
        replace INV := Lib.hid (INV.out.fr hnet hfr)
        clear hs hnet hfr hno hyes
        go_wp2
        go_ret
        exact ⟨rfl, INV.out.2.2⟩
end Go.Proofs.Ytdkpgjhjdnfieaa
