/- The walk of IndexMeets. Condition: the steps and the words can be read. -/
import Derived.Test.YtokfiikpfckahaaZ
set_option linter.unusedVariables false
set_option linter.unusedSimpArgs false
namespace Go.Proofs.Ytokfiikpfckahaa
open Go.RowKit Go.Lib Go.Ix Go.Sort Go.Mf
set_option maxRecDepth 100000

theorem wrap64_id {n : Int} (h0 : 0 ≤ n) (h1 : n ≤ 1000000) : IntKind.wrap .i64 n = n := by
  rw [IntKind.wrap_i64]
  omega

set_option maxHeartbeats 8000000 in
theorem meets_any (w : World) (va vb vw : Value) (a : List StepD) (vs ws : List Str) (ha : StepsAt w va a) (hb : RowAt w vb vs) (hw : RowAt w vw ws) :
    Calls Try.prog 6 #[va, vb, vw] w fun e w' => e = .returned (.bool true) ∧ Below w.heap.size w w' := by
  have HFA := Lib.hid (few_call ha)
  have HFB := Lib.hid (okw_call hb)
  have HWW := Lib.hid (okw_call hw)
  obtain ⟨ba, hba⟩ : ∃ ba, ba = okF a := ⟨_, rfl⟩
  obtain ⟨bb, hbb⟩ : ∃ bb, bb = okW vs := ⟨_, rfl⟩
  obtain ⟨bw, hbw⟩ : ∃ bw, bw = okW ws := ⟨_, rfl⟩
  rw [← hba] at HFA
  rw [← hbb] at HFB
  rw [← hbw] at HWW
  have HBA := Lib.hid hba
  have HBB := Lib.hid hbb
  have HBW := Lib.hid hbw
  have HA := Lib.hid ha
  have HB := Lib.hid hb
  have HW := Lib.hid hw
  obtain ⟨pb, cb, hvb, hcb⟩ := hb
  subst hvb
  obtain ⟨pw, cw, hvw, hcw⟩ := hw
  subst hvw
  obtain ⟨n, hn⟩ : ∃ n, n = vs.length := ⟨_, rfl⟩
  obtain ⟨m, hm⟩ : ∃ n, n = ws.length := ⟨_, rfl⟩
  have HN := Lib.hid hn
  have HM := Lib.hid hm
  have HCB := Lib.hid hcb
  have HCW := Lib.hid hcw
  rw [← hn] at HFB HB ⊢
  rw [← hm] at HWW HW ⊢
  clear ha hba hbb hbw hcb hcw hn hm
  go_enter Try.func6, Try.ntmps6
  cases ba with
  | false =>
    go_wp2_with (first
        | (go_at_call 8; refine (small_any _).mono ?_; rintro e w1 ⟨rfl, hb1⟩
           have HB1 := Lib.hid hb1
           clear hb1)
        | (go_at_call 13; refine (HFA.out _ HB1.out).mono ?_; rintro e w1' ⟨rfl, rfl⟩; clear HFA)
        | (go_at_call 21; refine (HFB.out _ HB1.out).mono ?_; rintro e w1' ⟨rfl, rfl⟩; clear HFB)
        | (go_at_call 21; refine (HWW.out _ HB1.out).mono ?_; rintro e w1' ⟨rfl, rfl⟩; clear HWW)
        | (go_at_call 14; refine (new_call HB1.out).mono ?_; rintro e w2 ⟨s, x, rfl, HN1⟩))
    go_ret
    exact ⟨rfl, HN1.out.2.2.2.2.2.1⟩
  | true =>
    cases bb with
    | false =>
      go_wp2_with (first
          | (go_at_call 8; refine (small_any _).mono ?_; rintro e w1 ⟨rfl, hb1⟩
             have HB1 := Lib.hid hb1
             clear hb1)
          | (go_at_call 13; refine (HFA.out _ HB1.out).mono ?_; rintro e w1' ⟨rfl, rfl⟩; clear HFA)
          | (go_at_call 21; refine (HFB.out _ HB1.out).mono ?_; rintro e w1' ⟨rfl, rfl⟩; clear HFB)
          | (go_at_call 21; refine (HWW.out _ HB1.out).mono ?_; rintro e w1' ⟨rfl, rfl⟩; clear HWW)
          | (go_at_call 14; refine (new_call HB1.out).mono ?_; rintro e w2 ⟨s, x, rfl, HN1⟩))
      go_ret
      exact ⟨rfl, HN1.out.2.2.2.2.2.1⟩
    | true =>
      cases bw with
      | false =>
        go_wp2_with (first
            | (go_at_call 8; refine (small_any _).mono ?_; rintro e w1 ⟨rfl, hb1⟩
               have HB1 := Lib.hid hb1
               clear hb1)
            | (go_at_call 13; refine (HFA.out _ HB1.out).mono ?_; rintro e w1' ⟨rfl, rfl⟩; clear HFA)
            | (go_at_call 21; refine (HFB.out _ HB1.out).mono ?_; rintro e w1' ⟨rfl, rfl⟩; clear HFB)
            | (go_at_call 21; refine (HWW.out _ HB1.out).mono ?_; rintro e w1' ⟨rfl, rfl⟩; clear HWW)
            | (go_at_call 14; refine (new_call HB1.out).mono ?_; rintro e w2 ⟨s, x, rfl, HN1⟩))
        go_ret
        exact ⟨rfl, HN1.out.2.2.2.2.2.1⟩
      | true =>
        rcases Nat.eq_zero_or_pos n with hn0 | hn0
        · have hnI : ((n : Int) == 0) = true := by simp [hn0]
          clear hn0
          go_wp2_with (first
              | (go_at_call 8; refine (small_any _).mono ?_; rintro e w1 ⟨rfl, hb1⟩
                 have HB1 := Lib.hid hb1
                 clear hb1)
              | (go_at_call 13; refine (HFA.out _ HB1.out).mono ?_; rintro e w1' ⟨rfl, rfl⟩; clear HFA)
              | (go_at_call 21; refine (HFB.out _ HB1.out).mono ?_; rintro e w1' ⟨rfl, rfl⟩; clear HFB)
              | (go_at_call 21; refine (HWW.out _ HB1.out).mono ?_; rintro e w1' ⟨rfl, rfl⟩; clear HWW)
              | (go_at_call 14; refine (new_call HB1.out).mono ?_; rintro e w2 ⟨s, x, rfl, HN1⟩))
          go_ret
          exact ⟨rfl, HN1.out.2.2.2.2.2.1⟩
        · have hnI : ((n : Int) == 0) = false := by simp; omega
          rcases Nat.eq_zero_or_pos m with hm0 | hm0
          · have hmI : ((m : Int) == 0) = true := by simp [hm0]
            clear hm0
            go_wp2_with (first
                | (go_at_call 8; refine (small_any _).mono ?_; rintro e w1 ⟨rfl, hb1⟩
                   have HB1 := Lib.hid hb1
                   clear hb1)
                | (go_at_call 13; refine (HFA.out _ HB1.out).mono ?_; rintro e w1' ⟨rfl, rfl⟩; clear HFA)
                | (go_at_call 21; refine (HFB.out _ HB1.out).mono ?_; rintro e w1' ⟨rfl, rfl⟩; clear HFB)
                | (go_at_call 21; refine (HWW.out _ HB1.out).mono ?_; rintro e w1' ⟨rfl, rfl⟩; clear HWW)
                | (go_at_call 14; refine (new_call HB1.out).mono ?_; rintro e w2 ⟨s, x, rfl, HN1⟩))
            go_ret
            exact ⟨rfl, HN1.out.2.2.2.2.2.1⟩
          · have hmI : ((m : Int) == 0) = false := by simp; omega
            obtain ⟨W, hWd⟩ : ∃ W, W = runW (fun _ => none) a := ⟨_, rfl⟩
            have hub : ∀ i, (W i).isSome = true → i ∈ a.map StepD.id := fun i h => left_run a i (by rw [← hWd]; exact h)
            have hul : (a.map StepD.id).length ≤ 1000000 := by rw [List.length_map]; have := okF_len HBA.out.symm; omega
            have hvl : vs.length ≤ 8 := okW_len HBB.out.symm
            have hwl : ws.length ≤ 8 := okW_len HBW.out.symm
            have HSA := Lib.hid (fun (wr : World) (s x : Nat) h => ms_set (w := w) (wr := wr) (s := s) (x := x) h HA.out HBA.out.symm)
            rw [← hWd] at HSA
            have HF1 := Lib.hid (fun (wr : World) (x : Nat) (h : MSt w wr x W) => h.find (w0 := w) (HB.out.up h.2) (by omega) hub hul)
            have HF2 := Lib.hid (fun (wr : World) (x : Nat) (h : MSt w wr x W) => h.find (w0 := w) (HW.out.up h.2) (by omega) hub hul)
            have HF3 := Lib.hid (fun (wr : World) (x : Nat) (v : Value) (us : List Str) (h : MSt w wr x W) (hr : RowAt wr v us) (hu : us.length ≤ 1000000) => h.find (w0 := w) hr hu hub hul)
            have HWD := Lib.hid hWd
            have HVL := Lib.hid hvl
            have HWL := Lib.hid hwl
            clear hub hul hWd hvl hwl
            obtain ⟨bv, ov, rfl⟩ : ∃ b o, pb = some ⟨b, o, none⟩ := by obtain ⟨b, o, h, _⟩ := HCB.out 0 (by have := HN.out; omega); exact ⟨b, o, h⟩
            obtain ⟨bx, ox, rfl⟩ : ∃ b o, pw = some ⟨b, o, none⟩ := by obtain ⟨b, o, h, _⟩ := HCW.out 0 (by have := HM.out; omega); exact ⟨b, o, h⟩
            have HNV := Lib.hid (row_news HB.out)
            have HNW := Lib.hid (row_news HW.out)
            have hn8 : n ≤ 8 := by have := HVL.out; have := HN.out; omega
            have hm8 : m ≤ 8 := by have := HWL.out; have := HM.out; omega
            have HLV : Hid ((vs.map encStr).length = n * 1) := by show _ = _; rw [List.length_map, HN.out]; simp
            have HLW : Hid ((ws.map encStr).length = m * 1) := by show _ = _; rw [List.length_map, HM.out]; simp
            obtain ⟨i9, hi9, hz90, hz91, hz92⟩ := info_parts info9
            go_wp2_with (first
                | (go_at_call 8; refine (small_any _).mono ?_; rintro e w1 ⟨rfl, hb1⟩
                   have HB1 := Lib.hid hb1
                   clear hb1)
                | (go_at_call 13; refine (HFA.out _ HB1.out).mono ?_; rintro e w1' ⟨rfl, rfl⟩; clear HFA)
                | (go_at_call 21; refine (HFB.out _ HB1.out).mono ?_; rintro e w1' ⟨rfl, rfl⟩; clear HFB)
                | (go_at_call 21; refine (HWW.out _ HB1.out).mono ?_; rintro e w1' ⟨rfl, rfl⟩; clear HWW)
                | (go_at_call 14; refine (new_call HB1.out).mono ?_; rintro e w2 ⟨s, x, rfl, HN1⟩)
                | (go_at_call 22; refine (HSA.out _ _ _ ⟨HN1.out.1, HN1.out.2.1, HN1.out.2.2.2.2.1, HN1.out.2.2.2.2.2.1⟩).mono ?_; rintro e w4 ⟨rfl, H4⟩; clear HSA)
                | (go_at_call 19; refine (HF1.out _ _ H4.out).mono ?_; rintro e w5 ⟨v1, l1, rfl, H5⟩; clear HF1)
                | (go_at_call 19; refine (HF2.out _ _ H5.out.2.2.1).mono ?_; rintro e w6 ⟨v2, l2, rfl, H6⟩; clear HF2)
                | (at_builtin; refine wpList_append_own _ rfl _ _ 23 rfl w6.heap.size 9 i9 _ 1 16 und23 hi9 hz90 hz91 hz92 rfl (by decide) _ _ _ rfl (own_empty w6) ⟨bv, ov, none⟩ n cb (vs.map encStr) rfl HLV.out ?c1 ?c2 ?c3 ?c4 ?c5 ?_
                   (case c1 => exact HNV.out _ (H6.out.2.2.1.2.alloc H6.out.2.2.1.2.size _))
                   (case c2 => exact news_one vs)
                   (case c3 => unfold maxLen; omega)
                   (case c4 => omega)
                   (case c5 => simp)
                   intro va' wa hown1 hgr1 _
                   have HO1 := Lib.hid hown1
                   have HG1 := Lib.hid hgr1
                   have HBA6 := Lib.hid (H6.out.2.2.1.2.trans ((wa_below hgr1).mono H6.out.2.2.1.2.size))
                   clear hown1 hgr1)
                | (at_builtin; refine wpList_append_own _ rfl _ _ 23 rfl w6.heap.size 9 i9 _ 1 16 und23 hi9 hz90 hz91 hz92 rfl (by decide) _ _ _ rfl HO1.out ⟨bx, ox, none⟩ m cw (ws.map encStr) rfl HLW.out ?e1 ?e2 ?e3 ?e4 ?e5 ?_
                   (case e1 => exact HNW.out _ HBA6.out)
                   (case e2 => exact news_one ws)
                   (case e3 => unfold maxLen; omega)
                   (case e4 => omega)
                   (case e5 => exact (wa_below HG1.out).size)
                   intro vb' wb hown2 hgr2 _
                   have H7 := Lib.hid (own_two HN.out HM.out HO1.out HG1.out hown2 hgr2)
                   clear hown2 hgr2)
                | (go_at_call 19; refine (HF3.out _ _ _ _ (H6.out.2.2.1.up H7.out.2) H7.out.1 (by rw [List.length_append]; have := HVL.out; have := HWL.out; omega)).mono ?_; rintro e w8 ⟨v3, l3, rfl, H8⟩; clear HF3))
            obtain ⟨p1, c1, rfl, hc1⟩ := ((H5.out.1.up H6.out.2.2.2.2).up H7.out.2).up H8.out.2.2.2.2
            obtain ⟨p2, c2, rfl, hc2⟩ := (H6.out.1.up H7.out.2).up H8.out.2.2.2.2
            obtain ⟨p3, c3, rfl, hc3⟩ := H8.out.1
            have R2 : Hid (RowAt w8 (.slice p2 l2.length c2) l2) := ⟨p2, c2, rfl, hc2⟩
            have hl3 := found_both (by intro e; have := HN.out; rw [e] at this; simp at this; omega) (by intro e; have := HM.out; rw [e] at this; simp at this; omega) H5.out.2.1 H6.out.2.1 H8.out.2.1
            obtain ⟨n1, hn1⟩ : ∃ n, n = l1.length := ⟨_, rfl⟩
            obtain ⟨n2, hn2⟩ : ∃ n, n = l2.length := ⟨_, rfl⟩
            obtain ⟨n3, hn3⟩ : ∃ n, n = l3.length := ⟨_, rfl⟩
            have hn1l : n1 ≤ 1000000 := by have := H5.out.2.2.2.1; omega
            have hn3l : n3 ≤ 1000000 := by have := H8.out.2.2.2.1; omega
            have HASC := Lib.hid H5.out.2.1.1
            have HL2 := Lib.hid H6.out.2.2.2.1
            have HBW8 := Lib.hid H8.out.2.2.1.2
            have HC1 := Lib.hid hc1
            have HC3 := Lib.hid hc3
            have HL3 := Lib.hid hl3
            rw [← hn2] at R2 ⊢
            rw [← hn1, ← hn3]
            have HN1' := Lib.hid hn1
            have HN2' := Lib.hid hn2
            have HN3' := Lib.hid hn3
            clear hc1 hc2 hc3 hl3 hn1 hn2 hn3 H5 H6 H7 H8 H4 HN1 HNV HNW HCB HCW HB HW HO1 HG1 HBA6 hn8 hm8 HLV HLW hi9 hz90 hz91 hz92 hnI hmI hn0 hm0 HB1
            go_loopw [15, 16] (fun t u wr => ∃ j k : Nat, j ≤ n1 ∧ k ≤ n3 ∧ u = .int .i64 j ∧ t = .int .i64 k ∧ Hid (k = passed (fun i => decide (i ∈ l2)) l1 j) ∧ ∃ q, wr = w8.drewN q) (fun _ u _ => n1 - (intOf u).toNat)
            case atStart => exact ⟨0, 0, by omega, by omega, rfl, rfl, rfl, 0, rfl⟩
            case round =>
              obtain ⟨j, k, hj, hk, rfl, rfl, hpa, q, rfl⟩ := hrel
              by_cases hjn : j < n1
              · have hjl : j < l1.length := by rw [← HN1'.out]; exact hjn
                obtain ⟨b1, o1, rfl, _, cj⟩ := HC1.out j hjl
                obtain ⟨s1, hs1⟩ : ∃ s, s = l1[j] := ⟨_, rfl⟩
                rw [← hs1] at cj
                have HS1 := Lib.hid hs1
                have hjI : (j : Int) < n1 := by omega
                have hj0 : (0 : Int) ≤ j := by omega
                clear hs1
                obtain ⟨hb, hhb⟩ : ∃ hb, hb = decide (s1 ∈ l2) := ⟨_, rfl⟩
                have hhas : ∀ wr, Below w8.heap.size w8 wr → Calls Try.prog 23 #[.slice p2 n2 c2, encStr s1] wr fun e w' => e = .returned (.bool hb) ∧ w' = wr := fun wr hb' => by
                  rw [hhb, HN2'.out]; exact has_any (by have := R2.out; rw [HN2'.out] at this; exact this.up hb') HL2.out s1
                have HHAS := Lib.hid hhas
                have HHB := Lib.hid hhb
                clear hhas hhb
                have hbnd : hb = true → ∃ b3 o3, p3 = some ⟨b3, o3, none⟩ ∧ k < n3 ∧ w8.cell? ⟨b3, o3 + k, none⟩ = some (encStr s1) ∧ Hid (k + 1 = passed (fun i => decide (i ∈ l2)) l1 (j + 1)) := by
                  intro ht
                  have hp : (fun i => decide (i ∈ l2)) l1[j] = true := by show decide (l1[j] ∈ l2) = true; rw [← HS1.out, ← HHB.out]; exact ht
                  obtain ⟨h1, h2⟩ := passed_here (fun i => decide (i ∈ l2)) l1 hjl hp
                  have h3 := passed_yes (fun i => decide (i ∈ l2)) l1 hjl hp
                  rw [← hpa.out] at h3
                  have hkl : k < l3.length := by rw [HL3.out, hpa.out]; exact h1
                  obtain ⟨b3, o3, g1, _, g2⟩ := HC3.out k hkl
                  refine ⟨b3, o3, g1, by rw [HN3'.out]; exact hkl, ?_, Lib.hid h3.symm⟩
                  rw [g2, HS1.out, ← h2]
                  congr 2
                  simp only [HL3.out, hpa.out]
                have HBND := Lib.hid hbnd
                have hbno : hb = false → k = passed (fun i => decide (i ∈ l2)) l1 (j + 1) := by
                  intro ht
                  have hp : (fun i => decide (i ∈ l2)) l1[j] = false := by show decide (l1[j] ∈ l2) = false; rw [← HS1.out, ← HHB.out]; exact ht
                  rw [passed_no (fun i => decide (i ∈ l2)) l1 hjl hp]
                  exact hpa.out
                have HBNO := Lib.hid hbno
                clear hbnd hbno
                by_cases hjz : j = 0
                · have hjzI : decide ((0 : Int) < j) = false := by simp; omega
                  have hjzN : decide (0 < j) = false := by simp; omega
                  clear hjz
                  go_wp2
                  go_quiet (fail)
                  cases hb with
                  | false =>
                    go_wp2_with (go_at_call 23; refine (HHAS.out _ (below_dn _ _)).mono ?_; rintro e w9 ⟨rfl, rfl⟩)
                    go_roundw
                    case rel => exact ⟨j + 1, k, by omega, hk, by go_num, rfl, Lib.hid (HBNO.out (by first | rfl | trivial)), _, rfl⟩
                    case measure => simp [intOf]; omega
                  | true =>
                    obtain ⟨b3, o3, rfl, hkn, ck, hpk⟩ := HBND.out rfl
                    have hkI : decide ((n3 : Int) ≤ k) = false := by simp; omega
                    have hkI2 : (k : Int) < n3 := by omega
                    have hk0 : (0 : Int) ≤ k := by omega
                    go_wp2_with (go_at_call 23; refine (HHAS.out _ (below_dn _ _)).mono ?_; rintro e w9 ⟨rfl, rfl⟩)
                    go_quiet (fail)
                    go_wp2
                    go_roundw
                    case rel => exact ⟨j + 1, k + 1, by omega, by omega, by go_num, by go_num, hpk, _, rfl⟩
                    case measure => simp [intOf]; omega
                · have hjzI : (0 : Int) < j := by omega
                  have hjzN : 0 < j := by omega
                  obtain ⟨j', hj'⟩ : ∃ j', j = j' + 1 := ⟨j - 1, by omega⟩
                  have hjm : (j : Int) - 1 = (j' : Int) := by omega
                  have hj'0 : (0 : Int) ≤ j' := by omega
                  have hj'n : (j' : Int) < n1 := by omega
                  have hwr : IntKind.wrap .i64 (j' : Int) = j' := wrap64_id (by omega) (by omega)
                  have hj'l : j' < l1.length := by omega
                  obtain ⟨b1', o1', he1, _, cj'⟩ := HC1.out j' hj'l
                  cases he1
                  obtain ⟨s0, hs0⟩ : ∃ s, s = l1[j'] := ⟨_, rfl⟩
                  rw [← hs0] at cj'
                  have hbl : Op.bytesLess s0 s1 = true := by
                    have hjl' : j' + 1 < l1.length := by omega
                    have h1 := asc_step HASC.out hjl'
                    have h2 : s1 = l1[j' + 1] := by rw [HS1.out]; congr 1
                    rw [← hs0, ← h2] at h1
                    rw [bytesLess_eq]
                    simp [h1]
                  clear hs0 hj' hjz
                  go_wp2
                  go_quiet (fail)
                  cases hb with
                  | false =>
                    go_wp2_with (go_at_call 23; refine (HHAS.out _ (below_dn _ _)).mono ?_; rintro e w9 ⟨rfl, rfl⟩)
                    go_roundw
                    case rel => exact ⟨j + 1, k, by omega, hk, by go_num, rfl, Lib.hid (HBNO.out (by first | rfl | trivial)), _, rfl⟩
                    case measure => simp [intOf]; omega
                  | true =>
                    obtain ⟨b3, o3, rfl, hkn, ck, hpk⟩ := HBND.out rfl
                    have hkI : decide ((n3 : Int) ≤ k) = false := by simp; omega
                    have hkI2 : (k : Int) < n3 := by omega
                    have hk0 : (0 : Int) ≤ k := by omega
                    go_wp2_with (go_at_call 23; refine (HHAS.out _ (below_dn _ _)).mono ?_; rintro e w9 ⟨rfl, rfl⟩)
                    go_quiet (fail)
                    go_wp2
                    go_roundw
                    case rel => exact ⟨j + 1, k + 1, by omega, by omega, by go_num, by go_num, hpk, _, rfl⟩
                    case measure => simp [intOf]; omega
              · have hjI : decide ((j : Int) < n1) = false := by simp; omega
                obtain rfl : j = n1 := by omega
                have hkn : k = n3 := by
                  have h1 := hpa.out
                  rw [HN1'.out, passed_end, ← HL3.out] at h1
                  rw [h1, HN3'.out]
                subst hkn
                go_wp2
                go_ret
                exact ⟨by simp, HBW8.out.trans ((below_dn w8 q).mono HBW8.out.size)⟩
end Go.Proofs.Ytokfiikpfckahaa
