/- The walk of OutboxWaits: it returns true and writes nothing that was there. Condition: its slice reads as lists of numbers. -/
import Derived.Test.YthbnnifkoomokaaV
import Derived.Test.YthbnnifkoomokaaX
set_option linter.unusedVariables false
set_option linter.unusedSimpArgs false
namespace Go.Proofs.Ythbnnifkoomokaa
open Go.RowKit Go.Mf

/-- what holds at each round's head -/
def WaitAt (w wr : World) (lo hi b : Nat) (L : List (List Int)) (n : Int) (now : Nat) (next wait : Int) : Prop :=
  ∃ X u, BoxAt wr lo hi b X ∧ X.Ok (20 * (now : Int)) ∧ WInv L n X next u ∧ wait = pw u ∧ 0 ≤ next ∧ next ≤ (now : Int) + 16 ∧ Below w.heap.size w wr

set_option maxHeartbeats 2000000 in
set_option maxRecDepth 100000 in
theorem waits_raw (w : World) (n bud rounds at_ : Int) (v : Value) (L : List (List Int)) (hL : RowsAt w (fun j => j < w.heap.size) v L) (hbud : bud ≤ 9223372036854775807) :
    Calls Try.prog 4 #[.int .i64 n, .int .i64 bud, v, .int .i64 rounds, .int .i64 at_] w (LawPost w) := by
  have HL := Lib.hid hL
  obtain ⟨av, cv, rfl, hlen, hrows⟩ := hL
  have HRW := Lib.hid hrows
  clear hrows
  obtain ⟨len, hlenv⟩ : ∃ len, L.length = len := ⟨_, rfl⟩
  have HLEN := Lib.hid hlenv
  rw [hlenv] at hlen ⊢
  clear hlenv
  have HL2 := Lib.hid (show RowsAt w (fun j => j < w.heap.size) (.slice av len cv) L by have := HL.out; rw [HLEN.out] at this; exact this)
  clear HL
  have HBUD := Lib.hid hbud
  clear hbud
  by_cases hfew : Few L ∧ 0 ≤ rounds ∧ rounds ≤ 200
  · obtain ⟨hfew, hr0, hr1⟩ := hfew
    have hf : decide (Few L) = true := by simpa using hfew
    have HF := Lib.hid hf
    clear hf hfew
    have hr0' : decide (rounds < 0) = false := by simp; omega
    have hr1' : decide (200 < rounds) = false := by simp; omega
    go_enter Try.func4, Try.ntmps4
    go_wp2_with fail
    refine (small_any _).mono ?_
    rintro e w1 ⟨rfl, hbel1⟩
    have HBEL1 := Lib.hid hbel1
    clear hbel1
    go_wp2_with fail
    refine (few_yes w1 _ _ L (HL2.out.below HBEL1.out) HF.out).mono ?_
    rintro e w2 ⟨rfl, rfl⟩
    go_wp2_with fail
    by_cases hok : newOk 0 n
    · refine (new_box 0 n bud _ hok).mono ?_
      rintro e w3 ⟨b, rfl, hb3, hbel3⟩
      obtain ⟨lo, hlo⟩ : ∃ lo, w1.heap.size = lo := ⟨_, rfl⟩
      obtain ⟨hi, hhi⟩ : ∃ hi, w3.heap.size = hi := ⟨_, rfl⟩
      have hwlo : w.heap.size ≤ lo := by have := HBEL1.out.size; omega
      rw [hlo, hhi] at hb3
      have HBE3 := Lib.hid (HBEL1.out.trans (hbel3.mono (by omega)))
      have hwhi : w.heap.size ≤ hi := by have := HBE3.out.size; omega
      have HB3 := Lib.hid hb3
      have HNOK := Lib.hid hok
      clear hb3 hbel3 hlo hhi hok
      by_cases hn2 : n < 2
      · go_wp2
        go_ret
        exact ⟨rfl, HBE3.out⟩
      · have hn2' : decide (n < 2) = false := by simpa using hn2
        by_cases hl0 : len = 0
        · have hl0' : ((len : Int) == 0) = true := by simp; omega
          go_wp2
          go_ret
          exact ⟨rfl, HBE3.out⟩
        · have hl0' : ((len : Int) == 0) = false := by simp; omega
          obtain ⟨bL, oL, ae, ce, rfl, hce, hie⟩ := row_cell HRW.out HBE3.out (k := 0) (by rw [HLEN.out]; omega)
          obtain ⟨ne, hne⟩ : ∃ ne, (rowAt L 0).length = ne := ⟨_, rfl⟩
          have hrow0 : rowAt L ((0 : Nat) : Int) = rowAt L 0 := rfl
          rw [hrow0, hne] at hce hie
          have HIE := Lib.hid hie
          clear hie hne hrow0
          rw [Nat.add_zero] at hce
          go_wp2_with fail
          refine (last_is HIE.out).mono ?_
          rintro e w4 ⟨rfl, rfl⟩
          obtain ⟨lv, hlv⟩ : ∃ lv, lastOf (rowAt L 0) = lv := ⟨_, rfl⟩
          rw [hlv]
          have HLV := Lib.hid hlv
          have hlv0 : 0 ≤ lv := by rw [← hlv]; exact (lastOf_is _).reach.nonneg
          clear hlv
          by_cases hz : lv = 0
          · have hz' : (lv == 0) = true := by simpa using hz
            clear hz
            go_wp2
            go_ret
            exact ⟨rfl, HBE3.out⟩
          · have hz' : (lv == 0) = false := by simpa using hz
            have HST := Lib.hid (show WaitAt w w4 lo hi b L n 0 0 1 from ⟨_, 0, HB3.out, new_ok HNOK.out HBUD.out, winv_start HNOK.out (by omega), by decide, by omega, by omega, HBE3.out⟩)
            go_wp2
            go_loopw [15, 13, 14] (fun i nx wt wr => ∃ (now : Nat) (next wait : Int), (now : Int) ≤ rounds ∧ i = .int .i64 now ∧ nx = .int .i64 next ∧ wt = .int .i64 wait ∧ Hid (WaitAt w wr lo hi b L n now next wait)) (fun i _ _ _ => (rounds - intOf i).toNat)
            case atStart => exact ⟨0, 0, 1, by omega, rfl, rfl, rfl, HST.out⟩
            case round =>
              obtain ⟨now, next, wait, hnow, rfl, rfl, rfl, hwa⟩ := hrel
              obtain ⟨w5, rfl⟩ : ∃ w5 : World, w5 = wr := ⟨_, rfl⟩
              by_cases hlt : (now : Int) < rounds
              · obtain ⟨X, u, hbx, hxo, hwi, hwt, hnx0, hnx1, hbe⟩ := hwa.out
                have hct : (now : Int) ≤ 1099511627776 := by omega
                have hak := winv_ack hwi (now := (now : Int)) (by omega) hct
                have HBX := Lib.hid hbx
                have HWA := Lib.hid hwa.out
                have hA : X.sentOf 1 0 = 0 → ∀ wx, BoxAt wx lo hi b (X.ack 1 0 1 now) → Below w.heap.size w wx → WaitAt w wx lo hi b L n now now 1 := fun e wx hb hbw =>
                  ⟨_, 0, hb, ack_ok hxo (by omega) _ _ _ _, by have := hak.2; rw [if_pos e, if_pos e] at this; exact this, by decide, by omega, by omega, hbw⟩
                have hB : ¬ X.sentOf 1 0 = 0 → ∀ wx, BoxAt wx lo hi b (X.ack 1 0 1 now) → Below w.heap.size w wx → WaitAt w wx lo hi b L n now next wait := fun e wx hb hbw =>
                  ⟨_, u, hb, ack_ok hxo (by omega) _ _ _ _, by have := hak.2; rw [if_neg e, if_neg e] at this; exact this, hwt, hnx0, hnx1, hbw⟩
                have hK := hak.1
                have HA := Lib.hid hA
                have HB := Lib.hid hB
                have HBE := Lib.hid hbe
                obtain ⟨sz, hsz⟩ : ∃ sz, decide (X.sentOf 1 0 = 0) = sz := ⟨_, rfl⟩
                rw [hsz] at hK
                have HK := Lib.hid hK
                have HSZ := Lib.hid hsz
                clear hwa hbx hxo hwi hwt hnx0 hnx1 hbe hak hA hB hK hsz
                go_upto_region 12 with fail
                go_cut [66] (fun s66 wx => ∃ r, s66 = .bool r ∧ Hid (if r then WaitAt w wx lo hi b L n now now 1 else WaitAt w wx lo hi b L n now next wait))
                case first =>
                  by_cases hat : (now : Int) = at_
                  · have hat' : ((now : Int) == at_) = true := by simpa using hat
                    clear hat
                    go_wp2_with fail
                    refine (ack_is HBX.out 1 0 1 _ HK.out).mono ?_
                    rintro e w6 ⟨rfl, hb6, hu6⟩
                    have hbe6 : Below w.heap.size w w6 := HBE.out.trans (hu6.below hwlo HBE.out.size)
                    have HB6 := Lib.hid hb6
                    have HBE6 := Lib.hid hbe6
                    clear hb6 hu6 hbe6
                    cases sz with
                    | true =>
                      have HR := Lib.hid (HA.out (by simpa using HSZ.out) w6 HB6.out HBE6.out)
                      go_wp2
                      go_meet
                      exact ⟨true, rfl, HR.out⟩
                    | false =>
                      have HR := Lib.hid (HB.out (by simpa using HSZ.out) w6 HB6.out HBE6.out)
                      go_wp2
                      go_meet
                      exact ⟨false, rfl, HR.out⟩
                  · have hat' : ((now : Int) == at_) = false := by simpa using hat
                    clear hat
                    go_wp2
                    go_meet
                    exact ⟨false, rfl, HWA.out⟩
                case rest =>
                  obtain ⟨r, rfl, hr⟩ := hcut
                  go_upto_if 66 with fail
                  go_cut [13, 14] (fun s13 s14 wx => ∃ nx wt : Int, s13 = .int .i64 nx ∧ s14 = .int .i64 wt ∧ Hid (WaitAt w wx lo hi b L n now nx wt))
                  case first =>
                    cases r with
                    | true =>
                      have HR := Lib.hid (show WaitAt w wc lo hi b L n now now 1 by have := hr.out; simpa using this)
                      clear hr
                      go_wp2
                      go_meet
                      exact ⟨_, _, rfl, rfl, HR.out⟩
                    | false =>
                      have HR := Lib.hid (show WaitAt w wc lo hi b L n now next wait by have := hr.out; simpa using this)
                      clear hr
                      go_wp2
                      go_meet
                      exact ⟨_, _, rfl, rfl, HR.out⟩
                  case rest =>
                    clear hr HA HB HK HSZ HBX HWA HBE
                    obtain ⟨nx, wt, rfl, rfl, hwa⟩ := hcut
                    obtain ⟨w6, rfl⟩ : ∃ w6 : World, w6 = wc := ⟨_, rfl⟩
                    obtain ⟨X, u, hbx, hxo, hwi, hwt, hnx0, hnx1, hbe⟩ := hwa.out
                    clear hce HIE
                    obtain ⟨bL2, oL2, ae2, ce2, heq2, hce, hie⟩ := row_cell HRW.out hbe (k := 0) (by rw [HLEN.out]; omega)
                    simp only [Option.some.injEq, Addr.mk.injEq] at heq2
                    obtain ⟨rfl, rfl, _⟩ := heq2
                    obtain ⟨ne2, hne2⟩ : ∃ ne, (rowAt L 0).length = ne := ⟨_, rfl⟩
                    have hrow0 : rowAt L ((0 : Nat) : Int) = rowAt L 0 := rfl
                    rw [hrow0, hne2] at hce hie
                    rw [Nat.add_zero] at hce
                    have hie2 : ∀ m, IntsAt (w6.drewN m) (fun j => j < w.heap.size) (.slice ae2 ne2 ce2) (rowAt L 0) := fun m => hie
                    obtain ⟨sv, hsv⟩ : ∃ sv, X.sentOf 1 0 = sv := ⟨_, rfl⟩
                    have hcs := fun m => sent_is' (hbx.drewN m) 1 0 hsv
                    have hcl := fun m => last_is (hie2 m)
                    rw [HLV.out] at hcl
                    have hdue := winv_due hwi (now := (now : Int)) (by omega) hct
                    have hpl := winv_plan hwi (now := (now : Int)) (by omega) hct (by rw [HLEN.out]; omega)
                    have HCS := Lib.hid hcs
                    have HCL := Lib.hid hcl
                    have HDUE := Lib.hid hdue
                    have HPL := Lib.hid hpl
                    have HBX := Lib.hid hbx
                    have HXO := Lib.hid hxo
                    have HWT := Lib.hid hwt
                    have HBE := Lib.hid hbe
                    have HSV := Lib.hid hsv
                    have hwt1 := pw_bounds u
                    rw [← hwt] at hwt1
                    have hpwn := pw_next hwi.u0
                    rw [← hwt] at hpwn
                    have HPWN := Lib.hid hpwn
                    obtain ⟨hwt1, hwt2⟩ := hwt1
                    clear hcs hcl hdue hpl hbx hxo hwi hwt hbe hie hie2 hne2 hrow0 hsv hwa hpwn
                    go_wp2
                    go_quiet ((first | exact Calls.quiet_of_same (HCS.out _) | exact Calls.quiet_of_same (HCL.out _)))
                    by_cases hge : lv ≤ sv
                    · go_wp2
                      go_ret
                      exact ⟨rfl, below_drewN HBE.out _⟩
                    · by_cases hdn : nx ≤ (now : Int)
                      all_goals
                        first
                        | (have hdb : decide (nx ≤ (now : Int)) = true := by simpa using hdn)
                        | (have hdb : decide (nx ≤ (now : Int)) = false := by simpa using hdn)
                        have hdue2 := HDUE.out
                        rw [hdb] at hdue2
                        have HDU := Lib.hid hdue2
                        clear hdue2
                        go_wp2_with fail
                        refine (due_is (HBX.out.drewN _) 1 _ HDU.out).mono ?_
                        rintro e w7 ⟨rfl, n7, rfl⟩
                        have hrows := (HL2.out.below HBE.out).weaken (S' := fun j => ¬ (lo ≤ j ∧ j < hi)) (fun j hj => by omega)
                        have HROWS := Lib.hid (show ∀ m, RowsAt (w6.drewN m) (fun j => ¬ (lo ≤ j ∧ j < hi)) _ L from fun m => hrows)
                        clear hrows
                        go_wp2_with fail
                        refine (plan_raw _ lo hi b X (20 * (now : Int)) now _ L (HROWS.out _) (HBX.out.drewN _) HXO.out (by omega)).mono ?_
                        rintro e w7 ⟨uu, rfl, hown, hbx7, hup7⟩
                        have hpl2 := HPL.out
                        have hlen160 := plan_len HXO.out now L
                        have hxo7 := plan_ok HXO.out now L
                        obtain ⟨r, hr⟩ : ∃ r, X.plan now L = r := ⟨_, rfl⟩
                        rw [hr] at hown hbx7 hpl2 hlen160 hxo7
                        obtain ⟨svd, h1, h2, h3, h4, h5⟩ := hpl2
                        have hsnds := sndsS_of_own (l := r.1) (by omega) hown
                        obtain ⟨nl, hnl⟩ : ∃ nl, r.1.length = nl := ⟨_, rfl⟩
                        rw [hnl] at hlen160
                        have HNL := Lib.hid hnl
                        obtain ⟨al, cl, rfl, _, hsc⟩ := hsnds
                        have HSC := Lib.hid hsc
                        have hend : svd = servedB r.1 r.1.length 1 := by rw [Bool.eq_iff_iff, h1, servedB_iff, List.take_of_length_le (Nat.le_refl _)]
                        have hbe7 : Below w.heap.size w w7 := (below_drewN HBE.out _).trans (hup7.below hwlo HBE.out.size)
                        rw [hnl] at hend ⊢
                        have HEND := Lib.hid hend.symm
                        have HBX7 := Lib.hid hbx7
                        have HXO7 := Lib.hid hxo7
                        have HBE7 := Lib.hid hbe7
                        have HW2 := Lib.hid h2
                        have HW3 := Lib.hid h3
                        have HW4 := Lib.hid h4
                        have HW5 := Lib.hid h5
                        clear hown hbx7 hup7 hxo7 hr h1 h2 h3 h4 h5 hsc hnl hend hbe7 HDUE HDU HPL
                        go_wp2
                        go_loop [18, 17] (fun i sv => ∃ j : Nat, j ≤ nl ∧ i = .int .i64 j ∧ sv = .bool (servedB r.1 j 1)) (fun i _ => nl - (intOf i).toNat)
                        case atStart => exact ⟨0, by omega, rfl, rfl⟩
                        case round =>
                          obtain ⟨j, hj, rfl, rfl⟩ := hrel
                          by_cases hjn : j < nl
                          · obtain ⟨bl, ol, rfl, hSb, hcl⟩ := HSC.out (by intro e; have := HNL.out; rw [e] at this; simp at this; omega)
                            obtain ⟨s, hs, p0, _⟩ := hcl j (by rw [HNL.out]; exact hjn)
                            have hsucc := servedB_succ hs 1
                            obtain ⟨sb, hsb⟩ : ∃ sb, servedB r.1 j 1 = sb := ⟨_, rfl⟩
                            rw [hsb] at hsucc ⊢
                            obtain ⟨sp, hsp⟩ : ∃ sp, s.peer = sp := ⟨_, rfl⟩
                            rw [hsp] at hsucc p0
                            have HSUCC := Lib.hid hsucc
                            clear hcl hs hsucc hsb hsp
                            cases sb with
                            | true =>
                              go_wp2
                              go_round
                              case rel => exact ⟨j + 1, by omega, by go_num, by rw [HSUCC.out]; rfl⟩
                              case measure => simp [intOf]; omega
                            | false =>
                              go_wp2
                              go_round
                              case rel => exact ⟨j + 1, by omega, by go_num, by rw [HSUCC.out]; rfl⟩
                              case measure => simp [intOf]; omega
                          · have hjn2 : j = nl := by omega
                            subst hjn2
                            rw [HEND.out]
                            cases svd with
                            | true =>
                              have hdn3 : nx ≤ (now : Int) := HW2.out rfl
                              have hw5 := HW4.out
                              simp only [if_true] at hw5
                              rw [← HWT.out] at hw5
                              have HT := Lib.hid (show WaitAt w w7 lo hi b L n (now + 1) (now + wt) (min (2 * wt) 16) from
                                ⟨_, _, HBX7.out, HXO7.out.mono (by omega), hw5, by rw [← HPWN.out], by omega, by omega, HBE7.out⟩)
                              clear hw5
                              have hmx : ∀ z : Int, z = min (2 * wt) 16 → Value.int .i64 z = Value.int .i64 (min (2 * wt) 16) := fun z hz => by rw [hz]
                              have HMX := Lib.hid hmx
                              clear hmx
                              first
                              | (exfalso; omega)
                              | (by_cases h16 : 16 < 2 * wt
                                 all_goals
                                   go_wp2
                                   all_goals
                                     go_roundw
                                     case rel => exact ⟨now + 1, _, _, by omega, by go_num, rfl, HMX.out _ (by omega), HT.out⟩
                                     case measure => simp [intOf]; omega)
                            | false =>
                              have hw5 := HW4.out
                              simp only [Bool.false_eq_true, if_false] at hw5
                              have HT := Lib.hid (show WaitAt w w7 lo hi b L n (now + 1) nx wt from
                                ⟨_, _, HBX7.out, HXO7.out.mono (by omega), hw5, HWT.out, by omega, by omega, HBE7.out⟩)
                              clear hw5
                              have hsv7 : (r.2).sentOf 1 0 = sv := (HW5.out 1 0).trans HSV.out
                              have HSV7 := Lib.hid hsv7
                              clear hsv7
                              have hsne : nx ≤ (now : Int) → (sv == 0) = false := by
                                intro hh
                                by_cases e : sv = 0
                                · exact absurd (HW3.out hh (by rw [HSV.out]; exact e) (by rw [HLV.out]; omega)) (by simp)
                                · simpa using e
                              first
                              | (have hs0 := hsne hdn
                                 clear hsne
                                 go_wp2_with fail
                                 refine (sent_is HBX7.out 1 0 HSV7.out).mono ?_
                                 rintro e w8 ⟨rfl, rfl⟩
                                 go_wp2
                                 go_roundw
                                 case rel => exact ⟨now + 1, _, _, by omega, by go_num, rfl, rfl, HT.out⟩
                                 case measure => simp [intOf]; omega)
                              | (clear hsne
                                 go_wp2
                                 go_roundw
                                 case rel => exact ⟨now + 1, _, _, by omega, by go_num, rfl, rfl, HT.out⟩
                                 case measure => simp [intOf]; omega)
              · go_wp2
                go_ret
                obtain ⟨X, u, hbx, hxo, hwi, hwt, hnx0, hnx1, hbe⟩ := hwa.out
                exact ⟨rfl, hbe⟩
    · refine (new_none 0 n bud _ hok).mono ?_
      rintro e w2 ⟨rfl, rfl⟩
      clear hok
      go_wp2
      go_ret
      exact ⟨rfl, HBEL1.out⟩
  · by_cases hfew2 : Few L
    · have hf : decide (Few L) = true := by simpa using hfew2
      have HF := Lib.hid hf
      by_cases hr0 : rounds < 0
      · clear hf hfew hfew2
        go_enter Try.func4, Try.ntmps4
        go_wp2_with fail
        refine (small_any _).mono ?_
        rintro e w1 ⟨rfl, hbel1⟩
        have HBEL1 := Lib.hid hbel1
        clear hbel1
        go_wp2_with fail
        refine (few_yes w1 _ _ L (HL2.out.below HBEL1.out) HF.out).mono ?_
        rintro e w2 ⟨rfl, rfl⟩
        go_wp2
        go_ret
        exact ⟨rfl, HBEL1.out⟩
      · have hr0' : decide (rounds < 0) = false := by simpa using hr0
        have hr1 : 200 < rounds := by
          apply Classical.byContradiction
          intro h; exact hfew ⟨hfew2, by omega, by omega⟩
        clear hf hfew hfew2
        go_enter Try.func4, Try.ntmps4
        go_wp2_with fail
        refine (small_any _).mono ?_
        rintro e w1 ⟨rfl, hbel1⟩
        have HBEL1 := Lib.hid hbel1
        clear hbel1
        go_wp2_with fail
        refine (few_yes w1 _ _ L (HL2.out.below HBEL1.out) HF.out).mono ?_
        rintro e w2 ⟨rfl, rfl⟩
        go_wp2
        go_ret
        exact ⟨rfl, HBEL1.out⟩
    · have hf : decide (Few L) = false := by simpa using hfew2
      have HF := Lib.hid hf
      clear hf hfew hfew2
      go_enter Try.func4, Try.ntmps4
      go_wp2_with fail
      refine (small_any _).mono ?_
      rintro e w1 ⟨rfl, hbel1⟩
      have HBEL1 := Lib.hid hbel1
      clear hbel1
      go_wp2_with fail
      refine (few_yes w1 _ _ L (HL2.out.below HBEL1.out) HF.out).mono ?_
      rintro e w2 ⟨rfl, rfl⟩
      go_wp2
      go_ret
      exact ⟨rfl, HBEL1.out⟩
end Go.Proofs.Ythbnnifkoomokaa
