/- The walk of OutboxMoves: it returns true and writes nothing that was there. Condition: its slice reads as a list of acts. -/
import Derived.Test.YthbnnifkoomokaaQ
set_option linter.unusedVariables false
set_option linter.unusedSimpArgs false
namespace Go.Proofs.Ythbnnifkoomokaa
open Go.RowKit Go.Mf

def LawPost (w : World) : Ending → World → Prop := fun e w' => e = .returned (.bool true) ∧ Below w.heap.size w w'

set_option maxHeartbeats 2000000 in
set_option maxRecDepth 100000 in
theorem moves_raw (w : World) (me n : Int) (v : Value) (l : List Act) (hl : ActsAt w v l) :
    Calls Try.prog 5 #[.int .i64 me, .int .i64 n, v] w (LawPost w) := by
  obtain ⟨av, cv, rfl, hlen, hrows⟩ := hl
  have HR := Lib.hid hrows
  clear hrows
  obtain ⟨len, hlenv⟩ : ∃ len, l.length = len := ⟨_, rfl⟩
  have HLEN := Lib.hid hlenv
  rw [hlenv] at hlen ⊢
  clear hlenv
  by_cases hok : newOk me n
  · go_enter Try.func5, Try.ntmps5
    go_wp2_with fail
    refine (small_any _).mono ?_
    rintro e w1 ⟨rfl, hbel1⟩
    have HBEL1 := Lib.hid hbel1
    clear hbel1
    go_wp2_with fail
    refine (new_box me n 0 _ hok).mono ?_
    rintro e w2 ⟨b, rfl, hb2, hbel2⟩
    obtain ⟨lo, hlo⟩ : ∃ lo, w1.heap.size = lo := ⟨_, rfl⟩
    obtain ⟨hi, hhi⟩ : ∃ hi, w2.heap.size = hi := ⟨_, rfl⟩
    have hwlo : w.heap.size ≤ lo := by have := HBEL1.out.size; omega
    rw [hlo, hhi] at hb2
    have HB2 := Lib.hid hb2
    have HBEL2 := Lib.hid (HBEL1.out.trans (hbel2.mono (by omega)))
    have HHI := Lib.hid hhi
    clear hb2 hbel2 hlo hhi HBEL1
    have HOK := Lib.hid hok
    clear hok
    by_cases h60 : 60 < len
    · have h60' : decide ((60 : Int) < (len : Int)) = true := by simp; omega
      go_wp2
      go_ret
      exact ⟨rfl, HBEL2.out⟩
    · have h60' : decide ((60 : Int) < (len : Int)) = false := by simp; omega
      go_wp2
      go_loopw [9] (fun i wr => ∃ k : Nat, k ≤ len ∧ i = .int .i64 k ∧ Hid (BoxAt wr lo hi b (acksTo (Bx.new me n 0) l k) ∧ Below w.heap.size w wr)) (fun i _ => len - (intOf i).toNat)
      case atStart => exact ⟨0, by omega, rfl, HB2.out, HBEL2.out⟩
      case round =>
        obtain ⟨k, hk, rfl, hst⟩ := hrel
        by_cases hlt : k < len
        · obtain ⟨ba, oa, rfl, hcells⟩ := HR.out (by intro e; have := HLEN.out; rw [e] at this; simp at this; omega)
          obtain ⟨a, ha, p0, p1, p2, p3, p4, pb0, pb1⟩ := hcells k (by have := HLEN.out; omega)
          have cb := fun (x : Addr) (u : Value) (h : w.cell? x = some u) => cell_below hst.out.2 h
          have q0 := cb _ _ p0
          have q1 := cb _ _ p1
          have q2 := cb _ _ p2
          have q3 := cb _ _ p3
          have q4 := cb _ _ p4
          have HCE := Lib.hid hcells
          have HA := Lib.hid ha
          obtain ⟨ad, ap, al, an, anow⟩ := a
          dsimp only at q0 q1 q2 q3 q4 pb0 pb1
          have hbw : ba < wr.heap.size := World.block_lt_of_cell? _ _ q0
          clear hcells ha p0 p1 p2 p3 p4 cb
          go_wp2
          go_loopw [12, 11] (fun i bv wx => ∃ j : Nat, j ≤ k ∧ i = .int .i64 j ∧ bv = .int .i64 (bestOf l j ap al) ∧ Hid (∃ q, wx = (wr.alloc (.cells #[.int .i64 ad, .int .i64 ap, .int .i64 al, .int .i64 an, .int .i64 anow] 41)).drewN q)) (fun i _ _ => k - (intOf i).toNat)
          case atStart => exact ⟨0, by omega, rfl, rfl, 0, rfl⟩
          case round =>
            obtain ⟨j, hj, rfl, rfl, hq⟩ := hrel
            obtain ⟨q, rfl⟩ := hq.out
            clear hq
            by_cases hjk : j < k
            · obtain ⟨a', ha', r0, r1, r2, r3, r4, rb0, rb1⟩ := HCE.out j (by have := HLEN.out; omega)
              have cb := fun (x : Addr) (u : Value) (h : w.cell? x = some u) => cell_below hst.out.2 h
              have r1 := cb _ _ r1
              have r2 := cb _ _ r2
              have r3 := cb _ _ r3
              have hbs := bestOf_succ ha' ap al
              obtain ⟨ad', ap', al', an', anow'⟩ := a'
              dsimp only at r1 r2 r3
              obtain ⟨B, hB⟩ : ∃ B, bestOf l j ap al = B := ⟨_, rfl⟩
              rw [hB] at hbs ⊢
              have HBS := Lib.hid hbs
              clear hbs ha' r0 r4 cb hB
              by_cases e1 : ap' = ap
              · have e1' : (ap' == ap) = true := by simpa using e1
                have E1 := Lib.hid e1
                clear e1
                by_cases e2 : al' = al
                · have e2' : (al' == al) = true := by simpa using e2
                  have hv : bstep ap al B ⟨ad', ap', al', an', anow'⟩ = max B an' := by unfold bstep; rw [if_pos ⟨E1.out, e2⟩]
                  have HV := Lib.hid hv
                  clear e2 hv
                  go_wp2
                  go_quiet (fail)
                  go_wp2
                  all_goals
                    go_roundw
                    case rel => exact ⟨j + 1, by omega, by go_num, by rw [HBS.out, HV.out]; exact int_eq (by split <;> omega), q + nq, by simp⟩
                    case measure => simp [intOf]; omega
                · have e2' : (al' == al) = false := by simpa using e2
                  have hv : bstep ap al B ⟨ad', ap', al', an', anow'⟩ = B := by unfold bstep; rw [if_neg (fun h => e2 h.2)]
                  have HV := Lib.hid hv
                  clear e2 hv
                  go_wp2
                  go_quiet (fail)
                  go_wp2
                  go_roundw
                  case rel => exact ⟨j + 1, by omega, by go_num, by rw [HBS.out, HV.out], q + nq, by simp⟩
                  case measure => simp [intOf]; omega
              · have e1' : (ap' == ap) = false := by simpa using e1
                have hv : bstep ap al B ⟨ad', ap', al', an', anow'⟩ = B := by unfold bstep; rw [if_neg (fun h => e1 h.1)]
                have HV := Lib.hid hv
                clear e1 hv
                go_wp2
                go_quiet (fail)
                go_wp2
                go_roundw
                case rel => exact ⟨j + 1, by omega, by go_num, by rw [HBS.out, HV.out], q + nq, by simp⟩
                case measure => simp [intOf]; omega
            · have hjk2 : j = k := by omega
              subst hjk2
              obtain ⟨B, hB⟩ : ∃ B, bestOf l j ap al = B := ⟨_, rfl⟩
              rw [hB]
              have HB := Lib.hid hB
              clear hB hjk hj
              go_upto_region 15 with fail
              go_cut [13] (fun s13 wx => s13 = .bool (okP me n ap al) ∧ wx = (wr.alloc (.cells #[.int .i64 ad, .int .i64 ap, .int .i64 al, .int .i64 an, .int .i64 anow] 41)).drewN q)
              case first =>
                by_cases d0 : 0 ≤ ap
                · have d0' : decide (0 ≤ ap) = true := by simpa using d0
                  clear d0
                  by_cases d1 : ap < n
                  · have d1' : decide (ap < n) = true := by simpa using d1
                    clear d1
                    by_cases d2 : ap ≠ me
                    · have d2' : (ap != me) = true := by simpa using d2
                      clear d2
                      by_cases d3 : 0 ≤ al
                      · have d3' : decide (0 ≤ al) = true := by simpa using d3
                        clear d3
                        by_cases d4 : al < n
                        · have d4' : decide (al < n) = true := by simpa using d4
                          clear d4
                          by_cases d5 : al ≠ ap
                          · have d5' : (al != ap) = true := by simpa using d5
                            clear d5
                            have hv : okP me n ap al = true := by simp only [okP, d0', d1', d2', d3', d4', d5']; rfl
                            have HV := Lib.hid hv
                            clear hv
                            go_wp2
                            go_meet
                            exact ⟨by rw [HV.out], rfl⟩
                          · have d5' : (al != ap) = false := by simpa using d5
                            clear d5
                            have hv : okP me n ap al = false := by simp [okP, d5']
                            have HV := Lib.hid hv
                            clear hv
                            go_wp2
                            go_meet
                            exact ⟨by rw [HV.out], rfl⟩
                        · have d4' : decide (al < n) = false := by simpa using d4
                          clear d4
                          have hv : okP me n ap al = false := by simp [okP, d4']
                          have HV := Lib.hid hv
                          clear hv
                          go_wp2
                          go_meet
                          exact ⟨by rw [HV.out], rfl⟩
                      · have d3' : decide (0 ≤ al) = false := by simpa using d3
                        clear d3
                        have hv : okP me n ap al = false := by simp [okP, d3']
                        have HV := Lib.hid hv
                        clear hv
                        go_wp2
                        go_meet
                        exact ⟨by rw [HV.out], rfl⟩
                    · have d2' : (ap != me) = false := by simpa using d2
                      clear d2
                      have hv : okP me n ap al = false := by simp [okP, d2']
                      have HV := Lib.hid hv
                      clear hv
                      go_wp2
                      go_meet
                      exact ⟨by rw [HV.out], rfl⟩
                  · have d1' : decide (ap < n) = false := by simpa using d1
                    clear d1
                    have hv : okP me n ap al = false := by simp [okP, d1']
                    have HV := Lib.hid hv
                    clear hv
                    go_wp2
                    go_meet
                    exact ⟨by rw [HV.out], rfl⟩
                · have d0' : decide (0 ≤ ap) = false := by simpa using d0
                  clear d0
                  have hv : okP me n ap al = false := by simp [okP, d0']
                  have HV := Lib.hid hv
                  clear hv
                  go_wp2
                  go_meet
                  exact ⟨by rw [HV.out], rfl⟩
              case rest =>
                obtain ⟨rfl, rfl⟩ := hcut
                have hinv := minv_to (minv_new l HOK.out 0) j (by have := HLEN.out; omega)
                have hbx := (hst.out.1.alloc (.cells #[.int .i64 ad, .int .i64 ap, .int .i64 al, .int .i64 an, .int .i64 anow] 41)).drewN q
                have hbe := below_drewN (hst.out.2.alloc hst.out.2.size (.cells #[.int .i64 ad, .int .i64 ap, .int .i64 al, .int .i64 an, .int .i64 anow] 41)) q
                have hsucc : acksTo (Bx.new me n 0) l (j + 1) = (acksTo (Bx.new me n 0) l j).ack ap al an anow := by simp [acksTo, HA.out]
                have hsent := hinv.sent ap al
                have hack := hinv.ackOk ap al an
                rw [HB.out] at hsent hack
                have HSU := Lib.hid hsucc
                have HBX := Lib.hid hbx
                have HBE := Lib.hid hbe
                clear hinv hbx hbe hsucc
                have hsz : wr.heap.size < ((wr.alloc (.cells #[.int .i64 ad, .int .i64 ap, .int .i64 al, .int .i64 an, .int .i64 anow] 41)).drewN q).heap.size := by simp [World.drewN]
                by_cases ho : okP me n ap al = true
                · rw [if_pos ho] at hsent
                  rw [ho, Bool.true_and] at hack
                  have HS := Lib.hid hsent
                  by_cases hBn : B < an
                  all_goals
                    first
                    | (have hBn' : decide (B < an) = true := by simpa using hBn)
                    | (have hBn' : decide (B < an) = false := by simpa using hBn)
                    rw [hBn'] at hack
                    have HK := Lib.hid hack
                    clear hsent hack
                    go_wp2_with fail
                    refine (sent_is HBX.out ap al HS.out).mono ?_
                    rintro e w3 ⟨rfl, rfl⟩
                    go_wp2_with fail
                    refine (ack_is HBX.out ap al an anow HK.out).mono ?_
                    rintro e w4 ⟨rfl, hb4, hu4⟩
                    have htp := hst.out.1.top
                    have h34 : w4.cell? ⟨wr.heap.size, 3, none⟩ = some (.int .i64 an) := cell_upd hu4 (by dsimp only; omega) (cell_of_block (b := wr.heap.size) (heap_alloc_new wr _) 3)
                    have hbe4 : Below w.heap.size w w4 := HBE.out.trans (hu4.below hwlo HBE.out.size)
                    have HB4 := Lib.hid hb4
                    have HBE4 := Lib.hid hbe4
                    clear hb4 hu4 htp hbe4
                    go_wp2
                    go_roundw
                    case rel => exact ⟨j + 1, by omega, by go_num, by rw [HSU.out]; exact HB4.out, HBE4.out⟩
                    case measure => simp [intOf]; omega
                · have ho' : okP me n ap al = false := by simpa using ho
                  rw [if_neg ho] at hsent
                  rw [ho', Bool.false_and] at hack
                  have HS := Lib.hid hsent
                  have HK := Lib.hid hack
                  clear hsent hack ho
                  go_wp2_with fail
                  refine (sent_is HBX.out ap al HS.out).mono ?_
                  rintro e w3 ⟨rfl, rfl⟩
                  go_wp2_with fail
                  refine (ack_is HBX.out ap al an anow HK.out).mono ?_
                  rintro e w4 ⟨rfl, hb4, hu4⟩
                  have htp := hst.out.1.top
                  have h34 : w4.cell? ⟨wr.heap.size, 3, none⟩ = some (.int .i64 an) := cell_upd hu4 (by dsimp only; omega) (cell_of_block (b := wr.heap.size) (heap_alloc_new wr _) 3)
                  have hbe4 : Below w.heap.size w w4 := HBE.out.trans (hu4.below hwlo HBE.out.size)
                  have HB4 := Lib.hid hb4
                  have HBE4 := Lib.hid hbe4
                  clear hb4 hu4 htp hbe4
                  go_wp2
                  go_roundw
                  case rel => exact ⟨j + 1, by omega, by go_num, by rw [HSU.out]; exact HB4.out, HBE4.out⟩
                  case measure => simp [intOf]; omega
        · go_wp2
          go_ret
          exact ⟨rfl, hst.out.2⟩
  · go_enter Try.func5, Try.ntmps5
    go_wp2_with fail
    refine (small_any _).mono ?_
    rintro e w1 ⟨rfl, hbel1⟩
    go_wp2_with fail
    refine (new_none me n 0 _ hok).mono ?_
    rintro e w2 ⟨rfl, rfl⟩
    have HBEL1 := Lib.hid hbel1
    clear hbel1 hok
    go_wp2
    go_ret
    exact ⟨rfl, HBEL1.out⟩
end Go.Proofs.Ythbnnifkoomokaa
