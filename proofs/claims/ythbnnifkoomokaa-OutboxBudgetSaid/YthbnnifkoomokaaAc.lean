/- The walk of OutboxBudget: it returns true and writes nothing that was there. Condition: its slices read as lists of numbers and as a list of acts. -/
import Derived.Test.YthbnnifkoomokaaAb
set_option linter.unusedVariables false
set_option linter.unusedSimpArgs false
namespace Go.Proofs.Ythbnnifkoomokaa
open Go.RowKit Go.Mf

/-- what holds at each act's head -/
def BudAt (w wr : World) (lo hi b g N : Nat) (me bud : Int) (k : Nat) : Prop :=
  ∃ X f, BoxAt wr lo hi b X ∧ X.Ok (20 * (k : Int)) ∧ BInv me (N : Int) bud f X ∧ BoolRow wr g N f ∧ Below w.heap.size w wr

theorem bud_next {w w5 w6 : World} {lo hi b N k : Nat} {me bud : Int} {Y : Bx} {f : Nat → Bool} (hbe : Below w.heap.size w w5) (hwlo : w.heap.size ≤ lo) (hhi : hi < w5.heap.size) (hup : Upd lo hi w5 w6) (hb : BoxAt w6 lo hi b Y) (ok : Y.Ok (20 * ((k : Int) + 1)))
    (hi' : BInv me (N : Int) bud f Y) (row : BoolRow w5 hi N f) : BudAt w w6 lo hi b hi N me bud (k + 1) :=
  ⟨Y, f, hb, by simpa using ok, hi', row.of_heap (hup.block hi hhi (by omega)), hbe.trans (hup.below hwlo hbe.size)⟩

set_option maxHeartbeats 2000000 in
set_option maxRecDepth 100000 in
theorem budget_raw (w : World) (me n bud : Int) (v pv : Value) (L : List (List Int)) (l : List Act) (hL : RowsAt w (fun j => j < w.heap.size) v L) (hl : ActsAt w pv l) (hbud : bud ≤ 9223372036854775807) :
    Calls Try.prog 6 #[.int .i64 me, .int .i64 n, .int .i64 bud, v, pv] w (LawPost w) := by
  obtain ⟨av, cv, rfl, hlen, hrows⟩ := id hL
  obtain ⟨len, hlenv⟩ : ∃ len, L.length = len := ⟨_, rfl⟩
  rw [hlenv] at hlen hL ⊢
  have HL2 := Lib.hid hL
  obtain ⟨al, cl, rfl, hll, hcells⟩ := hl
  obtain ⟨nl, hnl⟩ : ∃ nl, l.length = nl := ⟨_, rfl⟩
  have HNL := Lib.hid hnl
  rw [hnl] at hll ⊢
  have HR := Lib.hid hcells
  have HBUD := Lib.hid hbud
  clear hrows hcells hnl hbud hlenv hL
  go_enter Try.func6, Try.ntmps6
  go_wp2_with fail
  refine (small_any _).mono ?_
  rintro e w1 ⟨rfl, hbel1⟩
  have HBEL1 := Lib.hid hbel1
  clear hbel1
  obtain ⟨ff, hff⟩ : ∃ ff, decide (Few L) = ff := ⟨_, rfl⟩
  have HF := Lib.hid hff
  clear hff
  go_wp2_with fail
  refine (few_yes w1 _ _ L (HL2.out.below HBEL1.out) HF.out).mono ?_
  rintro e w2 ⟨rfl, rfl⟩
  cases ff with
  | false =>
    go_wp2
    go_ret
    exact ⟨rfl, HBEL1.out⟩
  | true =>
    by_cases h60 : 60 < nl
    · have h60' : decide ((60 : Int) < (nl : Int)) = true := by simp; omega
      go_wp2
      go_ret
      exact ⟨rfl, HBEL1.out⟩
    · have h60' : decide ((60 : Int) < (nl : Int)) = false := by simp; omega
      go_wp2_with fail
      by_cases hok : newOk me n
      · refine (new_box me n bud _ hok).mono ?_
        rintro e w3 ⟨b, rfl, hb3, hbel3⟩
        obtain ⟨N, hN⟩ : ∃ N : Nat, n = N := ⟨n.toNat, by have := hok.1; omega⟩
        subst hN
        have hN1 : 1 ≤ N := by have := hok.1; omega
        have hN20 : N ≤ 20 := by have := hok.2.1; omega
        obtain ⟨lo, hlo⟩ : ∃ lo, w1.heap.size = lo := ⟨_, rfl⟩
        obtain ⟨hi, hhi⟩ : ∃ hi, w3.heap.size = hi := ⟨_, rfl⟩
        have hwlo : w.heap.size ≤ lo := by have := HBEL1.out.size; omega
        have hbe3 := HBEL1.out.trans (hbel3.mono (by omega))
        rw [hlo, hhi] at hb3
        have hbe4 := hbe3.alloc hbe3.size (.cells (boolCells N fun _ => false) 4)
        have hg3 : w.heap.size ≤ hi := by have := hbe3.size; omega
        have HST := Lib.hid (show BudAt w (w3.alloc (.cells (boolCells N fun _ => false) 4)) lo hi b hi N me bud 0 from ⟨_, _, hb3.alloc _, (new_ok hok HBUD.out).mono (by omega), binv_new bud, by rw [← hhi]; exact BoolRow.made w3 N, hbe4⟩)
        have HHI := Lib.hid hhi
        have HMK := Lib.hid (fun W => make_bools N hN20 W)
        have hmk := HMK.out
        clear hb3 hbel3 hlo hhi hbe3 hbe4 hok
        go_wp2
        rw [HHI.out]
        clear hmk
        go_loopw [14] (fun i wr => ∃ k : Nat, k ≤ nl ∧ i = .int .i64 k ∧ Hid (BudAt w wr lo hi b hi N me bud k)) (fun i _ => nl - (intOf i).toNat)
        case atStart => exact ⟨0, by omega, rfl, HST.out⟩
        case round =>
          obtain ⟨k, hk, rfl, hst⟩ := hrel
          obtain ⟨w4, rfl⟩ : ∃ w4 : World, w4 = wr := ⟨_, rfl⟩
          obtain ⟨X, f, hbx, hxo, hbi, hrow, hbe⟩ := hst.out
          by_cases hlt : k < nl
          · obtain ⟨ba, oa, rfl, hcells⟩ := HR.out (by intro e; have := HNL.out; rw [e] at this; simp at this; omega)
            obtain ⟨a, ha, p0, p1, p2, p3, p4, pb0, pb1⟩ := hcells k (by have := HNL.out; omega)
            have cb := fun (x : Addr) (u : Value) (h : w.cell? x = some u) => cell_below hbe h
            have q0 := cb _ _ p0
            have q1 := cb _ _ p1
            have q2 := cb _ _ p2
            have q3 := cb _ _ p3
            have q4 := cb _ _ p4
            obtain ⟨ad, ap, al2, an, anow⟩ := a
            dsimp only at q0 q1 q2 q3 q4 pb0 pb1
            have hbw : ba < w4.heap.size := World.block_lt_of_cell? _ _ q0
            have HBX := Lib.hid hbx
            have HXO := Lib.hid hxo
            have HBI := Lib.hid hbi
            have HROW := Lib.hid hrow
            have HBE := Lib.hid hbe
            clear hst hbx hxo hbi hrow hbe hcells ha p0 p1 p2 p3 p4 cb
            go_upto_region 26 with fail
            obtain ⟨d, hd⟩ : ∃ d, bits BinOp.and IntKind.i64 ad 7 = d := ⟨_, rfl⟩
            rw [hd]
            obtain ⟨w5, hw5⟩ : ∃ w5, w4.alloc (.cells #[.int .i64 ad, .int .i64 ap, .int .i64 al2, .int .i64 an, .int .i64 anow] 41) = w5 := ⟨_, rfl⟩
            obtain ⟨gx, hgx⟩ : ∃ gx, w4.heap.size = gx := ⟨_, rfl⟩
            have hbx5 : BoxAt w5 lo hi b X := by rw [← hw5]; exact HBX.out.alloc _
            have hbe5 : Below w.heap.size w w5 := by rw [← hw5]; exact HBE.out.alloc HBE.out.size _
            have hbe45 : Below w4.heap.size w4 w5 := by rw [← hw5]; exact (Below.refl _ _).alloc (Nat.le_refl _) _
            have hrow5 : BoolRow w5 hi N f := HROW.out.of_heap (hbe45.block hi HROW.out.lt)
            have hxb : w5.heap[gx]? = some (.cells #[.int .i64 ad, .int .i64 ap, .int .i64 al2, .int .i64 an, .int .i64 anow] 41) := by rw [← hw5, ← hgx]; exact heap_alloc_new w4 _
            have hx1 : w5.cell? ⟨gx, 1, none⟩ = some (.int .i64 ap) := by rw [cell_of_block hxb]; rfl
            have hx2 : w5.cell? ⟨gx, 2, none⟩ = some (.int .i64 al2) := by rw [cell_of_block hxb]; rfl
            have hx3 : w5.cell? ⟨gx, 3, none⟩ = some (.int .i64 an) := by rw [cell_of_block hxb]; rfl
            have hx4 : w5.cell? ⟨gx, 4, none⟩ = some (.int .i64 anow) := by rw [cell_of_block hxb]; rfl
            have hhi4 : hi < w4.heap.size := HROW.out.lt
            have hhi5 : hi < w5.heap.size := hrow5.lt
            have hgx5 : gx < w5.heap.size := by have := World.block_lt_of_cell? _ _ hx1; exact this
            have hgxhi : hi < gx := by omega
            have HBX5 := Lib.hid hbx5
            have HBE5 := Lib.hid hbe5
            have HROW5 := Lib.hid hrow5
            rw [hw5, hgx]
            clear hbx5 hbe5 hbe45 hrow5 hxb hw5 hd hgx q0 q1 q2 q3 q4
            by_cases d4 : d = 4
            · have d4' : (d == 4) = true := by simpa using d4
              clear d4
              go_wp2_with fail
              refine (ack_is HBX5.out ap al2 an anow rfl).mono ?_
              rintro e w6 ⟨rfl, hbx6, hup6⟩
              have HB6 := Lib.hid hbx6
              have HU6 := Lib.hid hup6
              clear hbx6 hup6
              go_wp2
              go_roundw
              case rel => exact ⟨k + 1, by omega, by go_num, bud_next HBE5.out hwlo hhi5 HU6.out HB6.out ((ack_ok HXO.out (by omega) ap al2 an anow).mono (by omega)) (binv_ack HBI.out ap al2 an anow) HROW5.out⟩
              case measure => simp [intOf]; omega
            · have d4' : (d == 4) = false := by simpa using d4
              clear d4
              by_cases d5 : d = 5
              · have d5' : (d == 5) = true := by simpa using d5
                clear d5
                go_wp2_with fail
                refine (ack_is HBX5.out ap al2 an anow rfl).mono ?_
                rintro e w6 ⟨rfl, hbx6, hup6⟩
                have HB6 := Lib.hid hbx6
                have HU6 := Lib.hid hup6
                clear hbx6 hup6
                go_wp2
                go_roundw
                case rel => exact ⟨k + 1, by omega, by go_num, bud_next HBE5.out hwlo hhi5 HU6.out HB6.out ((ack_ok HXO.out (by omega) ap al2 an anow).mono (by omega)) (binv_ack HBI.out ap al2 an anow) HROW5.out⟩
                case measure => simp [intOf]; omega
              · have d5' : (d == 5) = false := by simpa using d5
                clear d5
                by_cases d6 : d = 6
                · have d6' : (d == 6) = true := by simpa using d6
                  clear d6
                  go_wp2_with fail
                  refine (give_any HBX5.out ap).mono ?_
                  rintro e w6 ⟨rfl, hbx6, hup6⟩
                  have hx1' := cell_upd hup6 (a := ⟨gx, 1, none⟩) (by show ¬ (lo ≤ gx ∧ gx < hi); omega) hx1
                  have hrow6 : BoolRow w6 hi N f := HROW5.out.of_heap (hup6.block hi hhi5 (by omega))
                  have HR6 := Lib.hid hrow6
                  have HB6 := Lib.hid hbx6
                  have HU6 := Lib.hid hup6
                  have hnext := bud_next (k := k) HBE5.out hwlo hhi5 hup6 hbx6 ((give_ok HXO.out ap).mono (by omega)) (binv_give HBI.out ap) HROW5.out
                  have HNX := Lib.hid hnext
                  clear hbx6 hup6 hrow6 hnext
                  by_cases r0 : 0 ≤ ap
                  · have r0' : decide (0 ≤ ap) = true := by simpa using r0
                    by_cases r1 : ap < N
                    · have r1' : decide (ap < (N : Int)) = true := by simpa using r1
                      obtain ⟨q, hq⟩ : ∃ q : Nat, ap = q := ⟨ap.toNat, by omega⟩
                      subst hq
                      have hqN : q < N := by omega
                      have hqN' : decide (q < N) = true := by simpa using hqN
                      have hcell := HR6.out.cell hqN
                      have hfz := HR6.out.frozen q
                      go_wp2
                      go_roundw
                      case rel =>
                        refine ⟨k + 1, by omega, by go_num, _, _, ?_, ?_, binv_gone (binv_give HBI.out (q : Int)), HR6.out.set q true, ?_⟩
                        · exact HB6.out.of_heap (fun j _ h2 => Below.heap_setCell _ _ _ _ (by show j ≠ hi; omega)) (by simp)
                        · exact (give_ok HXO.out (q : Int)).mono (by omega)
                        · exact (HBE5.out.trans (HU6.out.below hwlo HBE5.out.size)).setCell (by show w.heap.size ≤ hi; exact hg3) _
                      case measure => simp [intOf]; omega
                    · have r1' : decide (ap < (N : Int)) = false := by simpa using r1
                      go_wp2
                      go_roundw
                      case rel => exact ⟨k + 1, by omega, by go_num, HNX.out⟩
                      case measure => simp [intOf]; omega
                  · have r0' : decide (0 ≤ ap) = false := by simpa using r0
                    go_wp2
                    go_roundw
                    case rel => exact ⟨k + 1, by omega, by go_num, HNX.out⟩
                    case measure => simp [intOf]; omega
                · have d6' : (d == 6) = false := by simpa using d6
                  clear d6
                  by_cases d7 : d = 7
                  · have d7' : (d == 7) = true := by simpa using d7
                    clear d7
                    go_wp2
                    go_roundw
                    case rel => exact ⟨k + 1, by omega, by go_num, bud_next HBE5.out hwlo hhi5 (Upd.refl _ _ _) HBX5.out (HXO.out.mono (by omega)) HBI.out HROW5.out⟩
                    case measure => simp [intOf]; omega
                  · have d7' : (d == 7) = false := by simpa using d7
                    clear d7
                    obtain ⟨g2, hg2⟩ : ∃ g2, w5.heap.size = g2 := ⟨_, rfl⟩
                    have HG2 := Lib.hid hg2
                    have hmk := HMK.out
                    have hhig2 : hi < g2 := by omega
                    have hgxg2 : gx < g2 := by omega
                    have hwg2 : w.heap.size ≤ g2 := by omega
                    have HD0 := Lib.hid (show BoolRow (w5.alloc (.cells (boolCells N fun _ => false) 4)) g2 N (fun q => if q < 0 then X.due q anow else false) ∧ Below g2 w5 (w5.alloc (.cells (boolCells N fun _ => false) 4)) ∧ g2 < (w5.alloc (.cells (boolCells N fun _ => false) 4)).heap.size from
                      ⟨by rw [← hg2]; exact (BoolRow.made w5 N).congr (fun p hp => by simp), (Below.refl _ _).alloc (by omega) _, by simp; omega⟩)
                    go_wp2
                    clear hmk hg2 hgx5 hhi5
                    go_loopw [17] (fun i wx => ∃ p : Nat, p ≤ N ∧ i = .int .i64 p ∧ Hid (BoolRow wx g2 N (fun q => if q < p then X.due q anow else false) ∧ Below g2 w5 wx ∧ g2 < wx.heap.size)) (fun i _ => N - (intOf i).toNat)
                    case atStart => exact ⟨0, by omega, rfl, HD0.out⟩
                    case round =>
                      obtain ⟨p, hp, rfl, hds⟩ := hrel
                      obtain ⟨w6, rfl⟩ : ∃ w6 : World, w6 = wr := ⟨_, rfl⟩
                      obtain ⟨hrd, hb56, hsz6⟩ := hds.out
                      have hx4' : w6.cell? ⟨gx, 4, none⟩ = some (.int .i64 anow) := cell_below (by rw [HG2.out]; exact hb56) hx4
                      have hbx6 := HBX5.out.below hb56 (by omega)
                      by_cases hpN : p < N
                      · obtain ⟨dv, hdv⟩ : ∃ dv, X.due p anow = dv := ⟨_, rfl⟩
                        have hcell := hrd.cell hpN
                        have hfz := hrd.frozen p
                        have hnew : BoolRow (w6.setCell ⟨g2, p, none⟩ (.bool dv)) g2 N (fun q => if q < p + 1 then X.due q anow else false) := (hrd.set p dv).congr (fun q hq => by
                          by_cases e : q = p
                          · subst e; simp [hdv]
                          · have : (q < p) ↔ (q < p + 1) := by omega
                            simp [e, this])
                        have HNEW := Lib.hid hnew
                        have HB56 := Lib.hid hb56
                        have hdue := due_is hbx6 (p : Int) anow hdv
                        have HDUE := Lib.hid hdue
                        rw [if_neg (by omega)] at hcell
                        clear hds hrd hb56 hbx6 hnew hdue hdv
                        go_wp2_with fail
                        refine HDUE.out.mono ?_
                        rintro e w7 ⟨rfl, q, rfl⟩
                        go_wp2
                        go_roundw
                        case rel => exact ⟨p + 1, by omega, by go_num, HNEW.out.of_heap rfl, (below_drewN HB56.out q).setCell (by show g2 ≤ g2; omega) _, by simpa using hsz6⟩
                        case measure => simp [intOf]; omega
                      · have hrow6 : BoolRow w6 g2 N (fun q => X.due q anow) := hrd.congr (fun q hq => by rw [if_pos (by omega)])
                        have hbeW : Below w.heap.size w w6 := HBE5.out.trans (hb56.mono (by omega))
                        have hrows6 := (HL2.out.below hbeW).weaken (S' := fun j => ¬ (lo ≤ j ∧ j < hi)) (fun j hj => by omega)
                        have HROW6 := Lib.hid hrow6
                        have HBEW := Lib.hid hbeW
                        have HROWS6 := Lib.hid hrows6
                        have HBX6 := Lib.hid hbx6
                        have HB56 := Lib.hid hb56
                        clear hds hrd hb56 hbx6 hrow6 hbeW hrows6
                        go_wp2_with fail
                        refine (plan_raw w6 lo hi b X (20 * k) anow _ L HROWS6.out HBX6.out HXO.out (by omega)).mono ?_
                        rintro e w7 ⟨u, rfl, hown, hbx7, hup7⟩
                        have hbp := bplan HBI.out (by omega) HXO.out anow L
                        have hbi7 := binv_plan HBI.out (by omega) anow L
                        have hok7 := plan_ok HXO.out anow L
                        have hlen7 := plan_len HXO.out anow L
                        have hsn := sndsS_of_own (by omega) hown
                        obtain ⟨Y, hY⟩ : ∃ Y, (X.plan anow L).2 = Y := ⟨_, rfl⟩
                        obtain ⟨pl, hpl⟩ : ∃ pl, (X.plan anow L).1 = pl := ⟨_, rfl⟩
                        rw [hY] at hbx7 hbp hbi7 hok7
                        rw [hpl] at hown hbp hlen7 hsn
                        have hbe7 : Below w.heap.size w w7 := HBEW.out.trans (hup7.below hwlo HBEW.out.size)
                        have hrows7 := HL2.out.below hbe7
                        have hx47 : w7.cell? ⟨gx, 4, none⟩ = some (.int .i64 anow) := cell_upd hup7 (by show ¬ (lo ≤ gx ∧ gx < hi); omega) hx4'
                        have hrow7 : BoolRow w7 g2 N (fun q => X.due q anow) := HROW6.out.of_heap (hup7.block g2 HROW6.out.lt (by omega))
                        have hgone7 : BoolRow w7 hi N f := (HROW5.out.of_heap (HB56.out.block hi hhig2)).of_heap (hup7.block hi (by have := HROW6.out.lt; omega) (by omega))
                        have hup57 : Upd lo hi w5 w7 := (Upd.of_below HB56.out (by have := HG2.out; omega) lo hi).trans hup7
                        obtain ⟨np, hnp⟩ : ∃ np, pl.length = np := ⟨_, rfl⟩
                        have hsn2 := hsn
                        obtain ⟨ap2, cp2, rfl, _, hsc⟩ := hsn
                        rw [hnp] at hsn2 hlen7 ⊢
                        have HSN := Lib.hid hsn2
                        have HSC := Lib.hid hsc
                        have HNP := Lib.hid hnp
                        have HBP := Lib.hid hbp
                        have HBI7 := Lib.hid hbi7
                        have HOK7 := Lib.hid hok7
                        have HBX7 := Lib.hid hbx7
                        have HBE7 := Lib.hid hbe7
                        have HROWS7 := Lib.hid hrows7
                        have HX7 := Lib.hid hx47
                        have HROW7 := Lib.hid hrow7
                        have HGONE7 := Lib.hid hgone7
                        have HUP57 := Lib.hid hup57
                        clear hown hbx7 hup7 hbp hbi7 hok7 hsc hsn2 hbe7 hrows7 hx47 hrow7 hgone7 hup57 hY hpl hnp hx4'
                        go_wp2_with fail
                        refine (within_yes w7 lo hi b Y me bud _ _ L pl _ _ HROWS7.out HSN.out HBX7.out HBP.out.ok HBUD.out).mono ?_
                        rintro e w8 ⟨rfl, hbe78⟩
                        have HB78 := Lib.hid hbe78
                        clear hbe78
                        go_wp2
                        go_loopw [19] (fun i wx => ∃ j : Nat, j ≤ np ∧ i = .int .i64 j ∧ ∃ q, wx = w8.drewN q) (fun i _ => np - (intOf i).toNat)
                        case atStart => exact ⟨0, by omega, rfl, 0, rfl⟩
                        case round =>
                          obtain ⟨j, hj, rfl, q, rfl⟩ := hrel
                          by_cases hjn : j < np
                          · obtain ⟨bl, ol, rfl, _, hcl⟩ := HSC.out (by intro e; have := HNP.out; rw [e] at this; simp at this; omega)
                            obtain ⟨s, hs, t0, _⟩ := hcl j (by rw [HNP.out]; exact hjn)
                            obtain ⟨e1, e2, e3, e4, e5⟩ := HBP.out.each s (List.mem_of_getElem? hs)
                            have t0' := cell_below HB78.out t0
                            have hx48 := cell_below HB78.out HX7.out
                            have hrow8 : BoolRow w8 g2 N (fun q => X.due q anow) := HROW7.out.of_heap (HB78.out.block g2 HROW7.out.lt)
                            have hgone8 : BoolRow w8 hi N f := HGONE7.out.of_heap (HB78.out.block hi HGONE7.out.lt)
                            have hbx8 := HBX7.out.below HB78.out HBX7.out.top
                            obtain ⟨sp, sl, ss, sc⟩ := s
                            dsimp only at e1 e2 e3 e4 e5 t0'
                            obtain ⟨P, hP⟩ : ∃ P : Nat, sp = P := ⟨sp.toNat, by omega⟩
                            subst hP
                            have hPN : P < N := by omega
                            have hc1 := hrow8.cell hPN
                            have hc2 := hgone8.cell hPN
                            rw [e3] at hc1
                            rw [show f P = false from e4] at hc2
                            obtain ⟨w9, h9⟩ : ∃ w9, w8.drewN q = w9 := ⟨_, rfl⟩
                            have hdue := fun m => due_is (w := w9.drewN m) (lo := lo) (hi := hi) (by rw [← h9]; exact (hbx8.drewN q).drewN m) (P : Int) anow e5
                            have t9 : w9.cell? ⟨bl, ol + j * 4, none⟩ = some (.int .i64 (P : Int)) := by rw [← h9]; exact t0'
                            have hx49 : w9.cell? ⟨gx, 4, none⟩ = some (.int .i64 anow) := by rw [← h9]; exact hx48
                            have hc19 : w9.cell? ⟨g2, P, none⟩ = some (.bool true) := by rw [← h9]; exact hc1
                            have hc29 : w9.cell? ⟨hi, P, none⟩ = some (.bool false) := by rw [← h9]; exact hc2
                            have H9 := Lib.hid h9
                            rw [h9]
                            have HDUE := Lib.hid hdue
                            have hb1 : bl < w9.heap.size := World.block_lt_of_cell? _ _ t9
                            have hb2 : gx < w9.heap.size := World.block_lt_of_cell? _ _ hx49
                            have hb3 : hi < w9.heap.size := World.block_lt_of_cell? _ _ hc29
                            have hb4 : g2 < w9.heap.size := World.block_lt_of_cell? _ _ hc19
                            clear hcl hs t0 e3 e4 e5 hrow8 hgone8 hbx8 hdue h9 t0' hx48 hc1 hc2
                            go_wp2
                            go_quiet (exact Calls.quiet_of (HDUE.out _))
                            go_wp2
                            go_roundw
                            case rel => exact ⟨j + 1, by omega, by go_num, q + nq, by rw [← H9.out]; simp⟩
                            case measure => simp [intOf]; omega
                          · have hnext := bud_next (k := k) HBE5.out hwlo (by have := HG2.out; omega) (HUP57.out.trans (Upd.of_below HB78.out (Nat.le_refl _) lo hi)) (HBX7.out.below HB78.out HBX7.out.top) (HOK7.out.mono (by omega)) HBI7.out HROW5.out
                            obtain ⟨X9, f9, n1, n2, n3, n4, n5⟩ := hnext
                            have HNX := Lib.hid (show BudAt w (w8.drewN q) lo hi b hi N me bud (k + 1) from ⟨X9, f9, n1.drewN q, n2, n3, n4.of_heap rfl, below_drewN n5 q⟩)
                            clear n1 n2 n3 n4 n5
                            go_wp2
                            go_roundw
                            case rel => exact ⟨k + 1, by omega, by go_num, HNX.out⟩
                            case measure => simp [intOf]; omega
          · have hme := binv_me hbi 0
            have hd := due_is hbx me 0 hme
            have HD := Lib.hid hd
            have HBE := Lib.hid hbe
            clear hbx hxo hbi hrow hd hme hbe hst
            go_wp2_with fail
            refine HD.out.mono ?_
            rintro e w5 ⟨rfl, q, rfl⟩
            go_wp2
            go_ret
            exact ⟨rfl, below_drewN HBE.out q⟩
      · refine (new_none me n bud w1 hok).mono ?_
        rintro e w3 ⟨rfl, rfl⟩
        go_wp2
        go_ret
        exact ⟨rfl, HBEL1.out⟩
end Go.Proofs.Ythbnnifkoomokaa
