/- The contract of Box.Plan on a box that lies in memory as BoxAt says. -/
import Derived.Test.YthbnnifkoomokaaJ
set_option linter.unusedVariables false
set_option linter.unusedSimpArgs false
namespace Go.Proofs.Ythbnnifkoomokaa
open Go.RowKit Go.Mf

set_option maxHeartbeats 1000000 in
set_option maxRecDepth 100000 in
theorem plan_raw (w : World) (lo hi b : Nat) (X : Bx) (N : Int) (now : Int) (v : Value) (L : List (List Int)) (hL : RowsAt w (fun j => ¬ (lo ≤ j ∧ j < hi)) v L)
    (hbx : BoxAt w lo hi b X) (ok : X.Ok N) (hN : N ≤ 1000000000) :
    Calls Try.prog 12 #[.pointer (some ⟨b,0,none⟩), .int .i64 now, v] w (PlanPost w lo hi b (X.plan now L)) := by
  have HL := Lib.hid hL
  have HX := Lib.hid hbx
  have HOK := Lib.hid ok
  obtain ⟨t, ht⟩ : ∃ t, clamp now 0 1099511627776 = t := ⟨_, rfl⟩
  have htb := clamp_bounds now
  have hplan : X.plan now L = planTo X t L X.n.toNat := by unfold Bx.plan; rw [ht]
  have HPL := Lib.hid hplan
  have htime := fun W => time_any now W
  rw [ht] at htb htime
  have HTM := Lib.hid htime
  obtain ⟨htb0, htb1⟩ := htb
  obtain ⟨n, hn⟩ : ∃ n, X.n = n := ⟨_, rfl⟩
  have HN' := Lib.hid hn
  have c1 : w.cell? ⟨b,1,none⟩ = some (.int .i64 n) := by obtain ⟨bp, bs, pb, h⟩ := hbx; rw [cell_of_block h.hb]; simp [hn]
  have hn1 := ok.n1
  have hn2 := ok.n2
  rw [hn] at hn1 hn2
  have hbw := (hbx.lohi)
  have htop := hbx.top
  clear hL hbx ok ht hplan htime hn
  obtain ⟨i0, hi34, hz0, hz1, hz2⟩ := i34
  go_enter Try.func12, Try.ntmps12
  go_wp2_with (go_at_call 18; refine (HTM.out _).mono ?_; rintro e w' ⟨rfl, rfl⟩)
  go_loopw [17, 7] (fun i v wr => ∃ k : Nat, (k : Int) ≤ n ∧ i = .int .i64 k ∧ (BoxAt wr lo hi b (planTo X t L k).2 ∧ (planTo X t L k).2.Ok (N + k)) ∧ wr.ownsRow w.heap.size 34 4 v (planTo X t L k).1.length (flat (planTo X t L k).1) ∧ Upd lo hi w wr) (fun i _ _ => (n - intOf i).toNat)
  case atStart => exact ⟨0, by omega, rfl, ⟨HX.out, HOK.out.mono (by omega)⟩, World.ownsRow_nil _ _ _ _, Upd.refl _ _ _⟩
  case round =>
    obtain ⟨k, hk, rfl, ⟨hbox, hok⟩, hown, hupd⟩ := hrel
    have hlen := planTo_len X t L k
    have hnext : planTo X t L (k + 1) = planStep t L k (planTo X t L k) := rfl
    obtain ⟨st, hst⟩ : ∃ st, planTo X t L k = st := ⟨_, rfl⟩
    rw [hst] at hbox hok hown hlen hnext
    obtain ⟨m, hm⟩ : ∃ m, st.1.length = m := ⟨_, rfl⟩
    rw [hm] at hown hlen
    obtain ⟨a7, c7, rfl⟩ := ownsRow_shape hown
    have hokn := planStep_ok (L := L) (p := (k : Int)) hok htb0 htb1
    have HBX := Lib.hid hbox
    have HOW := Lib.hid hown
    have HUP := Lib.hid hupd
    have HNEXT := Lib.hid hnext
    have HST := Lib.hid hst
    have HM := Lib.hid hm
    have HOKK := Lib.hid hok
    have HOKN := Lib.hid hokn
    clear hbox hok hown hupd hnext hst hm c1 hokn
    by_cases hlt : (k : Int) < n
    · have hd := fun W (hW : BoxAt W lo hi b st.2) => due_any hW k t
      have HD := Lib.hid hd
      clear hd
      cases hdue : st.2.due k t with
      | false =>
        have hnext2 := HNEXT.out
        rw [planStep, hdue, if_neg (by simp)] at hnext2
        have hd2 := HD.out wr HBX.out
        rw [hdue] at hd2
        have HD2 := Lib.hid hd2
        have HN2 := Lib.hid hnext2
        have HOKN2 := Lib.hid (show (planTo X t L (k+1)).2.Ok (N + ((k : Int) + 1)) by rw [HNEXT.out]; have := HOKN.out; rwa [Int.add_assoc] at this)
        clear hd2 hnext2 hdue
        go_wp2_with (go_at_call 14; refine HD2.out.mono ?_; rintro e w' ⟨rfl, nd, rfl⟩)
        go_roundw
        case rel => exact ⟨k + 1, by omega, by go_num, ⟨by rw [HN2.out]; exact HBX.out.drewN _, HOKN2.out⟩, by rw [HN2.out, HM.out]; exact HOW.out, HUP.out.drewN _⟩
        case measure => simp [intOf]; omega
      | true =>
        have hnext2 := HNEXT.out
        rw [planStep, hdue, if_pos rfl] at hnext2
        have hd2 := HD.out wr HBX.out
        rw [hdue] at hd2
        have HD2 := Lib.hid hd2
        obtain ⟨pst, hpst⟩ := due_isSome hdue
        have HPST := Lib.hid hpst
        obtain ⟨l, hl⟩ : ∃ l, st.2.lacks k t L = l := ⟨_, rfl⟩
        rw [hl] at hnext2
        have HLE := Lib.hid hl
        have HN2 := Lib.hid hnext2
        have HOKN2 := Lib.hid (show (planTo X t L (k+1)).2.Ok (N + ((k : Int) + 1)) by rw [HNEXT.out]; have := HOKN.out; rwa [Int.add_assoc] at this)
        have hll := lacks_len st.2 k t L
        rw [hl] at hll
        clear hd2 hnext2 hdue hpst hl
        go_wp2_with (go_at_call 14; refine HD2.out.mono ?_; rintro e w' ⟨rfl, nd, rfl⟩)
        refine (lacks_any (HBX.out.drewN nd) HOKK.out _ _ _ _ L (HL.out.of_cells (fun a x hS hx => cell_upd HUP.out hS hx)) htb0 htb1).mono ?_
        rintro e w2 ⟨u, rfl, hown2, hbel2⟩
        rw [HLE.out] at hown2
        have hbx2 := (HBX.out.drewN nd).below hbel2 HBX.out.top
        obtain ⟨bp, bs, pb, hb2⟩ := hbx2
        have c3 : w2.cell? ⟨b,3,none⟩ = some (.map (some bp)) := by rw [cell_of_block hb2.hb]; rfl
        have hget := peer_get_some hb2 k HPST.out w2 rfl
        have hpc := hb2.hc k pst HPST.out
        have hpr := hb2.rc k (by rw [HPST.out]; rfl)
        have hub := HOKK.out.u0 k pst HPST.out
        obtain ⟨ub0, ub1, ub2, ub3⟩ := hub
        obtain ⟨pd, pu⟩ := pst
        dsimp only at ub0 ub1 ub2 ub3 hpc
        have ub4 : pu ≤ 1000000020 := by omega
        have hs2 : wr.heap.size ≤ w2.heap.size := hbel2.size
        have hst2 : hi ≤ w2.heap.size := hb2.top
        have hown3 : w2.ownsRow w.heap.size 34 4 (.slice a7 m c7) m (flat st.1) := ownsRow_below (w := wr.drewN nd) HOW.out hbel2
        have hup2 : Upd lo hi w w2 := (HUP.out.drewN nd).trans (Upd.of_below hbel2 (Nat.le_refl _) lo hi)
        have HP2 := Lib.hid hup2
        have HO3 := Lib.hid hown3
        have HB2 := Lib.hid hb2
        have HPC := Lib.hid hpc
        clear hup2 hown3 hb2 hbel2 hpc HD HD2 HBX HOW HTM
        rcases hown2.2 with ⟨rfl, hl0⟩ | ⟨g, cap, cur, rfl, hg, hgb, hnc, hcm, hcs, htk⟩
        · have hl1 : l = [] := List.eq_nil_of_length_eq_zero hl0
          subst hl1
          have hnn := HN2.out
          rw [if_pos rfl, List.append_nil] at hnn
          have HNN := Lib.hid hnn
          clear hown2 hnn hl0
          go_wp2_with (at_builtin; refine wpList_append_own_none rfl _ _ 31 rfl w.heap.size 34 _ 4 Try.underlying31 hi34 _ m (flat st.1) rfl HO3.out rfl ?_)
          go_roundw
          case rel => exact ⟨k + 1, by omega, by go_num, ⟨by rw [HNN.out]; exact ⟨_, _, _, HB2.out⟩, HOKN2.out⟩, by rw [HNN.out, HM.out]; exact HO3.out, HP2.out⟩
          case measure => simp [intOf]; omega
        · by_cases hl1 : l = []
          · subst hl1
            have hnn := HN2.out
            rw [if_pos rfl, List.append_nil] at hnn
            have HNN := Lib.hid hnn
            clear hown2 hnn hg hgb hnc hcm hcs htk
            go_wp2_with (at_builtin; refine wpList_append_own _ rfl _ _ 31 rfl w.heap.size 34 i0 (.agg #[.int .i64 0, .int .i64 0, .int .i64 0, .int .i64 0]) 4 32 Try.underlying31 hi34 hz0 hz1 hz2 rfl (by decide) _ m (flat st.1) rfl ?own ⟨g, 0, none⟩ 0 cap [] rfl rfl ?c1 ?c2 ?c3 ?c4 ?c5 ?_)
            case own => exact HO3.out
            case c1 => simp
            case c2 => simp
            case c3 => simp only [maxLen]; omega
            case c4 => omega
            case c5 => have := HUP.out.size; omega
            intro v' w4 hown' hgrow hnil
            have hb4 : BoxAt w4 lo hi b st.2 := BoxAt.of_heap ⟨_, _, _, HB2.out⟩ (fun j h1 h2 => hgrow.block j (by omega) (fun e => by have := (HO3.out.lt j e.symm).1; omega)) hgrow.size
            have hu4 : Upd lo hi w w4 := HP2.out.grown hgrow (fun j hj => .inr (HO3.out.lt j hj).1)
            have HB4 := Lib.hid hb4
            have HU4 := Lib.hid hu4
            have HO4 := Lib.hid hown'
            obtain ⟨a8, c8, rfl⟩ := ownsRow_shape hown'
            clear hown' hgrow hnil hb4 hu4
            go_wp2
            go_roundw
            case rel => exact ⟨k + 1, by omega, by go_num, ⟨by rw [HNN.out]; exact HB4.out, HOKN2.out⟩, by rw [HNN.out, HM.out]; exact HO4.out, HU4.out⟩
            case measure => simp [intOf]; omega
          · have hnn := HN2.out
            rw [if_neg hl1] at hnn
            have HNN := Lib.hid hnn
            have hpos : 0 < l.length := by cases l with | nil => exact absurd rfl hl1 | cons a l => simp
            have HOL := Lib.hid hown2
            obtain ⟨ll, hlen2⟩ : ∃ ll, l.length = ll := ⟨_, rfl⟩
            have HLL := Lib.hid hlen2
            rw [hlen2] at hpos hll ⊢
            have hd0 : w2.cell? ⟨pb k, 0, none⟩ = some (.int .i64 pd) := by rw [cell_of_block HPC.out]; rfl
            have hd1 : w2.cell? ⟨pb k, 1, none⟩ = some (.int .i64 pu) := by rw [cell_of_block HPC.out]; rfl
            have hf0 := frozen_of_block HPC.out 0
            have hf1 := frozen_of_block HPC.out 1
            have hq := sh_cases pu ub0
            have hlow : ∀ x y, (((w2.setCell ⟨pb k, 1, none⟩ x).setCell ⟨pb k, 0, none⟩ y).ownsRow w.heap.size 34 4 (.slice a7 m c7) m (flat st.1)) := fun x y =>
              ownsRow_setCell_below (ownsRow_setCell_below HO3.out (by show pb k < _; omega) x) (by show pb k < _; omega) y
            have hnews : ∀ x y, (((w2.setCell ⟨pb k, 1, none⟩ x).setCell ⟨pb k, 0, none⟩ y).ownsRow wr.heap.size 34 4 (.slice (some ⟨g, 0, none⟩) ll cap) ll (flat l)) := fun x y => by
              have h := HOL.out
              rw [HLL.out] at h
              have : pb k < wr.heap.size := by have := HUP.out.size; omega
              exact ownsRow_setCell_below (ownsRow_setCell_below h this x) this y
            have hup3 : ∀ x y, Upd lo hi w ((w2.setCell ⟨pb k, 1, none⟩ x).setCell ⟨pb k, 0, none⟩ y) := fun x y => (HP2.out.setCell hpr.1 (.inl hpr.2) x).setCell hpr.1 (.inl hpr.2) y
            have hbump := fun (x y : Int) (hx : x = pu + 1) (hy : y = t + pw pu) (w4 : World) row (hgrow : ((w2.setCell ⟨pb k, 1, none⟩ (.int .i64 x)).setCell ⟨pb k, 0, none⟩ (.int .i64 y)).grownBy w4 row) (hrow : ∀ j, row = some j → hi ≤ j) =>
              plan_bump HB2.out HPST.out hx hy hgrow hrow
            have HLOW := Lib.hid hlow
            have HNEWS := Lib.hid hnews
            have HUP3 := Lib.hid hup3
            have HBUMP := Lib.hid hbump
            clear hlow hnews hup3 hbump
            clear hown2 hnn hg hgb hnc hcm hcs htk hl1 hlen2
            rcases hq with ⟨q, hp10, hqe, hp16, hp17, hq3⟩ | ⟨q, hp10, hqe, hp16, hp17, hq3⟩ | ⟨hp10, hq3⟩
            all_goals
              have HQ := Lib.hid hq3
              clear hq3
              go_wp2_with (at_builtin; refine wpList_append_own _ rfl _ _ 31 rfl w.heap.size 34 i0 (.agg #[.int .i64 0, .int .i64 0, .int .i64 0, .int .i64 0]) 4 32 Try.underlying31 hi34 hz0 hz1 hz2 rfl (by decide) _ m (flat st.1) rfl ?own ⟨g, 0, none⟩ ll cap (flat l) rfl ?len ?c1 ?c2 ?c3 ?c4 ?c5 ?_)
              case own => exact HLOW.out _ _
              case len => rw [flat_length, HLL.out]
              case c1 => first | exact cells_own (HNEWS.out _ _) | exact (HNEWS.out _ _).cells (g := g) rfl
              case c2 => exact flat_one l
              case c3 => simp only [maxLen]; omega
              case c4 => omega
              case c5 => have := HUP.out.size; simp only [World.size_setCell]; omega
              intro v' w4 hown' hgrow hnil
              have hb4 := HBUMP.out _ _ rfl (by rw [HQ.out]) w4 _ hgrow (fun j hj => by have := (HO3.out.lt j hj).1; omega)
              have hu4 : Upd lo hi w w4 := (HUP3.out _ _).grown hgrow (fun j hj => .inr (HO3.out.lt j hj).1)
              have HB4 := Lib.hid hb4
              have HU4 := Lib.hid hu4
              have HO4 := Lib.hid hown'
              obtain ⟨a8, c8, rfl⟩ := ownsRow_shape hown'
              clear hown' hgrow hnil hb4 hu4
              go_wp2
              go_roundw
              case rel => exact ⟨k + 1, by omega, by go_num, ⟨by rw [HNN.out]; exact ⟨_, _, _, HB4.out⟩, HOKN2.out⟩, by rw [HNN.out]; rw [List.length_append, HM.out, HLL.out, flat_append]; exact HO4.out, HU4.out⟩
              case measure => simp [intOf]; omega
    · have hkn : n.toNat = k := by omega
      have HKN := Lib.hid hkn
      clear hkn
      go_wp2
      go_ret
      exact ⟨_, rfl, by rw [HPL.out, HN'.out, HKN.out, HST.out, HM.out]; exact HOW.out, by rw [HPL.out, HN'.out, HKN.out, HST.out]; exact HBX.out, HUP.out⟩
end Go.Proofs.Ythbnnifkoomokaa
