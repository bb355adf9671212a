/- The walk of IndexTells. Condition: the steps can be read. -/
import Derived.Test.YtokfiikpfckahaaAj
set_option linter.unusedVariables false
set_option linter.unusedSimpArgs false
namespace Go.Proofs.Ytokfiikpfckahaa
open Go.RowKit Go.Lib Go.Ix Go.Sort Go.Mf
set_option maxRecDepth 100000

theorem tl_new {w w1 w2 : World} {s x : Nat} (h : x = s + 2 ∧ w.heap.size ≤ s ∧ s = w1.heap.size ∧ w2.heap.size = s + 3 ∧ IxNew w2 s ∧ Below w.heap.size w w2 ∧ Below w1.heap.size w1 w2) : TlSt w x (.slice none 0 0) 0 w2 := by
  obtain ⟨rfl, h1, h2, h3, h4, h5, h6⟩ := h
  exact ⟨_, [], ⟨⟨up s, h4.ix _ (up_ok (Nat.le_refl _)) (up_ok (Nat.le_succ _)), up_fresh (by omega), h1⟩, h5, ownT_nil _ _, Nat.le_refl _, fun p hp => by cases hp⟩, sim_start⟩

theorem TlSt.below {w wr : World} {x j : Nat} {u : Value} (h : TlSt w x u j wr) : Below w.heap.size w wr := by
  obtain ⟨W, t, h, _⟩ := h
  exact h.below
theorem TlSet.below {w wr : World} {x j : Nat} {u : Value} {id text : Str} (h : TlSet w x u j id text wr) : Below w.heap.size w wr := by
  obtain ⟨W, t, h, _⟩ := h
  exact h.below
theorem TlRm.below {w wr : World} {x j : Nat} {u : Value} {id : Str} (h : TlRm w x u j id wr) : Below w.heap.size w wr := by
  obtain ⟨W, t, h, _⟩ := h
  exact h.below
theorem TlF.below {w wr : World} {x j : Nat} {u v1 : Value} {ws : List Str} (h : TlF w x u j ws v1 wr) : Below w.heap.size w wr := by
  obtain ⟨W, t, l, h, _⟩ := h
  exact h.below

set_option maxHeartbeats 8000000 in
theorem tells_any (w : World) (va : Value) (a : List StepD) (ha : StepsAt w va a) :
    Calls Try.prog 4 #[va] w fun e w' => e = .returned (.bool true) ∧ Below w.heap.size w w' := by
  have HFA := Lib.hid (few_call ha)
  obtain ⟨ba, hba⟩ : ∃ ba, ba = okF a := ⟨_, rfl⟩
  rw [← hba] at HFA
  have HBA := Lib.hid hba
  obtain ⟨pa, ca, rfl, hca⟩ := ha
  obtain ⟨n, hn⟩ : ∃ n, n = a.length := ⟨_, rfl⟩
  have HN := Lib.hid hn
  have HCA := Lib.hid hca
  rw [← hn] at HFA ⊢
  clear hba hca hn
  go_enter Try.func4, Try.ntmps4
  cases ba with
  | false =>
    go_wp2_with (first
      | (go_at_call 8; refine (small_any _).mono ?_; rintro e w1 ⟨rfl, hb1⟩
         have HB1 := Lib.hid hb1
         clear hb1)
      | (go_at_call 13; refine (HFA.out _ HB1.out).mono ?_; rintro e w1' ⟨rfl, rfl⟩; clear HFA)
      | (go_at_call 14; refine (new_call HB1.out).mono ?_; rintro e w2 ⟨s, x, rfl, HN1⟩))
    go_ret
    exact ⟨rfl, HN1.out.2.2.2.2.2.1⟩
  | true =>
    go_wp2_with (first
      | (go_at_call 8; refine (small_any _).mono ?_; rintro e w1 ⟨rfl, hb1⟩
         have HB1 := Lib.hid hb1
         clear hb1)
      | (go_at_call 13; refine (HFA.out _ HB1.out).mono ?_; rintro e w1' ⟨rfl, rfl⟩; clear HFA)
      | (go_at_call 14; refine (new_call HB1.out).mono ?_; rintro e w2 ⟨s, x, rfl, HN1⟩))
    have hn40 : n ≤ 40 := by have := okF_len HBA.out.symm; have := HN.out; omega
    have HT0 := Lib.hid (tl_new HN1.out)
    clear HN1 HB1
    go_loopw [6, 7] (fun u t wr => ∃ (v : Value) (j : Nat), j ≤ n ∧ u = v ∧ t = .int .i64 j ∧ Hid (TlSt w x v j wr)) (fun _ t _ => n - (intOf t).toNat)
    case atStart => exact ⟨_, 0, by omega, rfl, rfl, HT0⟩
    case round =>
      obtain ⟨v, j, hj, rfl, rfl, hst⟩ := hrel
      by_cases hjn : j < n
      · have hjl : j < a.length := by rw [← HN.out]; exact hjn
        obtain ⟨b', o', rfl, hlt, k0, k1, k2, k3, hw⟩ := HCA.out j hjl
        have hjI : (j : Int) < n := by omega
        have hj0 : (0 : Int) ≤ j := by omega
        have hok := okF_at HBA.out.symm (List.getElem_mem hjl)
        obtain ⟨d, hd⟩ : ∃ d, d = a[j].d := ⟨_, rfl⟩
        obtain ⟨id, hid⟩ : ∃ id, id = a[j].id := ⟨_, rfl⟩
        obtain ⟨text, htext⟩ : ∃ text, text = a[j].text := ⟨_, rfl⟩
        obtain ⟨vw, hvw⟩ : ∃ vw, vw = a[j].wv := ⟨_, rfl⟩
        obtain ⟨ws, hws⟩ : ∃ ws, ws = a[j].words := ⟨_, rfl⟩
        rw [← hd] at k0
        rw [← hid] at k1
        rw [← htext] at k2
        rw [← hvw] at k3
        rw [← hvw, ← hws] at hw
        rw [← htext, ← hws] at hok
        have htl : text.length ≤ 500 := hok.2.1
        have hwl : ws.length ≤ 8 := okW_len hok.2.2
        have hj9 : j ≤ 900 := by omega
        have hkeep : ∀ wr, Below w.heap.size w wr → wr.cell? ⟨b', o' + j * 4 + 1, none⟩ = some (encStr id) ∧ wr.cell? ⟨b', o' + j * 4 + 2, none⟩ = some (encStr text) ∧ wr.cell? ⟨b', o' + j * 4 + 3, none⟩ = some vw := fun wr hb =>
          ⟨(hb.cell (p := ⟨b', o' + j * 4 + 1, none⟩) hlt).trans k1, (hb.cell (p := ⟨b', o' + j * 4 + 2, none⟩) hlt).trans k2, (hb.cell (p := ⟨b', o' + j * 4 + 3, none⟩) hlt).trans k3⟩
        have d0 := (hst.out.below.cell (p := ⟨b', o' + j * 4, none⟩) hlt).trans k0
        obtain ⟨d1, d2, d3⟩ := hkeep wr hst.out.below
        have HK := Lib.hid hkeep
        have HSET := Lib.hid (fun q => hst.out.set id text htl q)
        have HRM := Lib.hid (fun q => hst.out.rm id q)
        have HFD := Lib.hid (fun q => hst.out.find hj9 hw hwl q)
        have HW := Lib.hid hw
        have HTL := Lib.hid htl
        have HWL := Lib.hid hwl
        clear k0 k1 k2 k3 hw hok hd hid htext hvw hws hkeep hst htl hwl HT0
        by_cases e0 : Go.bits .and .i64 d 3 = 0
        · have e0' : (Go.bits .and .i64 d 3 == 0) = true := by simp [e0]
          clear e0
          go_upto_region 16 with fail
          change Code.wp _ _ _ _ (wr.drewN 0)
          go_region_with (go_at_call 15; refine (HSET.out _).mono ?_; rintro e w1 ⟨rfl, h1⟩)
          all_goals
            have HREF := Lib.hid (fun q => h1.out.ref hj9 HTL.out q)
            obtain ⟨f1, f2, f3⟩ := HK.out w1 h1.out.below
            clear d0 d1 d2 d3 h1
            go_upto_region 17 with fail
            change Code.wp _ _ _ _ (w1.drewN 0)
            go_region_with (go_at_call 16; refine (HREF.out _).mono ?_; rintro e w2 ⟨u2, rfl, h2⟩)
            all_goals
              go_wp2
              go_roundw
              case rel => exact ⟨_, j + 1, by omega, rfl, by go_num, h2⟩
              case measure => first | (simp [intOf]; done) | (simp [intOf]; omega)
        · have e0' : (Go.bits .and .i64 d 3 == 0) = false := by simp [e0]
          by_cases e1 : Go.bits .and .i64 d 3 = 1
          · have e1' : (Go.bits .and .i64 d 3 == 1) = true := by simp [e1]
            clear e0 e1
            go_upto_region 16 with fail
            change Code.wp _ _ _ _ (wr.drewN 0)
            go_region_with (go_at_call 15; refine (HSET.out _).mono ?_; rintro e w1 ⟨rfl, h1⟩)
            all_goals
              have HREF := Lib.hid (fun q => h1.out.ref hj9 HTL.out q)
              obtain ⟨f1, f2, f3⟩ := HK.out w1 h1.out.below
              clear d0 d1 d2 d3 h1
              go_upto_region 17 with fail
              change Code.wp _ _ _ _ (w1.drewN 0)
              go_region_with (go_at_call 16; refine (HREF.out _).mono ?_; rintro e w2 ⟨u2, rfl, h2⟩)
              all_goals
                go_wp2
                go_roundw
                case rel => exact ⟨_, j + 1, by omega, rfl, by go_num, h2⟩
                case measure => first | (simp [intOf]; done) | (simp [intOf]; omega)
          · have e1' : (Go.bits .and .i64 d 3 == 1) = false := by simp [e1]
            by_cases e2 : Go.bits .and .i64 d 3 = 2
            · have e2' : (Go.bits .and .i64 d 3 == 2) = true := by simp [e2]
              clear e0 e1 e2
              go_wp2_with (first
                | (go_at_call 18; refine (HREF.out 0).mono ?_; rintro e w2 ⟨u2, rfl, h2⟩)
                | (go_at_call 17; refine (HRM.out 0).mono ?_; rintro e w1 ⟨rfl, h1⟩
                   have HREF := Lib.hid (fun q => h1.out.ref hj9 q)
                   obtain ⟨f1, f2, f3⟩ := HK.out w1 h1.out.below
                   clear h1))
              go_roundw
              case rel => exact ⟨_, j + 1, by omega, rfl, by go_num, h2⟩
              case measure => first | (simp [intOf]; done) | (simp [intOf]; omega)
            · have e2' : (Go.bits .and .i64 d 3 == 2) = false := by simp [e2]
              clear e0 e1 e2
              go_upto_region 11 with fail
              change Code.wp _ _ _ _ (wr.drewN 0)
              go_region_with (first
                | (go_at_call 10; refine (HSAME.out 0).mono ?_; rintro e w3 ⟨rfl, h3⟩)
                | (go_at_call 20; refine (HREF.out 0).mono ?_; rintro e w2 ⟨v2, rfl, h2⟩
                   have HSAME := Lib.hid (fun q => h2.out.same q))
                | (go_at_call 19; refine (HFD.out _).mono ?_; rintro e w1 ⟨v1, rfl, h1⟩
                   have HREF := Lib.hid (fun q => h1.out.ref hj9 HW.out HWL.out q)
                   obtain ⟨f1, f2, f3⟩ := HK.out w1 h1.out.below))
              all_goals
                go_wp2
                go_roundw
                case rel => exact ⟨_, j + 1, by omega, rfl, by go_num, h3⟩
                case measure => first | (simp [intOf]; done) | (simp [intOf]; omega)
      · obtain rfl : j = n := by omega
        have hjI : decide ((j : Int) < j) = false := by simp
        have HE := Lib.hid hst.out.below
        clear hst HT0
        go_wp2
        go_ret
        exact ⟨rfl, HE.out⟩
end Go.Proofs.Ytokfiikpfckahaa
