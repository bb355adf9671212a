/- The contract of spoil: it writes into the lists of its argument alone. Condition: its argument reads as a message whose lists may be written. -/
import Derived.Test.YtdkpgjhjdnfieaaAs
import Derived.Test.YtdkpgjhjdnfieaaL
set_option linter.unusedVariables false
set_option linter.unusedSimpArgs false
namespace Go.Proofs.Ytdkpgjhjdnfieaa
open Go.RowKit Go.Mf
set_option maxRecDepth 100000

theorem und92t : ∃ fs, Try.prog.underlying 92 = some (.struct fs) := ⟨_, rfl⟩
theorem size92t : (Try.prog.info? 92).map (·.size) = some 12 := by kernel_rfl
def zDec : List Value := [.int .i64 0, .int .i64 0, .int .i64 0, .string ⟨#[]⟩, .string ⟨#[]⟩, .string ⟨#[]⟩, .slice none 0 0, .int .i64 0, .int .i64 0, .int .i64 0, .int .i64 0, .int .i64 0]

theorem size99' : (Try.prog.info? 99).map (·.size) = some 5 := by kernel_rfl
theorem size96t : (Try.prog.info? 96).map (·.size) = some 50 := by kernel_rfl
def xWrap : List Value := [.int .i64 (-7), .int .i64 0, .string ⟨#[]⟩, .string ⟨#[]⟩, .string ⟨#[]⟩]
theorem xWrap_all : xWrap.toArray.all (·.oneCell') = true := by decide +kernel
def xEntry : List Value := zEntry.set 0 (.int .i64 (-7))
theorem xEntry_len : xEntry.length = 50 := rfl
theorem xEntry_size : xEntry.toArray.size = 50 := rfl
theorem xEntry_all : xEntry.toArray.all (·.oneCell') = true := by decide +kernel

set_option maxHeartbeats 2000000 in
theorem spoil_any (w : World) (S : Nat → Prop) (cs : List Value) (M : MsgD) (h : MsgW w S cs M) (hS : ∀ k, S k → k < w.heap.size) : Calls Try.prog 34 #[.agg cs.toArray] w (SpoilPost w S) := by
  obtain ⟨h0, h1, h2, v1, v2, h3, h4, h5, h6⟩ := h
  obtain ⟨W, hW⟩ : ∃ W, W = w.alloc (.cells cs.toArray 42) := ⟨_, rfl⟩
  have hb0 : W.heap[w.heap.size]? = some (.cells cs.toArray 42 (0, 0)) := by rw [hW]; exact heap_alloc_new w _
  have hbw : Below w.heap.size w W := by rw [hW]; exact (Below.refl _ w).alloc (Nat.le_refl _) _
  have hsz : W.heap.size = w.heap.size + 1 := by rw [hW]; simp
  have h5W : EntsW W S v1 M.ents := h5.keep (fun _ h _ => h) (fun k _ hk => hbw.block k hk)
  have h6W : RowsIn W (fun q => S q ∧ Thaw W q) 1 16 v2 M.nl M.link := RowsIn.keep' h6 (by omega) (fun q hq hl => ⟨hq.1, Thaw.of (hbw.block q hl) hq.2⟩) (fun k _ hk => hbw.block k hk)
  obtain ⟨a1, c1, css, rfl, hb, hcl, hce, hrow⟩ := h5W
  obtain ⟨a2, c2, rfl, _⟩ := id h6W
  obtain ⟨n, hn⟩ : ∃ n, M.ents.length = n := ⟨_, rfl⟩
  obtain ⟨m, hm⟩ : ∃ m, M.nl = m := ⟨_, rfl⟩
  rw [hn] at hb hcl hrow h3
  rw [hm] at h4 h6W
  have hgo : ∃ G o, G < W.heap.size ∧ (0 < n → a1 = some ⟨G, o, none⟩ ∧ S G ∧ Thaw W G ∧ ∀ j u, css.flatten[j]? = some u → W.cell? ⟨G, o + j, none⟩ = some u) := by
    rcases Nat.eq_zero_or_pos n with e | e
    · exact ⟨w.heap.size, 0, by omega, fun h => by omega⟩
    · obtain ⟨b, o, q1, q2, q3⟩ := hrow e
      exact ⟨b, o, by have := hS b q2.1; omega, fun _ => ⟨q1, q2.1, q2.2, q3⟩⟩
  obtain ⟨G, o, hGW, hgo⟩ := hgo
  have hml : ∀ x ∈ css, x.length = 50 := fun x hx => by
    obtain ⟨j, hj, e⟩ := List.getElem_of_mem hx
    exact (hce j x (M.ents[j]'(by omega)) (by rw [← e]; exact List.getElem?_eq_getElem _) (List.getElem?_eq_getElem _)).1
  have c10 : ∀ wr, Hid (Sp S G o W 0 wr ∨ Fr S S W wr → wr.cell? ⟨w.heap.size, 10, none⟩ = some (.slice a1 n c1) ∧ wr.cell? ⟨w.heap.size, 33, none⟩ = some (.slice a2 m c2)) := fun wr h => by
    have hf : Fr S S W wr := h.elim (fun h => h.fr) id
    have g : wr.heap[w.heap.size]? = some (.cells cs.toArray 42 (0, 0)) := (hf.block _ (by omega) (fun e => by have := hS _ e; omega)).trans hb0
    exact ⟨cell_at g h3, cell_at g h4⟩
  have hfin : ∀ wr, Hid (Fr S S W wr → SpoilPost w S (.returned (.tuple #[])) wr) := fun wr h => ⟨rfl, h.os.trans hbw.os, h.tape.trans hbw.tape, h.output.trans hbw.output, Nat.le_trans hbw.size h.size, fun k hk hn => (h.block k (by omega) hn).trans (hbw.block k hk), fun k hk => .inl hk⟩
  have HW : Hid (W = w.alloc (.cells cs.toArray 42)) := hW
  have HS := Lib.hid hS
  have H6 := Lib.hid h6W
  have HCE := Lib.hid hce
  have HGO := Lib.hid hgo
  have HML := Lib.hid hml
  have HSZ := Lib.hid hsz
  have HN := Lib.hid hn
  have HM := Lib.hid hm
  have HCL := Lib.hid hcl
  have HGW := Lib.hid hGW
  have hbox : w.heap.size < W.heap.size := by omega
  clear h0 h1 h2 h3 h4 h5 h6 hb0 hbw hsz h6W hce hrow hgo hml hn hm hcl hGW hW hS
  have hm0 : m * 16 ≤ 140737488355328 ∧ m ≤ 140737488355328 := by obtain ⟨_, _, _, _, x3, x4, _⟩ := H6.out; exact ⟨x3, x4⟩
  go_enter Try.func34, Try.ntmps34
  go_upto_region 1 with fail
  change Code.wp _ _ _ _ (w.alloc (.cells cs.toArray 42))
  rw [← HW.out]
  go_wp2
  go_loopw [2] (fun i wr => ∃ k : Nat, k ≤ n ∧ i = .int .i64 k ∧ Hid (Sp S G o W k wr)) (fun i _ => n - (intOf i).toNat)
  case atStart => exact ⟨0, by omega, rfl, Sp.refl _ _ _ _⟩
  case round =>
    obtain ⟨k, hk, rfl, hst⟩ := hrel
    have d10 := ((c10 wr).out (.inr hst.out.fr)).1
    by_cases hkn : k < n
    · obtain ⟨rfl, hSG, hTG, hcell⟩ := HGO.out (by omega)
      obtain ⟨E, hE⟩ : ∃ E, M.ents[k]? = some E := ⟨M.ents[k]'(by rw [HN.out]; exact hkn), List.getElem?_eq_getElem _⟩
      obtain ⟨c, hc⟩ : ∃ c, css[k]? = some c := ⟨css[k]'(by rw [HCL.out]; exact hkn), List.getElem?_eq_getElem _⟩
      have hent := HCE.out k c E hc hE
      obtain ⟨l1, l2, l3, e1, e2, e3, q1, q2, q3⟩ := ent_get hent
      obtain ⟨la1, lc1, rfl, _⟩ := id q1
      obtain ⟨la2, lc2, rfl, _⟩ := id q2
      obtain ⟨la3, lc3, rfl, _⟩ := id q3
      have hrg1 := hst.out.range hcell HML.out hc 2 20 (by omega)
      have hrg2 := hst.out.range hcell HML.out hc 38 12 (by omega)
      obtain ⟨wk, rfl⟩ : ∃ v : World, v = wr := ⟨_, rfl⟩
      have HSG := Lib.hid hSG
      have HTG := Lib.hid hTG
      have HCELL := Lib.hid hcell
      have HE := Lib.hid hE
      have HC := Lib.hid hc
      have E1 := Lib.hid e1
      have E2 := Lib.hid e2
      have E3 := Lib.hid e3
      have Q1 := Lib.hid q1
      have Q2 := Lib.hid q2
      have Q3 := Lib.hid q3
      have RG1 := Lib.hid hrg1
      have RG2 := Lib.hid hrg2
      have HCLEN : Hid (c.length = 50) := hent.1
      have HC1 : Hid (∀ u ∈ c, u.oneCell' = true) := hent.2.1
      obtain ⟨fs86, hu86⟩ := und86
      obtain ⟨fs92, hu92⟩ := und92t
      clear hSG hTG hcell hE hc hent e1 e2 e3 q1 q2 q3 hrg1 hrg2
      obtain ⟨acts, hacts⟩ : ∃ l, l = (c.drop 2).take 20 := ⟨_, rfl⟩
      obtain ⟨decs, hdecs⟩ : ∃ l, l = (c.drop 38).take 12 := ⟨_, rfl⟩
      have HA : Hid (acts.length = 20 ∧ acts[9]? = some (.slice la1 E.act.nt lc1) ∧ acts[15]? = some (.slice la2 E.act.nw lc2) ∧ ∀ u ∈ acts, u.oneCell' = true) := by
        have hl := HCLEN.out
        refine ⟨by rw [hacts]; simp; omega, ?_, ?_, fun u hu => HC1.out u (List.mem_of_mem_drop (List.mem_of_mem_take (by rw [← hacts]; exact hu)))⟩
        · rw [hacts, List.getElem?_take_of_lt (by omega), List.getElem?_drop]; exact E1.out
        · rw [hacts, List.getElem?_take_of_lt (by omega), List.getElem?_drop]; exact E2.out
      have HD : Hid (decs.length = 12 ∧ decs[6]? = some (.slice la3 E.nd lc3) ∧ ∀ u ∈ decs, u.oneCell' = true) := by
        have hl := HCLEN.out
        refine ⟨by rw [hdecs]; simp; omega, ?_, fun u hu => HC1.out u (List.mem_of_mem_drop (List.mem_of_mem_take (by rw [← hdecs]; exact hu)))⟩
        rw [hdecs, List.getElem?_take_of_lt (by omega), List.getElem?_drop]; exact E3.out
      rw [← hacts] at RG1
      have HDE : Hid (decs = (c.drop 38).take 12) := hdecs
      clear hacts hdecs E1 E2 E3 RG2
      have HST := Lib.hid hst.out
      have hg0 : (wk.alloc (.cells zAct.toArray 86)).heap[wk.heap.size]? = some (.cells zAct.toArray 86 (0, 0)) := heap_alloc_new wk _
      have hth := there_block hg0
      have hgs := setCells_heap acts 0 hg0
      rw [putL_all (by rw [HA.out.1]; rfl)] at hgs
      have HAS : Hid (acts.toArray.size = 20) := by show acts.toArray.size = 20; rw [List.size_toArray]; exact HA.out.1
      have HTH : Hid ((wk.alloc (.cells zAct.toArray 86)).there wk.heap.size 0 acts.toArray.size) := by rw [HAS.out]; exact hth
      have HGS := Lib.hid hgs
      have hkw : W.heap.size ≤ wk.heap.size := hst.out.fr.size
      have hS1 : Hid (Sp S G o W k ((wk.alloc (.cells zAct.toArray 86)).setCells wk.heap.size 0 acts)) := Sp.putNew HGW.out hkw acts 0 (hst.out.alloc HGW.out _)
      clear hg0 hth hgs hst
      go_wp2_with (first
        | (refine wpList_load_mid rfl 86 _ rfl G (o + k * 50 + 2) rfl acts _ RG1.out hu86 rfl ?i1 ?_; (case i1 => rw [HA.out.1]; exact size86))
        | (refine wpList_store_mid rfl 86 _ _ rfl wk.heap.size 0 acts.toArray rfl rfl ?i2 ?i3 ?i4 ?_; (case i2 => exact HTH.out); (case i3 => rw [HAS.out]; exact size86); (case i4 => exact all_oneCell_toArray HA.out.2.2.2)))
      go_loopw [4] (fun i wr => ∃ j : Nat, j ≤ E.act.nt ∧ i = .int .i64 j ∧ Hid (Sp S G o W k wr ∧ wr.heap[wk.heap.size]? = some (.cells acts.toArray 86 (0, 0)))) (fun i _ => E.act.nt - (intOf i).toNat)
      case atStart => exact ⟨0, by omega, rfl, hS1.out, HGS.out⟩
      case round =>
        obtain ⟨j, hj, rfl, hst1⟩ := hrel
        have bx : wr.cell? ⟨wk.heap.size, 9, none⟩ = some (.slice la1 E.act.nt lc1) := cell_at hst1.out.2 HA.out.2.1
        by_cases hjn : j < E.act.nt
        · as_aux_lemma =>
          obtain ⟨b1, o1, rfl, ⟨x1, x2, x3⟩, x4⟩ := rows_there Q1.out (by omega)
          have hb1 : b1 < W.heap.size := by have := HS.out b1 x1; have := HSZ.out; omega
          have hne : wk.heap.size ≠ b1 := by omega
          have hnG : b1 ≠ G := fun e => x3 (by rw [e]; rfl)
          obtain ⟨y1, y2⟩ := hst1.out.1.there (q := o1) (n := E.act.nt * 1) hb1 x2 x4 j (by omega)
          obtain ⟨u, y1⟩ := Option.isSome_iff_exists.1 y1
          have hnext : ∀ v, Hid (Sp S G o W k (wr.setCell ⟨b1, o1 + j, none⟩ v) ∧ (wr.setCell ⟨b1, o1 + j, none⟩ v).heap[wk.heap.size]? = some (.cells acts.toArray 86 (0, 0))) := fun v => ⟨hst1.out.1.put v x1 (.inl hnG), by rw [Below.heap_setCell _ _ _ _ hne]; exact hst1.out.2⟩
          clear x1 x2 x3 x4 hb1 hne hnG hst1
          go_wp2
          go_roundw
          case rel => exact ⟨j + 1, by omega, by go_num, hnext _⟩
          case measure => simp [intOf]; omega
        · obtain ⟨w1, rfl⟩ : ∃ v : World, v = wr := ⟨_, rfl⟩
          have HST1 := Lib.hid hst1.out
          clear hst1 HTH HGS hS1 HST
          go_wp2
          go_loopw [5] (fun i wr => ∃ j : Nat, j ≤ E.act.nw ∧ i = .int .i64 j ∧ Hid (Sp S G o W k wr ∧ wr.heap[wk.heap.size]? = some (.cells acts.toArray 86 (0, 0)))) (fun i _ => E.act.nw - (intOf i).toNat)
          case atStart => exact ⟨0, by omega, rfl, HST1.out.1, HST1.out.2⟩
          case round =>
            obtain ⟨j, hj, rfl, hst1⟩ := hrel
            have bx : wr.cell? ⟨wk.heap.size, 15, none⟩ = some (.slice la2 E.act.nw lc2) := cell_at hst1.out.2 HA.out.2.2.1
            by_cases hjn : j < E.act.nw
            · as_aux_lemma =>
              obtain ⟨b1, o1, rfl, ⟨x1, x2, x3⟩, x4⟩ := rows_there Q2.out (by omega)
              have hb1 : b1 < W.heap.size := by have := HS.out b1 x1; have := HSZ.out; omega
              have hne : wk.heap.size ≠ b1 := by omega
              have hnG : b1 ≠ G := fun e => x3 (by rw [e]; rfl)
              have hth : wr.there b1 (o1 + j * 5) 5 := hst1.out.1.there (q := o1 + j * 5) (n := 5) hb1 x2 (fun p hp => by rw [Nat.add_assoc]; exact x4 (j * 5 + p) (by omega))
              have HTH1 := Lib.hid hth
              have hnext : Hid (Sp S G o W k (wr.setCells b1 (o1 + j * 5) xWrap) ∧ (wr.setCells b1 (o1 + j * 5) xWrap).heap[wk.heap.size]? = some (.cells acts.toArray 86 (0, 0))) := ⟨Sp.puts x1 _ _ hst1.out.1 (.inl hnG), by rw [((Only.refl b1 wr).setCells xWrap (o1 + j * 5)).block _ hne]; exact hst1.out.2⟩
              clear x1 x2 x3 x4 hb1 hne hnG hst1 hth
              go_wp2_with (refine wpList_store_mid rfl 99 _ _ rfl b1 (o1 + j * 5) xWrap.toArray rfl rfl ?i2 ?i3 ?i4 ?_; (case i2 => exact HTH1.out); (case i3 => exact size99'); (case i4 => exact xWrap_all))
              go_roundw
              case rel => exact ⟨j + 1, by omega, by go_num, hnext.out⟩
              case measure => simp [intOf]; omega
            · obtain ⟨w2, rfl⟩ : ∃ v : World, v = wr := ⟨_, rfl⟩
              have d10b := ((c10 w2).out (.inr hst1.out.1.fr)).1
              have HRG : Hid (w2.rangeAt G (o + k * 50 + 38) decs) := by rw [HDE.out]; exact hst1.out.1.range HCELL.out HML.out HC.out 38 12 (by omega)
              have hg0 : (w2.alloc (.cells zDec.toArray 92)).heap[w2.heap.size]? = some (.cells zDec.toArray 92 (0, 0)) := heap_alloc_new w2 _
              have hth := there_block hg0
              have hgs := setCells_heap decs 0 hg0
              rw [putL_all (by rw [HD.out.1]; rfl)] at hgs
              have HDS : Hid (decs.toArray.size = 12) := by show decs.toArray.size = 12; rw [List.size_toArray]; exact HD.out.1
              have HTH : Hid ((w2.alloc (.cells zDec.toArray 92)).there w2.heap.size 0 decs.toArray.size) := by rw [HDS.out]; exact hth
              have HGS := Lib.hid hgs
              have hkw2 : W.heap.size ≤ w2.heap.size := hst1.out.1.fr.size
              have hS1 : Hid (Sp S G o W k ((w2.alloc (.cells zDec.toArray 92)).setCells w2.heap.size 0 decs)) := Sp.putNew HGW.out hkw2 decs 0 (hst1.out.1.alloc HGW.out _)
              clear hg0 hth hgs hst1 HST1
              go_wp2_with (first
                | (refine wpList_load_mid rfl 92 _ rfl G (o + k * 50 + 38) rfl decs _ HRG.out hu92 rfl ?i1 ?_; (case i1 => rw [HD.out.1]; exact size92t))
                | (refine wpList_store_mid rfl 92 _ _ rfl w2.heap.size 0 decs.toArray rfl rfl ?i2 ?i3 ?i4 ?_; (case i2 => exact HTH.out); (case i3 => rw [HDS.out]; exact size92t); (case i4 => exact all_oneCell_toArray HD.out.2.2)))
              go_loopw [7] (fun i wr => ∃ j : Nat, j ≤ E.nd ∧ i = .int .i64 j ∧ Hid (Sp S G o W k wr ∧ wr.heap[w2.heap.size]? = some (.cells decs.toArray 92 (0, 0)))) (fun i _ => E.nd - (intOf i).toNat)
              case atStart => exact ⟨0, by omega, rfl, hS1.out, HGS.out⟩
              case round =>
                obtain ⟨j, hj, rfl, hst1⟩ := hrel
                have bx : wr.cell? ⟨w2.heap.size, 6, none⟩ = some (.slice la3 E.nd lc3) := cell_at hst1.out.2 HD.out.2.1
                by_cases hjn : j < E.nd
                · as_aux_lemma =>
                  obtain ⟨b1, o1, rfl, ⟨x1, x2, x3⟩, x4⟩ := rows_there Q3.out (by omega)
                  have hb1 : b1 < W.heap.size := by have := HS.out b1 x1; have := HSZ.out; omega
                  have hne : w2.heap.size ≠ b1 := by omega
                  have hnG : b1 ≠ G := fun e => x3 (by rw [e]; rfl)
                  obtain ⟨y1, y2⟩ := hst1.out.1.there (q := o1) (n := E.nd * 1) hb1 x2 x4 j (by omega)
                  obtain ⟨u, y1⟩ := Option.isSome_iff_exists.1 y1
                  have hnext : ∀ v, Hid (Sp S G o W k (wr.setCell ⟨b1, o1 + j, none⟩ v) ∧ (wr.setCell ⟨b1, o1 + j, none⟩ v).heap[w2.heap.size]? = some (.cells decs.toArray 92 (0, 0))) := fun v => ⟨hst1.out.1.put v x1 (.inl hnG), by rw [Below.heap_setCell _ _ _ _ hne]; exact hst1.out.2⟩
                  clear x1 x2 x3 x4 hb1 hne hnG hst1
                  go_wp2
                  go_roundw
                  case rel => exact ⟨j + 1, by omega, by go_num, hnext _⟩
                  case measure => simp [intOf]; omega
                · obtain ⟨w3, rfl⟩ : ∃ v : World, v = wr := ⟨_, rfl⟩
                  have d10 := ((c10 w3).out (.inr hst1.out.1.fr)).1
                  have hth : w3.there G (o + k * 50) 50 := hst1.out.1.there (q := o + k * 50) (n := 50) HGW.out HTG.out (fun p hp => by
                    rw [Nat.add_assoc, HCELL.out (k * 50 + p) (c[p]'(by rw [HCLEN.out]; omega)) (by rw [flat_get HML.out HC.out hp]; exact List.getElem?_eq_getElem _)]; rfl)
                  have HTH3 := Lib.hid hth
                  have hnext : Hid (Sp S G o W (k + 1) (w3.setCells G (o + k * 50) xEntry)) := Sp.puts HSG.out _ _ (hst1.out.1.le (Nat.le_succ k)) (.inr (by rw [xEntry_len]; omega))
                  clear hth hst1 hS1 HGS HTH
                  go_wp2_with (refine wpList_store_mid rfl 96 _ _ rfl G (o + k * 50) xEntry.toArray rfl rfl ?i2 ?i3 ?i4 ?_; (case i2 => rw [xEntry_size]; exact HTH3.out); (case i3 => exact size96t); (case i4 => exact xEntry_all))
                  go_roundw
                  case rel => exact ⟨k + 1, by omega, by go_num, hnext.out⟩
                  case measure => simp [intOf]; omega
    · have HST := Lib.hid hst.out
      obtain ⟨wk, rfl⟩ : ∃ v : World, v = wr := ⟨_, rfl⟩
      clear hst HGO HCE
      go_wp2
      go_loopw [8] (fun i wr => ∃ j : Nat, j ≤ m ∧ i = .int .i64 j ∧ Hid (∃ K, Sp S G o W K wr)) (fun i _ => m - (intOf i).toNat)
      case atStart => exact ⟨0, by omega, rfl, k, HST.out⟩
      case round =>
        obtain ⟨j, hj, rfl, hst1⟩ := hrel
        obtain ⟨K, hsp⟩ := hst1.out
        have d33 := ((c10 wr).out (.inr hsp.fr)).2
        by_cases hjn : j < m
        · as_aux_lemma =>
          obtain ⟨b1, o1, rfl, ⟨x1, x2⟩, x4⟩ := rows_there H6.out (by omega)
          have hb1 : b1 < W.heap.size := by have := HS.out b1 x1; have := HSZ.out; omega
          obtain ⟨y1, y2⟩ := hsp.there (q := o1) (n := m * 1) hb1 x2 x4 j (by omega)
          obtain ⟨u, y1⟩ := Option.isSome_iff_exists.1 y1
          have hnext : ∀ v, Hid (∃ K, Sp S G o W K (wr.setCell ⟨b1, o1 + j, none⟩ v)) := fun v => ⟨K + (o1 + j + 1), (hsp.le (Nat.le_add_right _ _)).put v x1 (.inr (by omega))⟩
          clear x1 x2 x4 hb1 hsp hst1 HST
          go_wp2
          go_roundw
          case rel => exact ⟨j + 1, by omega, by go_num, hnext _⟩
          case measure => simp [intOf]; omega
        · have HF := Lib.hid ((hfin wr).out hsp.fr)
          clear hsp hst1 HST
          go_wp2
          go_end0
          exact HF.out
end Go.Proofs.Ytdkpgjhjdnfieaa
