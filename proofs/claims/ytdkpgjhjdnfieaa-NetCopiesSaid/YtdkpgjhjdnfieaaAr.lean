/- own: a copy of a message with lists of its own. Condition: its argument reads as a message. -/
import Derived.Test.YtdkpgjhjdnfieaaAq
import Derived.Test.YtdkpgjhjdnfieaaL
import Derived.Deep.CutBlock
set_option linter.unusedVariables false
set_option linter.unusedSimpArgs false
namespace Go.Proofs.Ytdkpgjhjdnfieaa
open Go.RowKit Go.Mf
set_option maxRecDepth 100000

theorem rows_nil {w : World} {S : Nat → Prop} {sz bt n c : Nat} {xs : List Value} (h : RowsIn w S sz bt (.slice none n c) n xs) : n = 0 ∧ xs = [] := by
  obtain ⟨a', c', h1, h2, h3, h4, h5, h6⟩ := h
  simp only [Value.slice.injEq] at h1
  obtain ⟨rfl, _, rfl⟩ := h1
  have : n = 0 := by
    rcases Nat.eq_zero_or_pos n with e | e
    · exact e
    · obtain ⟨b, o, e, _⟩ := h6 e; simp at e
  subst this
  exact ⟨rfl, List.length_eq_zero_iff.1 (by omega)⟩
/-- the cells of a row behind a slice that is no nil, in a later world -/
theorem rows_cells {w w' : World} {S : Nat → Prop} {sz bt n c : Nat} {a : Addr} {xs : List Value} (h : RowsIn w S sz bt (.slice (some a) n c) n xs) (hz : 0 < sz) (hb : Below w.heap.size w w') : ∀ j u, xs[j]? = some u → w'.cell? (a.add j) = some u := fun j u hu => by
  obtain ⟨a', c', h1, h2, h3, h4, h5, h6⟩ := h
  simp only [Value.slice.injEq] at h1
  obtain ⟨rfl, _, rfl⟩ := h1
  have hn : 0 < n := by
    rcases Nat.eq_zero_or_pos n with e | e
    · rw [e] at h2; have := List.length_eq_zero_iff.1 (h2.trans (Nat.zero_mul _)); rw [this] at hu; simp at hu
    · exact e
  obtain ⟨b, o, e, _, h9⟩ := h6 hn
  simp only [Option.some.injEq] at e
  subst e
  rw [Addr.add_lit]
  exact cell_later hb (h9 j u hu)

set_option maxHeartbeats 4000000 in
theorem own_any (w : World) (S : Nat → Prop) (cs : List Value) (M : MsgD) (h : MsgIn w S cs M) (hS : ∀ k, S k → k < w.heap.size) : Calls Try.prog 33 #[.agg cs.toArray] w (MsgPost w M) := by
  obtain ⟨h0, h1, h2, v1, v2, h3, h4, h5, h6⟩ := h
  obtain ⟨css, hcl, hce, hrow0⟩ := ents_rows h5
  obtain ⟨a1, c1, _, rfl, hb, _⟩ := h5
  obtain ⟨n, hn⟩ : ∃ n, M.ents.length = n := ⟨_, rfl⟩
  obtain ⟨W, hW⟩ : ∃ W, W = (w.alloc (.cells cs.toArray 42)).alloc (.cells zMsg.toArray 42) := ⟨_, rfl⟩
  have hb0 : W.heap[w.heap.size]? = some (.cells cs.toArray 42 (0, 0)) := by rw [hW]; exact heap_alloc2_old w _ _
  have hb1 : W.heap[w.heap.size + 1]? = some (.cells zMsg.toArray 42 (0, 0)) := by rw [hW]; exact heap_alloc2_new w _ _
  have hsz : W.heap.size = w.heap.size + 2 := by rw [hW]; simp
  have hbw : Below w.heap.size w W := by rw [hW]; exact ((Below.refl _ w).alloc (Nat.le_refl _) _).alloc (by simp) _
  rw [hn] at hcl hb h3 hrow0
  have c10 : W.cell? ⟨w.heap.size, 10, none⟩ = some (.slice a1 n c1) := cell_at hb0 h3
  have hlt : w.heap.size < W.heap.size := by rw [hsz]; omega
  have c10a : (W.alloc (.cells #[] 96)).cell? ⟨w.heap.size, 10, none⟩ = some (.slice a1 n c1) := cell_later ((Below.refl W.heap.size W).alloc (Nat.le_refl _) _) c10
  have hrow : RowsIn W S 50 576 (.slice a1 n c1) n css.flatten := hrow0.below hbw hS
  have HROW := Lib.hid hrow
  have HW : Hid (W = (w.alloc (.cells cs.toArray 42)).alloc (.cells zMsg.toArray 42)) := hW
  have HS := Lib.hid hS
  have H1 := Lib.hid h1
  have H2 := Lib.hid h2
  have H0 := Lib.hid h0
  have H3 := Lib.hid h3
  have H4 := Lib.hid h4
  have H6 := Lib.hid h6
  have HB0 := Lib.hid hb0
  have HB1 := Lib.hid hb1
  have HSZ := Lib.hid hsz
  have HBW := Lib.hid hbw
  have HN := Lib.hid hn
  have HCL := Lib.hid hcl
  have HCE := Lib.hid hce
  have HM : Hid ((W.alloc (.cells #[] 96)).ownsRow W.heap.size 96 50 (.slice (some ⟨W.heap.size, 0, none⟩) 0 0) 0 []) := World.ownsRow_made W #[] 0 (Nat.le_refl _) (by simp [maxLen]) rfl
  clear h0 h1 h2 h3 h4 h6 hS hb0 hb1 hsz hbw hW hn hcl hce hrow hrow0
  obtain ⟨fs42, hu42⟩ := und42
  obtain ⟨i0, hi0, hz0, hz1, hz2⟩ := info_parts info96
  have hu33 := und33
  go_enter Try.func33, Try.ntmps33
  go_upto_region 1 with fail
  change Code.wp _ _ _ _ ((w.alloc (.cells cs.toArray 42)).alloc (.cells zMsg.toArray 42))
  rw [← HW.out]
  clear HW
  go_cut [3] (fun s3 wx => ∃ G cap, s3 = .slice (some ⟨G, 0, none⟩) n cap ∧ Hid (wx.ownsRow W.heap.size 96 50 (.slice (some ⟨G, 0, none⟩) n cap) n css.flatten ∧ Below W.heap.size W wx))
  case first =>
    as_aux_lemma =>
      cases a1 with
      | none =>
        obtain ⟨rfl, hx⟩ := rows_nil HROW.out
        go_wp2
        go_meet
        refine ⟨_, _, rfl, ?_, ?_⟩
        · rw [hx]; exact HM.out
        · exact (Below.refl W.heap.size W).alloc (Nat.le_refl _) _
      | some a =>
        have HX := Lib.hid (rows_cells HROW.out (by omega) ((Below.refl W.heap.size W).alloc (Nat.le_refl _) (.cells #[] 96)))
        have HL : Hid (css.flatten.length = n * 50) := by obtain ⟨_, _, _, h2, _⟩ := HROW.out; exact h2
        have HO1 : Hid (∀ u ∈ css.flatten, u.oneCell' = true) := by obtain ⟨_, _, _, _, _, _, h5, _⟩ := HROW.out; exact h5
        go_wp2_with (at_builtin; refine wpList_append_own _ rfl _ _ 33 rfl W.heap.size 96 i0 _ 50 576 hu33 hi0 hz0 hz1 hz2 rfl (by decide) _ 0 [] rfl ?own a n c1 css.flatten rfl ?len ?c1 ?c2 ?c3 ?c4 ?c5 ?_)
        case own => exact HM.out
        case len => exact HL.out
        case c1 => exact HX.out
        case c2 => exact HO1.out
        case c3 => simp only [maxLen]; omega
        case c4 => omega
        case c5 => simp
        intro v' w1 hown' hgrow hnil
        have HB := Lib.hid (((Below.refl W.heap.size W).alloc (Nat.le_refl _) (.cells #[] 96)).grown hgrow (by simp) (fun q hq => (HM.out.lt q hq).1))
        have hsh : ∃ G cap, v' = .slice (some ⟨G, 0, none⟩) n cap := by
          rcases hown'.2 with ⟨e, _⟩ | ⟨g, cap, cur, e, _⟩
          · exact (hnil e).elim
          · exact ⟨g, cap, e⟩
        obtain ⟨G, cap, rfl⟩ := hsh
        have HO := Lib.hid hown'
        clear hown' hgrow hnil
        go_wp2
        go_meet
        exact ⟨_, _, rfl, HO.out, HB.out⟩
  case rest =>
    obtain ⟨G, cap, rfl, hst⟩ := hcut
    obtain ⟨w1, rfl⟩ : ∃ v : World, v = wc := ⟨_, rfl⟩
    have hcop : CopInv w S M.ents cs G cap 0 w1 := cop_start (HBW.out.trans (hst.out.2.mono (by rw [HSZ.out]; omega))) HS.out ((hst.out.2.block _ (by rw [HSZ.out]; omega)).trans HB0.out) ((hst.out.2.block _ (by rw [HSZ.out]; omega)).trans HB1.out)
      (by rw [HN.out]; exact HCL.out) (by rw [HN.out, ← HSZ.out]; exact hst.out.1) HCE.out
    have HC0 := Lib.hid hcop
    clear hcop hst c10 c10a
    go_wp2
    go_loopw [4] (fun i wr => ∃ k : Nat, k ≤ n ∧ i = .int .i64 k ∧ Hid (CopInv w S M.ents cs G cap k wr)) (fun i _ => n - (intOf i).toNat)
    case atStart => exact ⟨0, by omega, rfl, HC0.out⟩
    case round =>
      obtain ⟨k, hk, rfl, hst⟩ := hrel
      by_cases hkn : k < n
      · obtain ⟨es, hes⟩ := hst.out.css
        obtain ⟨E, hE⟩ : ∃ E, M.ents[k]? = some E := ⟨M.ents[k]'(by rw [HN.out]; exact hkn), List.getElem?_eq_getElem _⟩
        obtain ⟨c, hc⟩ : ∃ c, es[k]? = some c := ⟨es[k]'(by rw [hes.2.2.2.1, HN.out]; exact hkn), List.getElem?_eq_getElem _⟩
        have hent := hes.2.2.2.2.2 k c E hc hE
        rw [if_neg (Nat.lt_irrefl k)] at hent
        obtain ⟨v1, v2', v3, e1, e2, e3, q1, q2, q3⟩ := ent_get hent
        have hst0 := own_st0 hes.2.2.2.2.1 hes.2.2.2.1 hes.len hc
        rw [HN.out] at hst0
        have HES := Lib.hid hes
        have HE := Lib.hid hE
        have HC := Lib.hid hc
        have HST0 := Lib.hid hst0
        have E1 := Lib.hid e1
        have E2w := Lib.hid e2
        have E3w := Lib.hid e3
        have Q1 := Lib.hid q1
        have Q2w := Lib.hid q2
        have Q3w := Lib.hid q3
        have HSG : Hid (∀ q, S q → q ≠ G) := fun q hq e => by have := HS.out q hq; have := (hes.2.2.2.2.1.lt G rfl).1; omega
        obtain ⟨wk, rfl⟩ : ∃ wk : World, wk = wr := ⟨_, rfl⟩
        clear hes hE hc hent hst0 e1 e2 e3 q1 q2 q3 hst HC0
        go_upto_region 5 with fail
        have m1 : E.act.nt * 16 ≤ 140737488355328 ∧ E.act.nt ≤ 140737488355328 := by obtain ⟨_, _, _, _, x3, x4, _⟩ := Q1.out; exact ⟨x3, x4⟩
        have L1 : Hid (E.act.tos.length = E.act.nt * 1) := by obtain ⟨_, _, _, x2, _⟩ := Q1.out; exact x2
        have O1 : Hid (∀ u ∈ E.act.tos, u.oneCell' = true) := by obtain ⟨_, _, _, _, _, _, x5, _⟩ := Q1.out; exact x5
        go_cut [] from 10 to 60 (fun wx => ∃ r1, Hid (OwnSt (w.heap.size + 2) G n cap k es wk wx (c.set 11 r1) ∧ RowsIn wx (fun q => wk.heap.size ≤ q ∧ q < wx.heap.size ∧ Thaw wx q) 1 16 r1 E.act.nt E.act.tos))
        case first =>
          as_aux_lemma =>
            have hb := (Below.refl wk.heap.size wk).alloc (Nat.le_refl _) (.cells #[] 9)
            have HB := Lib.hid hb
            have HOM : Hid ((wk.alloc (.cells #[] 9)).ownsRow wk.heap.size 9 1 (.slice (some ⟨wk.heap.size, 0, none⟩) 0 0) 0 []) := World.ownsRow_made wk #[] 0 (Nat.le_refl _) (by simp [maxLen]) rfl
            obtain ⟨d1, d2⟩ := HST0.out.cell hb E1.out
            have HG : Hid (G < wk.heap.size) := by obtain ⟨⟨_, _, _, x3⟩, _, _, x6, _⟩ := HST0.out; show G < wk.heap.size; omega
            clear hb
            rcases rows_own Q1.out (by omega) 9 with ⟨c0, rfl, h1, h2⟩ | ⟨a, c0, rfl, h1⟩
            · have HOX : Hid ((wk.alloc (.cells #[] 9)).ownsRow wk.heap.size 9 1 (.slice (some ⟨wk.heap.size, 0, none⟩) 0 0) E.act.nt E.act.tos) := by rw [h1, h2]; exact HOM.out
              clear h1 h2
              go_wp2
              go_meet
              have hbb := HB.out
              have ho := HOX.out
              exact ⟨_, HST0.out.step (i := 11) (v := .slice (some ⟨wk.heap.size, 0, none⟩) 0 0) hbb (by omega), (rows_put (o := k * 50 + 11) (by omega) Q1.out hbb ho HG.out).keep (fun q hq => ⟨by have := HST0.out.1.2.2.2; omega, hq.2.1, hq.2.2⟩) (fun _ _ _ => rfl)⟩
            · have HX := Lib.hid (h1 _ HB.out)
              clear h1
              obtain ⟨i1, hi1, hz01, hz11, hz21⟩ := info_parts info9
              go_wp2_with (at_builtin; refine wpList_append_own _ rfl _ _ 38 rfl wk.heap.size 9 i1 _ 1 16 und38 hi1 hz01 hz11 hz21 rfl (by decide) _ 0 [] rfl ?own a E.act.nt c0 E.act.tos rfl ?len ?c1 ?c2 ?c3 ?c4 ?c5 ?_)
              case own => exact HOM.out
              case len => exact L1.out
              case c1 => exact HX.out
              case c2 => exact O1.out
              case c3 => simp only [maxLen]; omega
              case c4 => omega
              case c5 => simp
              intro v' b1 hown' hgrow hnil
              have hbb := HB.out.grown hgrow (by simp) (fun q hq => (HOM.out.lt q hq).1)
              obtain ⟨d3, d4⟩ := HST0.out.cell hbb E1.out
              obtain ⟨x1, x2, rfl⟩ := ownsRow_shape hown'
              have HBB := Lib.hid hbb
              have HO := Lib.hid hown'
              clear hbb hown' hgrow hnil
              go_wp2
              go_meet
              have hbb := HBB.out
              exact ⟨_, HST0.out.step (i := 11) (v := .slice x1 E.act.nt x2) hbb (by omega), (rows_put (o := k * 50 + 11) (by omega) Q1.out hbb HO.out HG.out).keep (fun q hq => ⟨by have := HST0.out.1.2.2.2; omega, hq.2.1, hq.2.2⟩) (fun _ _ _ => rfl)⟩
        case rest =>
          obtain ⟨r1, hcut⟩ := hcut
          obtain ⟨w5, rfl⟩ : ∃ v : World, v = wc := ⟨_, rfl⟩
          have HST1 := Lib.hid hcut.out.1
          have R1 := Lib.hid hcut.out.2
          clear hcut
          have Q2n := Lib.hid (HST1.out.old Q2w.out HSG.out)
          have Q2 := Lib.hid Q2n.out
          clear Q2n
          have E2 : Hid ((c.set 11 r1)[17]? = some v2') := by rw [List.getElem?_set_ne (by omega)]; exact E2w.out
          have m2 : E.act.nw * 64 ≤ 140737488355328 ∧ E.act.nw ≤ 140737488355328 := by obtain ⟨_, _, _, _, x3, x4, _⟩ := Q2.out; exact ⟨x3, x4⟩
          have L2 : Hid (E.act.wr.length = E.act.nw * 5) := by obtain ⟨_, _, _, x2, _⟩ := Q2.out; exact x2
          have O2 : Hid (∀ u ∈ E.act.wr, u.oneCell' = true) := by obtain ⟨_, _, _, _, _, _, x5, _⟩ := Q2.out; exact x5
          go_upto_region 6 with fail
          go_cut [] from 10 to 60 (fun wx => ∃ r2, Hid (OwnSt (w.heap.size + 2) G n cap k es wk wx ((c.set 11 r1).set 17 r2) ∧ RowsIn wx (fun q => wk.heap.size ≤ q ∧ q < wx.heap.size ∧ Thaw wx q) 1 16 r1 E.act.nt E.act.tos ∧ RowsIn wx (fun q => wk.heap.size ≤ q ∧ q < wx.heap.size ∧ Thaw wx q) 5 64 r2 E.act.nw E.act.wr))
          case first =>
            as_aux_lemma =>
              have hb := (Below.refl w5.heap.size w5).alloc (Nat.le_refl _) (.cells #[] 99)
              have HB := Lib.hid hb
              have HOM : Hid ((w5.alloc (.cells #[] 99)).ownsRow w5.heap.size 99 5 (.slice (some ⟨w5.heap.size, 0, none⟩) 0 0) 0 []) := World.ownsRow_made w5 #[] 0 (Nat.le_refl _) (by simp [maxLen]) rfl
              obtain ⟨d1, d2⟩ := HST1.out.cell hb E2.out
              have HG : Hid (G < w5.heap.size) := by obtain ⟨⟨_, _, _, x3⟩, _, _, x6, _⟩ := HST1.out; show G < w5.heap.size; omega
              clear hb
              rcases rows_own Q2.out (by omega) 99 with ⟨c0, rfl, h1, h2⟩ | ⟨a, c0, rfl, h1⟩
              · have HOX : Hid ((w5.alloc (.cells #[] 99)).ownsRow w5.heap.size 99 5 (.slice (some ⟨w5.heap.size, 0, none⟩) 0 0) E.act.nw E.act.wr) := by rw [h1, h2]; exact HOM.out
                clear h1 h2
                go_wp2
                go_meet
                have hbb := HB.out
                have ho := HOX.out
                exact ⟨_, HST1.out.step (i := 17) (v := .slice (some ⟨w5.heap.size, 0, none⟩) 0 0) hbb (by omega), HST1.out.rows (i := 17) hbb (by omega) R1.out, (rows_put (o := k * 50 + 17) (by omega) Q2.out hbb ho HG.out).keep (fun q hq => ⟨by have := HST1.out.1.2.2.2; omega, hq.2.1, hq.2.2⟩) (fun _ _ _ => rfl)⟩
              · have HX := Lib.hid (h1 _ HB.out)
                clear h1
                obtain ⟨i1, hi1, hz01, hz11, hz21⟩ := info_parts info99
                go_wp2_with (at_builtin; refine wpList_append_own _ rfl _ _ 84 rfl w5.heap.size 99 i1 _ 5 64 und84 hi1 hz01 hz11 hz21 rfl (by decide) _ 0 [] rfl ?own a E.act.nw c0 E.act.wr rfl ?len ?c1 ?c2 ?c3 ?c4 ?c5 ?_)
                case own => exact HOM.out
                case len => exact L2.out
                case c1 => exact HX.out
                case c2 => exact O2.out
                case c3 => simp only [maxLen]; omega
                case c4 => omega
                case c5 => simp
                intro v' b1 hown' hgrow hnil
                have hbb := HB.out.grown hgrow (by simp) (fun q hq => (HOM.out.lt q hq).1)
                obtain ⟨d3, d4⟩ := HST1.out.cell hbb E2.out
                obtain ⟨x1, x2, rfl⟩ := ownsRow_shape hown'
                have HBB := Lib.hid hbb
                have HO := Lib.hid hown'
                clear hbb hown' hgrow hnil
                go_wp2
                go_meet
                have hbb := HBB.out
                exact ⟨_, HST1.out.step (i := 17) (v := .slice x1 E.act.nw x2) hbb (by omega), HST1.out.rows (i := 17) hbb (by omega) R1.out, (rows_put (o := k * 50 + 17) (by omega) Q2.out hbb HO.out HG.out).keep (fun q hq => ⟨by have := HST1.out.1.2.2.2; omega, hq.2.1, hq.2.2⟩) (fun _ _ _ => rfl)⟩
          case rest =>
            obtain ⟨r2, hcut⟩ := hcut
            obtain ⟨w6, rfl⟩ : ∃ v : World, v = wc := ⟨_, rfl⟩
            have HST2 := Lib.hid hcut.out.1
            have R1x := Lib.hid hcut.out.2.1
            have R2 := Lib.hid hcut.out.2.2
            clear R1
            have R1 := Lib.hid R1x.out
            clear R1x
            clear hcut
            have Q3n := Lib.hid (HST2.out.old Q3w.out HSG.out)
            have Q3 := Lib.hid Q3n.out
            clear Q3n
            have E3 : Hid (((c.set 11 r1).set 17 r2)[44]? = some v3) := by rw [List.getElem?_set_ne (by omega), List.getElem?_set_ne (by omega)]; exact E3w.out
            have m3 : E.nd * 16 ≤ 140737488355328 ∧ E.nd ≤ 140737488355328 := by obtain ⟨_, _, _, _, x3, x4, _⟩ := Q3.out; exact ⟨x3, x4⟩
            have L3 : Hid (E.dto.length = E.nd * 1) := by obtain ⟨_, _, _, x2, _⟩ := Q3.out; exact x2
            have O3 : Hid (∀ u ∈ E.dto, u.oneCell' = true) := by obtain ⟨_, _, _, _, _, _, x5, _⟩ := Q3.out; exact x5
            have hb := (Below.refl w6.heap.size w6).alloc (Nat.le_refl _) (.cells #[] 9)
            have HB := Lib.hid hb
            have HOM : Hid ((w6.alloc (.cells #[] 9)).ownsRow w6.heap.size 9 1 (.slice (some ⟨w6.heap.size, 0, none⟩) 0 0) 0 []) := World.ownsRow_made w6 #[] 0 (Nat.le_refl _) (by simp [maxLen]) rfl
            obtain ⟨d1, d2⟩ := HST2.out.cell hb E3.out
            have HG : Hid (G < w6.heap.size) := by obtain ⟨⟨_, _, _, x3⟩, _, _, x6, _⟩ := HST2.out; show G < w6.heap.size; omega
            clear hb
            rcases rows_own Q3.out (by omega) 9 with ⟨c0, rfl, h1, h2⟩ | ⟨a, c0, rfl, h1⟩
            · as_aux_lemma =>
                have HOX : Hid ((w6.alloc (.cells #[] 9)).ownsRow w6.heap.size 9 1 (.slice (some ⟨w6.heap.size, 0, none⟩) 0 0) E.nd E.dto) := by rw [h1, h2]; exact HOM.out
                have HBB := HB
                clear h1 h2
                have hbb := HBB.out
                have hs3 := HST2.out.step (i := 44) (v := .slice (some ⟨w6.heap.size, 0, none⟩) 0 0) hbb (by omega)
                have hr1 := HST2.out.rows (i := 44) (v := .slice (some ⟨w6.heap.size, 0, none⟩) 0 0) hbb (by omega) R1.out
                have hr2 := HST2.out.rows (i := 44) (v := .slice (some ⟨w6.heap.size, 0, none⟩) 0 0) hbb (by omega) R2.out
                have hr3 := (rows_put (o := k * 50 + 44) (by omega) Q3.out hbb HOX.out HG.out).keep (S' := fun q => wk.heap.size ≤ q ∧ q < (_ : World).heap.size ∧ Thaw (_ : World) q) (fun q hq => ⟨by have := HST2.out.1.2.2.2; omega, hq.2.1, hq.2.2⟩) (fun _ _ _ => rfl)
                have hres := own_round HES.out HE.out HC.out HS.out (by rw [HN.out]; exact hs3) hr1 hr2 hr3
                have HRES := Lib.hid hres
                clear hres hs3 hr1 hr2 hr3 hbb HST0 HST1 HST2 R1 R2 HES
                go_wp2
                go_roundw
                case rel => exact ⟨k + 1, by omega, by go_num, HRES.out⟩
                case measure => simp [intOf]; omega
            · as_aux_lemma =>
                have HX := Lib.hid (h1 _ HB.out)
                clear h1
                obtain ⟨i1, hi1, hz01, hz11, hz21⟩ := info_parts info9
                go_wp2_with (at_builtin; refine wpList_append_own _ rfl _ _ 38 rfl w6.heap.size 9 i1 _ 1 16 und38 hi1 hz01 hz11 hz21 rfl (by decide) _ 0 [] rfl ?own a E.nd c0 E.dto rfl ?len ?c1 ?c2 ?c3 ?c4 ?c5 ?_)
                case own => exact HOM.out
                case len => exact L3.out
                case c1 => exact HX.out
                case c2 => exact O3.out
                case c3 => simp only [maxLen]; omega
                case c4 => omega
                case c5 => simp
                intro v' b1 hown' hgrow hnil
                have hbb := HB.out.grown hgrow (by simp) (fun q hq => (HOM.out.lt q hq).1)
                obtain ⟨d3, d4⟩ := HST2.out.cell hbb E3.out
                obtain ⟨x1, x2, rfl⟩ := ownsRow_shape hown'
                have HBB := Lib.hid hbb
                have HO := Lib.hid hown'
                clear hbb hown' hgrow hnil
                have hbb := HBB.out
                have hs3 := HST2.out.step (i := 44) (v := .slice x1 E.nd x2) hbb (by omega)
                have hr1 := HST2.out.rows (i := 44) (v := .slice x1 E.nd x2) hbb (by omega) R1.out
                have hr2 := HST2.out.rows (i := 44) (v := .slice x1 E.nd x2) hbb (by omega) R2.out
                have hr3 := (rows_put (o := k * 50 + 44) (by omega) Q3.out hbb HO.out HG.out).keep (S' := fun q => wk.heap.size ≤ q ∧ q < (_ : World).heap.size ∧ Thaw (_ : World) q) (fun q hq => ⟨by have := HST2.out.1.2.2.2; omega, hq.2.1, hq.2.2⟩) (fun _ _ _ => rfl)
                have hres := own_round HES.out HE.out HC.out HS.out (by rw [HN.out]; exact hs3) hr1 hr2 hr3
                have HRES := Lib.hid hres
                clear hres hs3 hr1 hr2 hr3 hbb HST0 HST1 HST2 R1 R2 HES
                go_wp2
                go_roundw
                case rel => exact ⟨k + 1, by omega, by go_num, HRES.out⟩
                case measure => simp [intOf]; omega
      · have hkn2 : k = M.ents.length := by rw [HN.out]; omega
        have hst2 := hst.out
        rw [hkn2] at hst2
        have he := cop_done hst2 (by rw [HN.out]; exact hb)
        rw [HN.out] at he
        have g2 := hst2.2.1
        have g3 := hst2.2.2.1
        have c10c : wr.cell? ⟨w.heap.size, 10, none⟩ = some (.slice a1 n c1) := cell_at g2 H3.out
        have f10c : wr.frozen? ⟨w.heap.size, 10, none⟩ = false := frozen_of_block g2 _
        obtain ⟨w8, hw8⟩ : ∃ v, v = wr.setCell ⟨w.heap.size, 10, none⟩ (.slice (some ⟨G, 0, none⟩) n cap) := ⟨_, rfl⟩
        have k2 : w8.heap[w.heap.size]? = some (.cells (cs.set 10 (.slice (some ⟨G, 0, none⟩) n cap)).toArray 42 (0, 0)) := by rw [hw8]; have := setCell_block g2 10 (.slice (some ⟨G, 0, none⟩) n cap); simpa using this
        have k3 : w8.heap[w.heap.size + 1]? = some (.cells zMsg.toArray 42 (0, 0)) := by rw [hw8, Below.heap_setCell _ _ _ _ (show w.heap.size + 1 ≠ w.heap.size by omega)]; exact g3
        have hbr : Below w.heap.size w w8 := by rw [hw8]; exact hst2.1.setCell (Nat.le_refl _) _
        have he8 : EntsW w8 (fun q => w.heap.size + 2 ≤ q) (.slice (some ⟨G, 0, none⟩) n cap) M.ents := he.keep (fun _ h _ => h) (fun q hq _ => by rw [hw8]; exact Below.heap_setCell _ _ _ _ (show q ≠ w.heap.size by omega))
        have hr8 : RowsIn w8 S 1 16 v2 M.nl M.link := H6.out.below hbr HS.out
        have hlt8 : w.heap.size < w8.heap.size := (Array.getElem?_eq_some_iff.1 k2).1
        have K2 := Lib.hid k2
        have K3 := Lib.hid k3
        have HBR := Lib.hid hbr
        have HE8 := Lib.hid he8
        have HR8 := Lib.hid hr8
        have HW8 : Hid (w8 = wr.setCell ⟨w.heap.size, 10, none⟩ (.slice (some ⟨G, 0, none⟩) n cap)) := hw8
        have hb9 := (Below.refl w8.heap.size w8).alloc (Nat.le_refl _) (.cells #[] 9)
        have HB := Lib.hid hb9
        have HOM : Hid ((w8.alloc (.cells #[] 9)).ownsRow w8.heap.size 9 1 (.slice (some ⟨w8.heap.size, 0, none⟩) 0 0) 0 []) := World.ownsRow_made w8 #[] 0 (Nat.le_refl _) (by simp [maxLen]) rfl
        have h33 : (cs.set 10 (.slice (some ⟨G, 0, none⟩) n cap))[33]? = some v2 := by rw [List.getElem?_set_ne (by omega)]; exact H4.out
        have HQ : ∀ b, Hid (Below w8.heap.size w8 b → b.cell? ⟨w.heap.size, 33, none⟩ = some v2 ∧ b.frozen? ⟨w.heap.size, 33, none⟩ = false) := fun b hb => by
          have g := (hb.block _ hlt8).trans k2
          exact ⟨cell_at g h33, frozen_of_block g _⟩
        have m4 : M.nl * 16 ≤ 140737488355328 ∧ M.nl ≤ 140737488355328 := by obtain ⟨_, _, _, _, x3, x4, _⟩ := hr8; exact ⟨x3, x4⟩
        have L4 : Hid (M.link.length = M.nl * 1) := by obtain ⟨_, _, _, x2, _⟩ := hr8; exact x2
        have O4 : Hid (∀ u ∈ M.link, u.oneCell' = true) := by obtain ⟨_, _, _, _, _, _, x5, _⟩ := hr8; exact x5
        have hlt9 : w.heap.size < w8.heap.size := hlt8
        have HLT := Lib.hid hlt9
        clear hst2 he g2 g3 k2 k3 hbr he8 hr8 hw8 hb9 h33 hst hkn2 HC0 hlt8 hlt9
        go_upto_region 9 with fail
        change Code.wp _ _ _ _ (wr.setCell ⟨w.heap.size, 10, none⟩ (.slice (some ⟨G, 0, none⟩) n cap))
        rw [← HW8.out]
        clear HW8 c10c f10c
        go_cut [] (fun wx => ∃ w4 a4 c4, Hid (wx = World.setCell w4 ⟨w.heap.size, 33, none⟩ (.slice a4 M.nl c4) ∧ Below w8.heap.size w8 w4 ∧ w4.ownsRow w8.heap.size 9 1 (.slice a4 M.nl c4) M.nl M.link))
        case first =>
          as_aux_lemma =>
            obtain ⟨d1, d2⟩ := (HQ _).out HB.out
            rcases rows_own HR8.out (by omega) 9 with ⟨c0, rfl, h1, h2⟩ | ⟨a, c0, rfl, h1⟩
            · have HOX : Hid ((w8.alloc (.cells #[] 9)).ownsRow w8.heap.size 9 1 (.slice (some ⟨w8.heap.size, 0, none⟩) M.nl 0) M.nl M.link) := by rw [h1, h2]; exact HOM.out
              have H1x := Lib.hid h1
              clear h1 h2
              go_wp2
              go_meet
              exact ⟨_, some ⟨w8.heap.size, 0, none⟩, 0, by rw [H1x.out], HB.out, HOX.out⟩
            · have HX := Lib.hid (h1 _ HB.out)
              clear h1
              obtain ⟨i1, hi1, hz01, hz11, hz21⟩ := info_parts info9
              go_wp2_with (at_builtin; refine wpList_append_own _ rfl _ _ 38 rfl w8.heap.size 9 i1 _ 1 16 und38 hi1 hz01 hz11 hz21 rfl (by decide) _ 0 [] rfl ?own a M.nl c0 M.link rfl ?len ?c1 ?c2 ?c3 ?c4 ?c5 ?_)
              case own => exact HOM.out
              case len => exact L4.out
              case c1 => exact HX.out
              case c2 => exact O4.out
              case c3 => simp only [maxLen]; omega
              case c4 => omega
              case c5 => simp
              intro v' b1 hown' hgrow hnil
              have hbb := HB.out.grown hgrow (by simp) (fun q hq => (HOM.out.lt q hq).1)
              obtain ⟨d3, d4⟩ := (HQ _).out hbb
              obtain ⟨x1, x2, rfl⟩ := ownsRow_shape hown'
              have HBB := Lib.hid hbb
              have HO := Lib.hid hown'
              clear hbb hown' hgrow hnil
              go_wp2
              go_meet
              exact ⟨b1, x1, x2, rfl, HBB.out, HO.out⟩
        case rest =>
          as_aux_lemma =>
            obtain ⟨w4, a4, c4, hcut⟩ := hcut
            obtain ⟨W5, rfl⟩ : ∃ v : World, v = wc := ⟨_, rfl⟩
            obtain ⟨cs', hcs'⟩ : ∃ cs', cs' = (cs.set 10 (.slice (some ⟨G, 0, none⟩) n cap)).set 33 (.slice a4 M.nl c4) := ⟨_, rfl⟩
            have hfin := msg_fin H0.out H1.out H2.out (v' := (.slice (some ⟨G, 0, none⟩) n cap)) rfl HBR.out K3.out K2.out rfl HE8.out HR8.out hcut.out.2.1 hcut.out.2.2 hcs' hcut.out.1
            obtain ⟨z1, z2, z3, z4, z5, z6⟩ := hfin
            have Z1 := Lib.hid z1
            have Z2 : Hid (cs'.toArray.size = 34) := by show cs'.toArray.size = 34; simpa using z2
            have Z3 := Lib.hid z3
            have Z4 := Lib.hid z4
            have Z5 := Lib.hid z5
            have Z6 := Lib.hid z6
            obtain ⟨fs42, hu42⟩ := und42
            clear z1 z2 z3 z4 z5 z6 hcs' hcut
            go_wp2_with (first
              | (refine wpList_load_row rfl 42 _ rfl w.heap.size rfl 42 cs'.toArray (0, 0) _ Z1.out hu42 rfl ?i1 ?_; (case i1 => rw [Z2.out]; exact size42))
              | (refine wpList_store_mid rfl 42 _ _ rfl (w.heap.size + 1) 0 cs'.toArray rfl rfl ?i2 ?i3 ?i4 ?_; (case i2 => rw [Z2.out]; exact Z4.out); (case i3 => rw [Z2.out]; exact size42); (case i4 => exact all_oneCell_toArray Z3.out)))
            exact bodyPost_ret (v := .agg cs'.toArray) (results_cell_row rfl _ _ (w.heap.size + 1) 42 cs'.toArray (0, 0) _ rfl Z5.out hu42 rfl (by rw [Z2.out]; exact size42)) rfl Z6.out
end Go.Proofs.Ytdkpgjhjdnfieaa
