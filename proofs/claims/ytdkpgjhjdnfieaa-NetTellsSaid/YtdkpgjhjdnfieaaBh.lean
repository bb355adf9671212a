/- NetTells as a run: it returns true. Condition: its arguments read as steps whose messages' cells are of their kinds. -/
import Derived.Test.YtdkpgjhjdnfieaaBg
import Derived.Test.YtdkpgjhjdnfieaaAg
import Derived.Deep.CutBlock
import Derived.Deep.QuietTactic
import Derived.BigQuiet
import Derived.IntWalk
set_option linter.unusedVariables false
set_option linter.unusedSimpArgs false
namespace Go.Rg
open Go
section
variable {P : Program} {ops : Array Oper} {Q : Exit → Act → World → Prop} {md : Region.Mode} {S : Nat → World → Prop}
/-- as take; the new frame may be written out -/
theorem takeK (i : Nat) {oi : Oper} {v : Value} {T : World → Prop} {n : Nat} {l : Array Bool} {a : Act} {w : World} (hi : ops[i]? = some oi) (hsel : Region.noSelect ops = true) (hf : Region.free md ops l i = true) (hr : (Region.ready md ops l).contains i = true)
    (hQ : ∀ c a w, Q (.panic c) (a.put oi.dst v) w → Q (.panic c) a w) (hT : Lets md ops i S T) (hSi : ∀ w, T w → S i w) (hy : YieldsIf P ops T oi v a) (ht : T w)
    (h : ∀ K : Act → Prop, Shut (∀ b, Any P md ops Q S n (l.setIfInBounds i true) b w → K b) → K (a.put oi.dst v)) : Any P md ops Q S (n + 1) l a w :=
  take i hi hsel hf hr hQ hT hSi hy ht (h (fun b => Any P md ops Q S n (l.setIfInBounds i true) b w) (fun _ h => h))
end
end Go.Rg
namespace Go.Proofs.Ytdkpgjhjdnfieaa
open Go.RowKit Go.Mf
set_option maxRecDepth 100000

def LawPost (w : World) : Ending → World → Prop := fun e w' => e = .returned (.bool true) ∧ Below w.heap.size w w'
theorem size44 : (Try.prog.info? 44).map (·.size) = some 38 := by kernel_rfl
theorem und44 : ∃ fs, Try.prog.underlying 44 = some (.struct fs) := ⟨_, rfl⟩
def zStep : List Value := [.int .i64 0, .int .i64 0, .int .i64 0, .int .i64 0] ++ zMsg
theorem step_range {w : World} {S : Nat → Prop} {b p : Nat} {s : StepD} (h : StepIn w S b p s) : ∃ cs : List Value, w.rangeAt b p (stepCells s.d s.f s.t s.i cs) ∧ MsgIn w S cs s.m ∧ cs[1]? = some (.int .i64 s.mf) ∧ cs[2]? = some (.int .i64 s.mt) ∧ i64ok s.d := by
  obtain ⟨h0, h1, h2, h3, hd, _, _, _, cs, h4, h5, h6, h7⟩ := h
  refine ⟨cs, fun j u hu => ?_, h5, h6, h7, hd⟩
  unfold stepCells at hu
  match j, hu with
  | 0, hu => simp at hu; subst hu; exact h0
  | 1, hu => simp at hu; subst hu; exact h1
  | 2, hu => simp at hu; subst hu; exact h2
  | 3, hu => simp at hu; subst hu; exact h3
  | j + 4, hu =>
    rw [List.getElem?_append_right (by simp)] at hu
    simp only [List.length_cons, List.length_nil, Nat.reduceAdd, Nat.add_sub_cancel] at hu
    rw [show p + (j + 4) = p + 4 + j by omega]
    exact h4 j u hu
theorem step_all {d f t i : Int} {cs : List Value} (h : ∀ u ∈ cs, u.oneCell' = true) : ∀ u ∈ stepCells d f t i cs, u.oneCell' = true := fun u hu => by
  unfold stepCells at hu
  rcases List.mem_append.1 hu with hu | hu
  · simp only [List.mem_cons, List.not_mem_nil, or_false] at hu
    rcases hu with rfl | rfl | rfl | rfl <;> rfl
  · exact h u hu

theorem tst_start {w w1 w2 w3 : World} {x n : Nat} {S : Nat → Prop} (h0 : Below w.heap.size w w1) (hn : NetOk w2 S x ⟨n, fun _ _ => [], fun _ _ => false⟩) (hS : ∀ k, S k → w1.heap.size ≤ k) (hb2 : Below w1.heap.size w1 w2) (hr : RefIn w3 (fun k => k = w2.heap.size) w2.heap.size n (.slice none 0 0) (.slice none 0 0) [] []) (hb3 : Below w2.heap.size w2 w3) (hn20 : n ≤ 20) :
    TSt w x w2.heap.size 0 w3 := by
  have s0 := h0.size
  have s2 := hb2.size
  have s3 := hb3.size
  have hz : ∀ n m, sumTo (fun _ => sumTo (fun _ => 0) m) n = 0 := fun n m => by
    rw [show sumTo (fun _ => 0) m = 0 from sumTo_zero m]; exact sumTo_zero n
  refine ⟨S, _, _, _, _, [], [], ⟨⟨netOk_up hn hb3, fun k hk => Nat.le_trans s0 (hS k hk), (h0.trans (hb2.mono s0)).trans (hb3.mono (by omega))⟩, hr, fun k hs ht => ?_, by omega, fun m hm => by simp at hm, fun a b _ => rfl, fun a b _ p c m h _ => by simp at h, fun a b _ => rfl, fun a b h => by simp [offOf] at h, hz n n⟩, hn20, Nat.le_refl _, Nat.le_refl _, fun i j => Nat.le_refl _⟩
  have := hn.1 k hs
  have ht' : k = w2.heap.size := ht
  omega
/-- what stands before the test of a round -/
def TMid (w0 : World) (x y k B9 B10 B11 : Nat) (scs : List Value) (w : World) : Prop :=
  TSt w0 x y k w ∧ w.heap[B9]? = some (.cells scs.toArray 44 (0, 0)) ∧ ∃ c1 c2, w.heap[B10]? = some (.cells c1.toArray 42 (0, 0)) ∧ w.heap[B11]? = some (.cells c2.toArray 42 (0, 0)) ∧ Alike2 w c1 c2

theorem tmid_of {w0 W1 w8 : World} {S : Nat → Prop} {x y k B9 B10 B11 : Nat} {sc : List Value} (h : TSt w0 x y k w8) (hk : KeptB S y W1 w8) (n9 : ¬ S B9 ∧ B9 ≠ y) (n10 : ¬ S B10 ∧ B10 ≠ y) (n11 : ¬ S B11 ∧ B11 ≠ y)
    (b9 : W1.heap[B9]? = some (.cells sc.toArray 44 (0, 0))) (b10 : W1.heap[B10]? = some (.cells zMsg.toArray 42 (0, 0))) (b11 : W1.heap[B11]? = some (.cells zMsg.toArray 42 (0, 0))) : TMid w0 x y k B9 B10 B11 sc w8 := by
  have lt : ∀ {q : Nat} {o : Obj}, W1.heap[q]? = some o → q < W1.heap.size := fun h => (Array.getElem?_eq_some_iff.1 h).1
  exact ⟨h, (hk.2 _ (lt b9) n9.1 n9.2).trans b9, zMsg, zMsg, (hk.2 _ (lt b10) n10.1 n10.2).trans b10, (hk.2 _ (lt b11) n11.1 n11.2).trans b11, alike_z _⟩
set_option maxHeartbeats 4000000 in
theorem tells_raw (w : World) (S0 : Nat → Prop) (n0 : Int) (v : Value) (l : List StepD) (hl : StepsIn w S0 v l) (hS0 : ∀ k, S0 k → k < w.heap.size) (hT : ∀ s ∈ l, MsgTy s.m) : Calls Try.prog 3 #[.int .i64 n0, v] w (LawPost w) := by
  have hl0 := hl
  obtain ⟨av, cv, rfl, hlen, hrows⟩ := hl
  have HL0 := Lib.hid hl0
  have HR := Lib.hid hrows
  have HS0 := Lib.hid hS0
  have HT := Lib.hid hT
  obtain ⟨len, hlenv⟩ : ∃ len, l.length = len := ⟨_, rfl⟩
  have HLEN := Lib.hid hlenv
  rw [hlenv] at hlen HL0 ⊢
  clear hl0 hrows hS0 hT hlenv
  go_enter Try.func3, Try.ntmps3
  go_wp2_with fail
  refine (small_any _).mono ?_
  rintro e w1 ⟨rfl, hb1⟩
  go_wp2_with fail
  refine (new_any _ n0).mono ?_
  rintro e w2 ⟨x, rfl, hnet, hb2⟩
  have hn20 := many_le n0
  have HN20 := Lib.hid hn20
  have HB1 := Lib.hid hb1
  have HB2 := Lib.hid hb2
  have HNET := Lib.hid hnet
  have hb12 : Below w.heap.size w w2 := hb1.trans (hb2.mono hb1.size)
  have HB12 := Lib.hid hb12
  have hsteps : StepsIn w2 S0 (.slice av len cv) l := by
    obtain ⟨a, c, h1, h2, h3⟩ := HL0.out
    refine ⟨a, c, h1, h2, fun hne => ?_⟩
    obtain ⟨b, o, h4, h5, h6⟩ := h3 hne
    exact ⟨b, o, h4, h5, fun j s hs => (h6 j s hs).keep h5 (fun k hk _ => hb12.block k (HS0.out k hk))⟩
  have hfw := Lib.hid (few_any w2 S0 _ l hsteps)
  clear hsteps HL0 hn20 hb1 hb2 hnet hb12
  go_wp2_with fail
  refine hfw.out.mono ?_
  rintro e w3 ⟨bf, rfl, rfl, hbf⟩
  clear hfw
  cases bf with
  | false =>
    clear hbf
    have HFIN := HB12
    go_wp2
    go_ret
    exact ⟨rfl, HFIN.out⟩
  | true =>
    obtain ⟨h60, _⟩ := hbf rfl
    rw [HLEN.out] at h60
    obtain ⟨w2, rfl⟩ : ∃ v : World, v = w3 := ⟨_, rfl⟩
    clear hbf
    go_wp2_with fail
    refine (rnew_any _ n0).mono ?_
    rintro e w4 ⟨rfl, hr, hb4⟩
    have hst := tst_start HB1.out ⟨fun k hk => hk.2, HNET.out⟩ (fun k hk => hk.1) HB2.out hr hb4 HN20.out
    obtain ⟨y, hy⟩ : ∃ y, w2.heap.size = y := ⟨_, rfl⟩
    rw [hy] at hst ⊢
    have HST := Lib.hid hst
    clear hr hb4 hst hy HNET HB1 HB2 HN20 HB12
    go_wp2
    go_loopw [8] (fun s wr => ∃ k : Nat, k ≤ len ∧ s = .int .i64 k ∧ Hid (TSt w x y k wr)) (fun s _ => len - (intOf s).toNat)
    case atStart => exact ⟨0, by omega, rfl, HST.out⟩
    case round =>
      obtain ⟨k, hk, rfl, hst⟩ := hrel
      clear HST
      by_cases hkn : k < len
      · obtain ⟨wr, rfl⟩ : ∃ v : World, v = wr := ⟨_, rfl⟩
        obtain ⟨S, T, X, L, C, ls, cuts, hts⟩ := hst.out
        obtain ⟨ba, oa, rfl, hSb, hcells⟩ := HR.out (by intro e; have := HLEN.out; rw [e] at this; simp at this; omega)
        obtain ⟨st, hs⟩ : ∃ s, l[k]? = some s := ⟨l[k]'(by have := HLEN.out; omega), List.getElem?_eq_getElem _⟩
        have hbel := hts.sim.inv.2.2
        have hstep := (hcells k st hs).keep (w' := wr) hSb (fun q hq _ => hbel.block q (HS0.out q hq))
        obtain ⟨scs, hrng, hmsg, hmf, hmt, hd⟩ := step_range hstep
        have hmty := HT.out st (List.mem_of_getElem? hs)
        obtain ⟨sc, hsc⟩ : ∃ sc, sc = stepCells st.d st.f st.t st.i scs := ⟨_, rfl⟩
        have hsl : sc.length = 38 := by rw [hsc]; unfold stepCells; simp [hmsg.1]
        have hso : ∀ u ∈ sc, u.oneCell' = true := by rw [hsc]; exact step_all hmsg.2.1
        rw [← hsc] at hrng
        obtain ⟨q1, q2, q3⟩ := box_store (c := sc) (z := zStep) (t := 44) (w := wr) (by rw [hsl]; rfl) rfl rfl
        obtain ⟨w5, hw5⟩ : ∃ v, v = (wr.alloc (.cells zStep.toArray 44)).setCells wr.heap.size 0 sc := ⟨_, rfl⟩
        rw [← hw5] at q2 q3
        obtain ⟨W1, hW1⟩ : ∃ v, v = (w5.alloc (.cells zMsg.toArray 42)).alloc (.cells zMsg.toArray 42) := ⟨_, rfl⟩
        have hs5 : wr.heap.size < w5.heap.size := (Array.getElem?_eq_some_iff.1 q3).1
        have hb9 : W1.heap[wr.heap.size]? = some (.cells sc.toArray 44 (0, 0)) := by
          rw [hW1, Below.heap_alloc _ _ _ (by simp; omega), Below.heap_alloc _ _ _ hs5]; exact q3
        have hb10 : W1.heap[w5.heap.size]? = some (.cells zMsg.toArray 42 (0, 0)) := by rw [hW1]; exact heap_alloc2_old w5 _ _
        have hb11 : W1.heap[w5.heap.size + 1]? = some (.cells zMsg.toArray 42 (0, 0)) := by rw [hW1]; exact heap_alloc2_new w5 _ _
        have hbW : Below wr.heap.size wr W1 := by rw [hW1]; exact (q2.alloc (by omega) _).alloc (by simp; omega) _
        have hsW : W1.heap.size = w5.heap.size + 2 := by rw [hW1]; simp
        have hsel : ∀ q n, q + n ≤ 38 → W1.rangeAt wr.heap.size q ((sc.drop q).take n) := fun q n _ => range_of hb9 q n
        have hscd : (sc.drop 4).take 34 = scs := by rw [hsc]; unfold stepCells; simp [List.take_of_length_le (Nat.le_of_eq hmsg.1)]
        have hrm : W1.rangeAt wr.heap.size 4 scs := by rw [← hscd]; exact hsel 4 34 (by omega)
        have c0 : W1.cell? ⟨wr.heap.size, 0, none⟩ = some (.int .i64 st.d) := cell_at hb9 (by rw [hsc]; rfl)
        have c1 : W1.cell? ⟨wr.heap.size, 1, none⟩ = some (.int .i64 st.f) := cell_at hb9 (by rw [hsc]; rfl)
        have c2 : W1.cell? ⟨wr.heap.size, 2, none⟩ = some (.int .i64 st.t) := cell_at hb9 (by rw [hsc]; rfl)
        have c3 : W1.cell? ⟨wr.heap.size, 3, none⟩ = some (.int .i64 st.i) := cell_at hb9 (by rw [hsc]; rfl)
        have hc12 : sc[1]? = some (.int .i64 st.f) ∧ sc[2]? = some (.int .i64 st.t) := by rw [hsc]; exact ⟨rfl, rfl⟩
        obtain ⟨d, hdd⟩ : ∃ d, st.d = d := ⟨_, rfl⟩
        obtain ⟨p, hp⟩ : ∃ p, d % 8 = p := ⟨_, rfl⟩
        have hp0 : 0 ≤ p := by have := Int.emod_nonneg d (show (8 : Int) ≠ 0 by omega); omega
        have hp8 : p < 8 := by have := Int.emod_lt_of_pos d (show (0 : Int) < 8 by omega); omega
        rw [hdd] at c0 hd
        have hpick : ∀ v, Hid (Calls Try.prog 12 #[.int .i64 d, .int .i64 8] v fun e w' => e = .returned (.int .i64 p) ∧ w' = v) := fun v => by
          have := pick_any v d 8 hd (by omega) (by omega)
          rw [hp] at this
          exact this
        have hlq : W1.heap.size = w5.heap.size + 2 := hsW
        have hMW : MsgIn W1 (Old w) scs st.m := hmsg.keep (fun q hq _ => HS0.out q hq) (fun q hq hl => hbW.block q hl)
        have HTS := Lib.hid hts
        have HTS1 := Lib.hid (hts.up hbW)
        have hSl := hts.sim.inv.1.1
        have hyl := hts.sim.ref.lt y hts.sim.ref.ty
        have N9 : Hid (¬ S wr.heap.size ∧ wr.heap.size ≠ y) := ⟨fun h => by have := hSl _ h; omega, by omega⟩
        have N10 : Hid (¬ S w5.heap.size ∧ w5.heap.size ≠ y) := ⟨fun h => by have := hSl _ h; omega, by omega⟩
        have N11 : Hid (¬ S (w5.heap.size + 1) ∧ w5.heap.size + 1 ≠ y) := ⟨fun h => by have := hSl _ h; omega, by omega⟩
        have HSC : ∀ v : World, Hid (v.heap[wr.heap.size]? = some (.cells sc.toArray 44 (0, 0)) → v.rangeAt wr.heap.size 4 scs ∧ v.cell? ⟨wr.heap.size, 0, none⟩ = some (.int .i64 d) ∧ v.cell? ⟨wr.heap.size, 1, none⟩ = some (.int .i64 st.f) ∧ v.cell? ⟨wr.heap.size, 2, none⟩ = some (.int .i64 st.t) ∧ v.cell? ⟨wr.heap.size, 3, none⟩ = some (.int .i64 st.i)) := fun v hv => by
          refine ⟨?_, cell_at hv (by rw [hsc]; simp only [← hdd]; rfl), cell_at hv (by rw [hsc]; rfl), cell_at hv (by rw [hsc]; rfl), cell_at hv (by rw [hsc]; rfl)⟩
          rw [← hscd]; exact range_of hv 4 34
        have HLW : ∀ q : Nat, Hid (Old w q → q < W1.heap.size) := fun q hq => by have := hts.sim.inv.2.2.size; have := hbW.size; have hq' : q < w.heap.size := hq; omega
        have HLN : Hid (ls.length ≤ 1000 ∧ cuts.length ≤ 1000 ∧ k ≤ 1000) := by have := hts.ll; have := hts.lc; refine ⟨?_, ?_, ?_⟩ <;> omega
        have HMO : Hid (scs.length = 34 ∧ ∀ u ∈ scs, u.oneCell' = true) := ⟨hmsg.1, hmsg.2.1⟩
        clear hSl hyl
        have HRNG := Lib.hid hrng
        have HSL := Lib.hid hsl
        have HTH : Hid ((wr.alloc (.cells zStep.toArray 44)).there wr.heap.size 0 sc.toArray.size) := by
          have h38 : sc.toArray.size = 38 := by simpa using hsl
          rw [h38]; exact there_block q1
        have HS44 : Hid (sc.toArray.size = 38) := by show sc.toArray.size = 38; simpa using hsl
        have HSO := Lib.hid hso
        have HW5 : Hid (w5 = (wr.alloc (.cells zStep.toArray 44)).setCells wr.heap.size 0 sc) := hw5
        have HW1 : Hid (W1 = (w5.alloc (.cells zMsg.toArray 42)).alloc (.cells zMsg.toArray 42)) := hW1
        have HB9 := Lib.hid hb9
        have HB10 := Lib.hid hb10
        have HB11 := Lib.hid hb11
        have HBW := Lib.hid hbW
        have HSW := Lib.hid hsW
        have HS5 := Lib.hid hs5
        have HRM := Lib.hid hrm
        have HC12 := Lib.hid hc12
        have HMW := Lib.hid hMW
        have HMTY := Lib.hid hmty
        have HMF := Lib.hid hmf
        have HMT := Lib.hid hmt
        have HSCL : Hid (scs.length = 34) := hmsg.1
        obtain ⟨fs44, hu44⟩ := und44
        obtain ⟨fs42, hu42⟩ := und42
        clear hts hcells hs hstep hrng hmsg hmf hmt hd hmty hsc hsl hso q1 q2 q3 hw5 hW1 hs5 hb9 hb10 hb11 hbW hsW hsel hscd hrm hc12 hdd hp hlq hMW hbel hst hSb
        go_upto_region 10 with (first
          | (refine wpList_load_mid rfl 44 _ rfl ba (oa + k * 38) rfl sc _ HRNG.out hu44 rfl ?i1 ?_; (case i1 => rw [HSL.out]; exact size44))
          | (refine wpList_store_mid rfl 44 _ _ rfl wr.heap.size 0 sc.toArray rfl rfl ?i2 ?i3 ?i4 ?_; (case i2 => exact HTH.out); (case i3 => rw [HS44.out]; exact size44); (case i4 => exact all_oneCell_toArray HSO.out)))
        change Code.wp _ _ _ _ ((wr.alloc (.cells zStep.toArray 44)).setCells wr.heap.size 0 sc)
        rw [← HW5.out]
        go_upto_region 14 with fail
        change Code.wp _ _ _ _ ((w5.alloc (.cells zMsg.toArray 42)).alloc (.cells zMsg.toArray 42))
        rw [← HW1.out]
        clear HW5 HW1 HTH HRNG
        go_wp2_with fail
        refine (hpick W1).out.mono ?_
        rintro e w6 ⟨rfl, rfl⟩
        obtain ⟨W1, rfl⟩ : ∃ v : World, v = w6 := ⟨_, rfl⟩
        go_upto_block 2 with fail
        go_cut [12, 13] from 46 to 140 (fun s12 s13 wx => ∃ ok : Bool, s12 = .bool ok ∧ s13 = .bool ok ∧ Hid (TMid w x y (k + 1) wr.heap.size w5.heap.size (w5.heap.size + 1) sc wx))
        case first =>
          have hcase : p = 0 ∨ p = 1 ∨ p = 2 ∨ p = 3 ∨ p = 4 ∨ p = 5 ∨ p = 6 ∨ p = 7 := by omega
          clear hp0 hp8
          rcases hcase with rfl | rfl | rfl | rfl | rfl | rfl | rfl | rfl
          case inl =>
            as_aux_lemma =>
              go_wp2_with (refine wpList_load_mid rfl 42 _ rfl wr.heap.size 4 rfl scs _ HRM.out hu42 rfl ?i1 ?_; (case i1 => rw [HSCL.out]; exact size42))
              refine (send_any _ S (Old w) x X scs st.m st.mf st.mt HTS1.out.sim.inv.1 HMW.out (fun q hq => (HLW q).out hq) HMF.out HMT.out).mono ?_
              intro e w7 p1
              obtain ⟨_, _, _, _, hf7, _⟩ := id p1
              obtain ⟨rfl, href, hnx⟩ := t_send HTS1.out HLN.out.2.2 ⟨st.mf, st.mt, scs⟩ HMW.out HMTY.out p1
              have h97 := (hf7.block _ (Array.getElem?_eq_some_iff.1 HB9.out).1 N9.out.1).trans HB9.out
              have HRM7 := Lib.hid ((HSC w7).out h97).1
              have HREF := Lib.hid (rsend_any href ⟨st.mf, st.mt, scs⟩ HMO.out ⟨HMF.out, HMT.out⟩ HLN.out.1 HLN.out.2.1)
              have HNX := Lib.hid hnx
              obtain ⟨ok, hok⟩ : ∃ ok, rsendOk X.n cuts st.mf st.mt = ok := ⟨_, rfl⟩
              rw [show rsendOk X.n cuts (RM.mk st.mf st.mt scs).f (RM.mk st.mf st.mt scs).t = ok from hok] at HREF HNX ⊢
              clear p1 hf7 href hnx h97 hok c0 c1 c2 c3
              go_wp2_with (refine wpList_load_mid rfl 42 _ rfl wr.heap.size 4 rfl scs _ HRM7.out hu42 rfl ?i1 ?_; (case i1 => rw [HSCL.out]; exact size42))
              refine HREF.out.mono ?_
              intro e w8 p2
              obtain ⟨rfl, htst, hkep⟩ := HNX.out e w8 p2
              have HFIN := Lib.hid (tmid_of htst hkep N9.out N10.out N11.out HB9.out HB10.out HB11.out)
              clear p2 htst hkep HREF HNX
              go_wp2
              go_meet
              exact ⟨ok, rfl, rfl, HFIN.out⟩
          case inr.inl =>
            as_aux_lemma =>
              go_wp2_with (refine wpList_load_mid rfl 42 _ rfl wr.heap.size 4 rfl scs _ HRM.out hu42 rfl ?i1 ?_; (case i1 => rw [HSCL.out]; exact size42))
              refine (send_any _ S (Old w) x X scs st.m st.mf st.mt HTS1.out.sim.inv.1 HMW.out (fun q hq => (HLW q).out hq) HMF.out HMT.out).mono ?_
              intro e w7 p1
              obtain ⟨_, _, _, _, hf7, _⟩ := id p1
              obtain ⟨rfl, href, hnx⟩ := t_send HTS1.out HLN.out.2.2 ⟨st.mf, st.mt, scs⟩ HMW.out HMTY.out p1
              have h97 := (hf7.block _ (Array.getElem?_eq_some_iff.1 HB9.out).1 N9.out.1).trans HB9.out
              have HRM7 := Lib.hid ((HSC w7).out h97).1
              have HREF := Lib.hid (rsend_any href ⟨st.mf, st.mt, scs⟩ HMO.out ⟨HMF.out, HMT.out⟩ HLN.out.1 HLN.out.2.1)
              have HNX := Lib.hid hnx
              obtain ⟨ok, hok⟩ : ∃ ok, rsendOk X.n cuts st.mf st.mt = ok := ⟨_, rfl⟩
              rw [show rsendOk X.n cuts (RM.mk st.mf st.mt scs).f (RM.mk st.mf st.mt scs).t = ok from hok] at HREF HNX ⊢
              clear p1 hf7 href hnx h97 hok c0 c1 c2 c3
              go_wp2_with (refine wpList_load_mid rfl 42 _ rfl wr.heap.size 4 rfl scs _ HRM7.out hu42 rfl ?i1 ?_; (case i1 => rw [HSCL.out]; exact size42))
              refine HREF.out.mono ?_
              intro e w8 p2
              obtain ⟨rfl, htst, hkep⟩ := HNX.out e w8 p2
              have HFIN := Lib.hid (tmid_of htst hkep N9.out N10.out N11.out HB9.out HB10.out HB11.out)
              clear p2 htst hkep HREF HNX
              go_wp2
              go_meet
              exact ⟨ok, rfl, rfl, HFIN.out⟩
          case inr.inr.inl =>
            as_aux_lemma =>
              go_wp2_with (refine wpList_load_mid rfl 42 _ rfl wr.heap.size 4 rfl scs _ HRM.out hu42 rfl ?i1 ?_; (case i1 => rw [HSCL.out]; exact size42))
              refine (send_any _ S (Old w) x X scs st.m st.mf st.mt HTS1.out.sim.inv.1 HMW.out (fun q hq => (HLW q).out hq) HMF.out HMT.out).mono ?_
              intro e w7 p1
              obtain ⟨_, _, _, _, hf7, _⟩ := id p1
              obtain ⟨rfl, href, hnx⟩ := t_send HTS1.out HLN.out.2.2 ⟨st.mf, st.mt, scs⟩ HMW.out HMTY.out p1
              have h97 := (hf7.block _ (Array.getElem?_eq_some_iff.1 HB9.out).1 N9.out.1).trans HB9.out
              have HRM7 := Lib.hid ((HSC w7).out h97).1
              have HREF := Lib.hid (rsend_any href ⟨st.mf, st.mt, scs⟩ HMO.out ⟨HMF.out, HMT.out⟩ HLN.out.1 HLN.out.2.1)
              have HNX := Lib.hid hnx
              obtain ⟨ok, hok⟩ : ∃ ok, rsendOk X.n cuts st.mf st.mt = ok := ⟨_, rfl⟩
              rw [show rsendOk X.n cuts (RM.mk st.mf st.mt scs).f (RM.mk st.mf st.mt scs).t = ok from hok] at HREF HNX ⊢
              clear p1 hf7 href hnx h97 hok c0 c1 c2 c3
              go_wp2_with (refine wpList_load_mid rfl 42 _ rfl wr.heap.size 4 rfl scs _ HRM7.out hu42 rfl ?i1 ?_; (case i1 => rw [HSCL.out]; exact size42))
              refine HREF.out.mono ?_
              intro e w8 p2
              obtain ⟨rfl, htst, hkep⟩ := HNX.out e w8 p2
              have HFIN := Lib.hid (tmid_of htst hkep N9.out N10.out N11.out HB9.out HB10.out HB11.out)
              clear p2 htst hkep HREF HNX
              go_wp2
              go_meet
              exact ⟨ok, rfl, rfl, HFIN.out⟩
          case inr.inr.inr.inl =>
            as_aux_lemma =>
              go_wp2_with fail
              refine (take_any W1 S x X st.f st.t st.i HTS1.out.sim.inv.1).mono ?_
              intro e w7 p1
              obtain ⟨t1, rfl, ⟨tl1, to1⟩, hs17, hk17, hV⟩ := t_take HTS.out HBW.out st.f st.t st.i p1
              have hlW : wr.heap.size ≤ w5.heap.size ∧ w5.heap.size + 1 < W1.heap.size ∧ wr.heap.size < W1.heap.size := by have := HS5.out; have := HSW.out; omega
              have hx10 := (hk17 w5.heap.size hlW.1 (by omega)).trans HB10.out
              have hx9 := (hk17 wr.heap.size (Nat.le_refl _) hlW.2.2).trans HB9.out
              have hx11 := (hk17 (w5.heap.size + 1) (by omega) hlW.2.1).trans HB11.out
              have ho10 := (Only.refl w5.heap.size w7).setCells t1 0
              have hg10 := setCells_heap t1 0 hx10
              rw [putL_all (by rw [tl1]; rfl)] at hg10
              obtain ⟨V, hVe⟩ : ∃ V, V = w7.setCells w5.heap.size 0 t1 := ⟨_, rfl⟩
              rw [← hVe] at ho10 hg10
              obtain ⟨hrefV, hnx⟩ := hV w5.heap.size V ho10 hlW.1
              have hv9 := (ho10.block wr.heap.size (by have := HS5.out; omega)).trans hx9
              have hv11 := (ho10.block (w5.heap.size + 1) (by omega)).trans hx11
              have HTH10 := Lib.hid (there_block hx10)
              have HT1S : Hid (t1.toArray.size = 34) := by show t1.toArray.size = 34; simpa using tl1
              have HTO1 := Lib.hid to1
              have HVE : Hid (V = w7.setCells w5.heap.size 0 t1) := hVe
              have HREF := Lib.hid (rtake_any hrefV HLN.out.1 st.f st.t st.i)
              have HNX := Lib.hid hnx
              have HV9 := Lib.hid hv9
              have HV10 := Lib.hid hg10
              have HV11 := Lib.hid hv11
              have HLV := Lib.hid hlW
              have HSV : Hid (V.heap.size = w7.heap.size ∧ W1.heap.size ≤ w7.heap.size) := ⟨ho10.size, hs17⟩
              obtain ⟨_, z0, z1, z2, z3⟩ := (HSC V).out hv9
              obtain ⟨ok, hok⟩ : ∃ ok, X.hasAt st.f st.t st.i = ok := ⟨_, rfl⟩
              rw [hok] at HNX ⊢
              clear p1 tl1 to1 hs17 hk17 hV hlW hx10 hx9 hx11 ho10 hg10 hVe hrefV hnx hv9 hv11 hok c0 c1 c2 c3
              go_upto_region 22 with (refine wpList_store_mid rfl 42 _ _ rfl w5.heap.size 0 t1.toArray rfl rfl ?i2 ?i3 ?i4 ?_; (case i2 => rw [HT1S.out]; exact HTH10.out); (case i3 => rw [HT1S.out]; exact size42); (case i4 => exact all_oneCell_toArray HTO1.out))
              change Code.wp _ _ _ _ (w7.setCells w5.heap.size 0 t1)
              rw [← HVE.out]
              clear HVE HTH10
              go_wp2_with fail
              refine HREF.out.mono ?_
              intro e w8 p2
              obtain ⟨t2, rfl, ⟨tl2, to2⟩, hs28, hk28, h7⟩ := HNX.out e w8 p2
              have hl := HLV.out
              have hsv := HSV.out
              have hy11 := (hk28 (w5.heap.size + 1) (by omega) N11.out.2).trans HV11.out
              have hy10 := (hk28 w5.heap.size (by omega) N10.out.2).trans HV10.out
              have hy9 := (hk28 wr.heap.size (by omega) N9.out.2).trans HV9.out
              have ho11 := (Only.refl (w5.heap.size + 1) w8).setCells t2 0
              have hg11 := setCells_heap t2 0 hy11
              rw [putL_all (by rw [tl2]; rfl)] at hg11
              obtain ⟨w9, hw9⟩ : ∃ V, V = w8.setCells (w5.heap.size + 1) 0 t2 := ⟨_, rfl⟩
              rw [← hw9] at ho11 hg11
              obtain ⟨htst, halk⟩ := h7 (w5.heap.size + 1) w9 ho11 (by omega) (by omega)
              have hfin : TMid w x y (k + 1) wr.heap.size w5.heap.size (w5.heap.size + 1) sc w9 := ⟨htst, (ho11.block _ (by omega)).trans hy9, t1, t2, (ho11.block _ (by omega)).trans hy10, hg11, halk⟩
              rw [hw9] at hfin
              have HFIN := Lib.hid hfin
              have HTH11 := Lib.hid (there_block hy11)
              have HT2S : Hid (t2.toArray.size = 34) := by show t2.toArray.size = 34; simpa using tl2
              have HTO2 := Lib.hid to2
              clear p2 tl2 to2 hs28 hk28 h7 hl hsv hy11 hy10 hy9 ho11 hg11 hw9 htst halk hfin HREF HNX z0 z1 z2 z3
              go_wp2_with (refine wpList_store_mid rfl 42 _ _ rfl (w5.heap.size + 1) 0 t2.toArray rfl rfl ?i2 ?i3 ?i4 ?_; (case i2 => rw [HT2S.out]; exact HTH11.out); (case i3 => rw [HT2S.out]; exact size42); (case i4 => exact all_oneCell_toArray HTO2.out))
              go_meet
              exact ⟨ok, rfl, rfl, HFIN.out⟩
          case inr.inr.inr.inr.inl =>
            as_aux_lemma =>
              go_wp2_with fail
              refine (lose_any _ S x X st.f st.t st.i HTS1.out.sim.inv.1).mono ?_
              intro e w7 p1
              obtain ⟨_, _, _, hf7, _⟩ := id p1
              obtain ⟨rfl, href, hnx⟩ := t_lose HTS1.out st.f st.t st.i p1
              have h97 := (hf7.block _ (Array.getElem?_eq_some_iff.1 HB9.out).1 N9.out.1).trans HB9.out
              obtain ⟨_, z0, z1, z2, z3⟩ := (HSC w7).out h97
              have HREF := Lib.hid (rlose_any href HLN.out.1 st.f st.t st.i)
              have HNX := Lib.hid hnx
              obtain ⟨ok, hok⟩ : ∃ ok, X.hasAt st.f st.t st.i = ok := ⟨_, rfl⟩
              rw [hok] at HNX ⊢
              clear p1 hf7 href hnx h97 hok c0 c1 c2 c3
              go_wp2_with fail
              refine HREF.out.mono ?_
              intro e w8 p2
              obtain ⟨rfl, htst, hkep⟩ := HNX.out e w8 p2
              have HFIN := Lib.hid (tmid_of htst hkep N9.out N10.out N11.out HB9.out HB10.out HB11.out)
              clear p2 htst hkep HREF HNX
              go_wp2
              go_meet
              exact ⟨ok, rfl, rfl, HFIN.out⟩
          case inr.inr.inr.inr.inr.inl =>
            as_aux_lemma =>
              obtain ⟨TM, htm, hnt⟩ := t_twice HTS1.out HLN.out.2.2 st.f st.t st.i
              have HTW := Lib.hid (twice_any W1 S _ x X TM st.f st.t st.i HTS1.out.sim.inv.1 htm (fun q hq => hq))
              have HNT := Lib.hid hnt
              clear htm hnt
              go_wp2_with fail
              refine HTW.out.mono ?_
              intro e w7 p1
              obtain ⟨_, _, _, _, hf7, _⟩ := id p1
              obtain ⟨rfl, href, hnx⟩ := HNT.out e w7 p1
              have h97 := (hf7.block _ (Array.getElem?_eq_some_iff.1 HB9.out).1 N9.out.1).trans HB9.out
              obtain ⟨_, z0, z1, z2, z3⟩ := (HSC w7).out h97
              have HREF := Lib.hid (rtwice_any href HLN.out.1 st.f st.t st.i)
              have HNX := Lib.hid hnx
              obtain ⟨ok, hok⟩ : ∃ ok, X.twiceOk st.f st.t st.i = ok := ⟨_, rfl⟩
              rw [hok] at HNX ⊢
              clear p1 hf7 href hnx h97 hok c0 c1 c2 c3 HTW HNT
              go_wp2_with fail
              refine HREF.out.mono ?_
              intro e w8 p2
              obtain ⟨rfl, htst, hkep⟩ := HNX.out e w8 p2
              have HFIN := Lib.hid (tmid_of htst hkep N9.out N10.out N11.out HB9.out HB10.out HB11.out)
              clear p2 htst hkep HREF HNX
              go_wp2
              go_meet
              exact ⟨ok, rfl, rfl, HFIN.out⟩
          case inr.inr.inr.inr.inr.inr.inl =>
            as_aux_lemma =>
              go_upto_region 31 with fail
              have hbd : W1.drew.heap[wr.heap.size]? = some (.cells sc.toArray 44 (0, 0)) := HB9.out
              refine wp_region_still_tail 9 (by kernel_rfl) (by kernel_rfl) ?_
              simp only [List.take_succ_cons, List.take_zero, List.drop_succ_cons, List.drop_zero]
              change wpStill _ _ (World.drew W1) (fun a' => wpList _ _ _ _ a' (World.drew W1)) _ _
              have hts' : TS w W1.drew S T x y X L C ls cuts k := HTS1.out.up (Below.refl _ W1).drew
              have hk1 : ∀ q, q < W1.heap.size → W1.drew.heap[q]? = W1.heap[q]? := fun _ _ => rfl
              have hsz1 : W1.drew.heap.size = W1.heap.size := rfl
              generalize W1.drew = V at hbd hts' hk1 hsz1 ⊢
              obtain ⟨_, z0, z1, z2, z3⟩ := (HSC V).out hbd
              have HTSV := Lib.hid hts'
              have HK1 := Lib.hid hk1
              have HSZ1 := Lib.hid hsz1
              clear hbd hts' hk1 hsz1 c0 c1 c2 c3
              still_step
              still_step
              still_step
              still_step
              still_step
              still_step
              still_step
              still_call ((hpick V).out.mono (by rintro e v ⟨rfl, rfl⟩; exact ⟨rfl, rfl⟩))
              still_step
              refine wpStill_nil ?_
              clear z0 z1 z2 z3
              go_wp2_with fail
              refine (cut_ok HTSV.out.sim.inv.1 st.f st.t true).mono ?_
              rintro e w7 ⟨rfl, hn7, hf7⟩
              have HN7 := Lib.hid hn7
              have HF7 := Lib.hid hf7
              obtain ⟨ok, hok⟩ : ∃ ok, isLink X.n st.f st.t = ok := ⟨_, rfl⟩
              rw [hok]
              have HOK := Lib.hid hok
              clear hn7 hf7 hok
              go_upto_region 32 with fail
              refine wp_region_still_tail 9 (by kernel_rfl) (by kernel_rfl) ?_
              simp only [List.take_succ_cons, List.take_zero, List.drop_succ_cons, List.drop_zero]
              change wpStill _ _ (World.drew w7) (fun a' => wpList _ _ _ _ a' (World.drew w7)) _ _
              have hn8 : NetOk w7.drew S x (X.cut st.f st.t true) := HN7.out.keep (Nat.le_refl _) (fun _ _ _ => rfl)
              have hf8 : Fr S S V w7.drew := HF7.out.drewN 1
              generalize w7.drew = V2 at hn8 hf8 ⊢
              have hv9 : V.heap[wr.heap.size]? = some (.cells sc.toArray 44 (0, 0)) := (HK1.out _ (Array.getElem?_eq_some_iff.1 HB9.out).1).trans HB9.out
              have hv10 := (HK1.out _ (Array.getElem?_eq_some_iff.1 HB10.out).1).trans HB10.out
              have hv11 := (HK1.out _ (Array.getElem?_eq_some_iff.1 HB11.out).1).trans HB11.out
              have h97 := (hf8.block _ (Array.getElem?_eq_some_iff.1 hv9).1 N9.out.1).trans hv9
              obtain ⟨href, hnx⟩ := t_cut HTSV.out st.f st.t true hn8 hf8
              obtain ⟨_, z0, z1, z2, z3⟩ := (HSC V2).out h97
              have HREF := Lib.hid (rcut_any href HLN.out.2.1 st.f st.t true)
              have HNX := Lib.hid hnx
              have HV9 := Lib.hid hv9
              have HV10 := Lib.hid hv10
              have HV11 := Lib.hid hv11
              clear hn8 hf8 hv9 hv10 hv11 h97 href hnx HN7 HF7
              still_step
              still_step
              still_step
              still_step
              still_step
              still_step
              still_step
              still_call ((hpick V2).out.mono (by rintro e v ⟨rfl, rfl⟩; exact ⟨rfl, rfl⟩))
              still_step
              refine wpStill_nil ?_
              clear z0 z1 z2 z3
              go_wp2_with fail
              refine HREF.out.mono ?_
              intro e w8 p2
              obtain ⟨rfl, htst, hkep⟩ := HNX.out e w8 p2
              have HFIN := Lib.hid (tmid_of htst hkep N9.out N10.out N11.out HV9.out HV10.out HV11.out)
              rw [HOK.out]
              clear p2 htst hkep HREF HNX
              go_wp2
              go_meet
              exact ⟨ok, rfl, rfl, HFIN.out⟩
          case inr.inr.inr.inr.inr.inr.inr =>
            as_aux_lemma =>
              go_upto_region 31 with fail
              have hbd : W1.drew.heap[wr.heap.size]? = some (.cells sc.toArray 44 (0, 0)) := HB9.out
              refine wp_region_still_tail 9 (by kernel_rfl) (by kernel_rfl) ?_
              simp only [List.take_succ_cons, List.take_zero, List.drop_succ_cons, List.drop_zero]
              change wpStill _ _ (World.drew W1) (fun a' => wpList _ _ _ _ a' (World.drew W1)) _ _
              have hts' : TS w W1.drew S T x y X L C ls cuts k := HTS1.out.up (Below.refl _ W1).drew
              have hk1 : ∀ q, q < W1.heap.size → W1.drew.heap[q]? = W1.heap[q]? := fun _ _ => rfl
              have hsz1 : W1.drew.heap.size = W1.heap.size := rfl
              generalize W1.drew = V at hbd hts' hk1 hsz1 ⊢
              obtain ⟨_, z0, z1, z2, z3⟩ := (HSC V).out hbd
              have HTSV := Lib.hid hts'
              have HK1 := Lib.hid hk1
              have HSZ1 := Lib.hid hsz1
              clear hbd hts' hk1 hsz1 c0 c1 c2 c3
              still_step
              still_step
              still_step
              still_step
              still_step
              still_step
              still_step
              still_call ((hpick V).out.mono (by rintro e v ⟨rfl, rfl⟩; exact ⟨rfl, rfl⟩))
              still_step
              refine wpStill_nil ?_
              clear z0 z1 z2 z3
              go_wp2_with fail
              refine (cut_ok HTSV.out.sim.inv.1 st.f st.t false).mono ?_
              rintro e w7 ⟨rfl, hn7, hf7⟩
              have HN7 := Lib.hid hn7
              have HF7 := Lib.hid hf7
              obtain ⟨ok, hok⟩ : ∃ ok, isLink X.n st.f st.t = ok := ⟨_, rfl⟩
              rw [hok]
              have HOK := Lib.hid hok
              clear hn7 hf7 hok
              go_upto_region 32 with fail
              refine wp_region_still_tail 9 (by kernel_rfl) (by kernel_rfl) ?_
              simp only [List.take_succ_cons, List.take_zero, List.drop_succ_cons, List.drop_zero]
              change wpStill _ _ (World.drew w7) (fun a' => wpList _ _ _ _ a' (World.drew w7)) _ _
              have hn8 : NetOk w7.drew S x (X.cut st.f st.t false) := HN7.out.keep (Nat.le_refl _) (fun _ _ _ => rfl)
              have hf8 : Fr S S V w7.drew := HF7.out.drewN 1
              generalize w7.drew = V2 at hn8 hf8 ⊢
              have hv9 : V.heap[wr.heap.size]? = some (.cells sc.toArray 44 (0, 0)) := (HK1.out _ (Array.getElem?_eq_some_iff.1 HB9.out).1).trans HB9.out
              have hv10 := (HK1.out _ (Array.getElem?_eq_some_iff.1 HB10.out).1).trans HB10.out
              have hv11 := (HK1.out _ (Array.getElem?_eq_some_iff.1 HB11.out).1).trans HB11.out
              have h97 := (hf8.block _ (Array.getElem?_eq_some_iff.1 hv9).1 N9.out.1).trans hv9
              obtain ⟨href, hnx⟩ := t_cut HTSV.out st.f st.t false hn8 hf8
              obtain ⟨_, z0, z1, z2, z3⟩ := (HSC V2).out h97
              have HREF := Lib.hid (rcut_any href HLN.out.2.1 st.f st.t false)
              have HNX := Lib.hid hnx
              have HV9 := Lib.hid hv9
              have HV10 := Lib.hid hv10
              have HV11 := Lib.hid hv11
              clear hn8 hf8 hv9 hv10 hv11 h97 href hnx HN7 HF7
              still_step
              still_step
              still_step
              still_step
              still_step
              still_step
              still_step
              still_call ((hpick V2).out.mono (by rintro e v ⟨rfl, rfl⟩; exact ⟨rfl, rfl⟩))
              still_step
              refine wpStill_nil ?_
              clear z0 z1 z2 z3
              go_wp2_with fail
              refine HREF.out.mono ?_
              intro e w8 p2
              obtain ⟨rfl, htst, hkep⟩ := HNX.out e w8 p2
              have HFIN := Lib.hid (tmid_of htst hkep N9.out N10.out N11.out HV9.out HV10.out HV11.out)
              rw [HOK.out]
              clear p2 htst hkep HREF HNX
              go_wp2
              go_meet
              exact ⟨ok, rfl, rfl, HFIN.out⟩
        case rest =>
          obtain ⟨ok, rfl, rfl, hmid⟩ := hcut
          obtain ⟨⟨S2, T2, X2, L2, C2, ls2, cuts2, hts2⟩, hb9, t1, t2, hb10, hb11, halk⟩ := hmid.out
          have hk62 : k + 1 ≤ 62 := by omega
          have hsm := hts2.small (by omega)
          have hll := hts2.ll
          have hlc := hts2.lc
          obtain ⟨nl, hnl⟩ : ∃ n, X2.len st.f st.t = n := ⟨_, rfl⟩
          obtain ⟨of, hof⟩ : ∃ o, X2.cutOf st.f st.t = o := ⟨_, rfl⟩
          obtain ⟨nt, hnt⟩ : ∃ n, X2.total = n := ⟨_, rfl⟩
          have H24 : ∀ v : World, Hid (Below wc.heap.size wc v → Calls Try.prog 24 #[.pointer (some ⟨x, 0, none⟩), .int .i64 st.f, .int .i64 st.t] v fun e w' => e = .returned (.int .i64 (nl : Nat)) ∧ w' = v) := fun v hb => by
            have := len_ok (hts2.up hb).sim.inv.1 st.f st.t
            rw [hnl] at this; exact this
          have H25 : ∀ v : World, Hid (Below wc.heap.size wc v → Calls Try.prog 25 #[.pointer (some ⟨y, 0, none⟩), .int .i64 st.f, .int .i64 st.t] v fun e w' => e = .returned (.int .i64 (nl : Nat)) ∧ w' = v) := fun v hb => by
            have := rlen_any (hts2.up hb).sim.ref (by omega) st.f st.t
            rw [← hts2.sim.lens, hnl] at this; exact this
          have H26 : ∀ v : World, Hid (Below wc.heap.size wc v → Calls Try.prog 26 #[.pointer (some ⟨x, 0, none⟩), .int .i64 st.f, .int .i64 st.t] v fun e w' => e = .returned (.bool of) ∧ w' = v) := fun v hb => by
            have := off_ok (hts2.up hb).sim.inv.1 st.f st.t
            rw [hof] at this; exact this
          have H27 : ∀ v : World, Hid (Below wc.heap.size wc v → Calls Try.prog 27 #[.pointer (some ⟨y, 0, none⟩), .int .i64 st.f, .int .i64 st.t] v fun e w' => e = .returned (.bool of) ∧ w' = v) := fun v hb => by
            have := roff_any (hts2.up hb).sim.ref (by omega) st.f st.t
            rw [← hts2.sim.offs, hof] at this; exact this
          have H28 : ∀ v : World, Hid (Below wc.heap.size wc v → Calls Try.prog 28 #[.pointer (some ⟨x, 0, none⟩)] v fun e w' => e = .returned (.int .i64 (nt : Nat)) ∧ Below v.heap.size v w') := fun v hb => by
            have := total_any v S2 x X2 (hts2.up hb).sim.inv.1 hsm
            rw [hnt] at this; exact this
          have H29 : ∀ v : World, Hid (Below wc.heap.size wc v → Calls Try.prog 29 #[.pointer (some ⟨y, 0, none⟩)] v fun e w' => e = .returned (.int .i64 (nt : Nat)) ∧ w' = v) := fun v hb => by
            have := rtotal_any (hts2.up hb).sim.ref
            rw [← hts2.sim.tot, hnt] at this; exact this
          have H23 : ∀ v : World, Hid (Below wc.heap.size wc v → Calls Try.prog 23 #[.agg t1.toArray, .agg t2.toArray] v fun e w' => e = .returned (.bool true) ∧ Below v.heap.size v w') := fun v hb => by
            obtain ⟨M, m1, m2, m3⟩ := halk.up hb
            exact same_any v _ _ t1 t2 M m1 m2 (fun q hq => hq) (fun q hq => hq) m3
          have HT1 : Hid (t1.toArray.size = 34) := by obtain ⟨M, m1, _, _⟩ := halk; show t1.toArray.size = 34; simpa using m1.1
          have HT2 : Hid (t2.toArray.size = 34) := by obtain ⟨M, _, m2, _⟩ := halk; show t2.toArray.size = 34; simpa using m2.1
          have hl9 := (Array.getElem?_eq_some_iff.1 hb9).1
          have hl10 := (Array.getElem?_eq_some_iff.1 hb10).1
          have hl11 := (Array.getElem?_eq_some_iff.1 hb11).1
          have HKP : ∀ v : World, Hid (Below wc.heap.size wc v → v.heap[wr.heap.size]? = some (.cells sc.toArray 44 (0, 0)) ∧ v.heap[w5.heap.size]? = some (.cells t1.toArray 42 (0, 0)) ∧ v.heap[w5.heap.size + 1]? = some (.cells t2.toArray 42 (0, 0))) := fun v hb => ⟨(hb.block _ hl9).trans hb9, (hb.block _ hl10).trans hb10, (hb.block _ hl11).trans hb11⟩
          have HFT : ∀ v : World, Hid (Below wc.heap.size wc v → TSt w x y (k + 1) v) := fun v hb => ⟨S2, T2, X2, L2, C2, ls2, cuts2, hts2.up hb⟩
          obtain ⟨wc, rfl⟩ : ∃ v : World, v = wc := ⟨_, rfl⟩
          clear hmid hts2 hb9 hb10 hb11 halk hsm hll hlc hnl hof hnt hl9 hl10 hl11 HTS HTS1 c0 c1 c2 c3 HRM HMW HB9 HB10 HB11 HBW hp0 hp8
          go_upto_region 33 with fail
          refine wp_region_any (by kernel_rfl) ?_
          change wpAny _ _ _ _ _ _ _ (World.drew _)
          obtain ⟨x0, hx0⟩ : ∃ v, v = World.drew wc := ⟨_, rfl⟩
          have BEL0 : Below wc.heap.size wc x0 := by rw [hx0]; exact (Below.refl _ _).drew
          have BEL := Lib.hid BEL0
          rw [← hx0]
          clear hx0 BEL0
          refine Rg.Any.plain (S := Rg.But [] (fun v => v.heap[wr.heap.size]? = some (.cells sc.toArray 44 (0, 0)) ∧ v.heap[w5.heap.size]? = some (.cells t1.toArray 42 (0, 0)) ∧ v.heap[w5.heap.size + 1]? = some (.cells t2.toArray 42 (0, 0)))) _ _ _ _ ?_
          refine Rg.takeK 0 (v := .bool ok) rfl (by kernel_rfl) (by kernel_rfl) (by kernel_rfl) (fun _ _ _ h => h) (Rg.But.lets (by kernel_rfl) (fun _ h => h)) (fun _ h => .mk h) (Or.inl ⟨by rfl, fun v hv => ?_⟩) ((HKP _).out BEL.out) (fun K hK => ?_)
          · go_simp
          go_simp
          refine hK.out _ ?_
          clear hK K
          refine Rg.takeK 1 (v := .bool ok) rfl (by kernel_rfl) (by kernel_rfl) (by kernel_rfl) (fun _ _ _ h => h) (Rg.But.lets (by kernel_rfl) (fun _ h => h)) (fun _ h => .mk h) (Or.inl ⟨by rfl, fun v hv => ?_⟩) ((HKP _).out BEL.out) (fun K hK => ?_)
          · go_simp
          go_simp
          refine hK.out _ ?_
          clear hK K
          refine Rg.takeK 2 (v := .bool false) rfl (by kernel_rfl) (by kernel_rfl) (by kernel_rfl) (fun _ _ _ h => h) (Rg.But.lets (by kernel_rfl) (fun _ h => h)) (fun _ h => .mk h) (Or.inl ⟨by rfl, fun v hv => ?_⟩) ((HKP _).out BEL.out) (fun K hK => ?_)
          · go_simp
          go_simp
          refine hK.out _ ?_
          clear hK K
          refine Rg.takeK 3 (v := .bool false) rfl (by kernel_rfl) (by kernel_rfl) (by kernel_rfl) (fun _ _ _ h => h) (Rg.But.lets (by kernel_rfl) (fun _ h => h)) (fun _ h => .mk h) (Or.inl ⟨by rfl, fun v hv => ?_⟩) ((HKP _).out BEL.out) (fun K hK => ?_)
          · go_simp
          go_simp
          refine hK.out _ ?_
          clear hK K
          refine Rg.takeK 4 (v := .agg t1.toArray) rfl (by kernel_rfl) (by kernel_rfl) (by kernel_rfl) (fun _ _ _ h => h) (Rg.But.lets (by kernel_rfl) (fun _ h => h)) (fun _ h => .mk h) (Or.inl ⟨by rfl, fun v hv => ?_⟩) ((HKP _).out BEL.out) (fun K hK => ?_)
          · have e := loadMsg v _ _ _ _ hv.2.1 HT1.out
            show (Instr.loadAt 42 (.pointer (some ⟨w5.heap.size, 0, none⟩)) >>= fun v => pure (Next.value v)).run Try.prog v = _
            simp only [Instr.loadAt, Instr.sureAddr, Sem.run_bind, Sem.run_pure, Result.andThen_ok, e]
          go_simp
          refine hK.out _ ?_
          clear hK K
          refine Rg.takeK 5 (v := .agg t2.toArray) rfl (by kernel_rfl) (by kernel_rfl) (by kernel_rfl) (fun _ _ _ h => h) (Rg.But.lets (by kernel_rfl) (fun _ h => h)) (fun _ h => .mk h) (Or.inl ⟨by rfl, fun v hv => ?_⟩) ((HKP _).out BEL.out) (fun K hK => ?_)
          · have e := loadMsg v _ _ _ _ hv.2.2 HT2.out
            show (Instr.loadAt 42 (.pointer (some ⟨w5.heap.size + 1, 0, none⟩)) >>= fun v => pure (Next.value v)).run Try.prog v = _
            simp only [Instr.loadAt, Instr.sureAddr, Sem.run_bind, Sem.run_pure, Result.andThen_ok, e]
          go_simp
          refine hK.out _ ?_
          clear hK K
          refine Rg.only 6 (by kernel_rfl) (by simp only [List.getElem?_toArray, List.getElem?_cons_succ, List.getElem?_cons_zero]; rfl) (fun K hK => ?_)
          go_simp
          refine ((H23 _).out BEL.out).mono ?_
          rintro e vq ⟨rfl, hbq⟩
          have BELq := Lib.hid (BEL.out.trans (hbq.mono BEL.out.size))
          clear hbq BEL
          have BEL := BELq
          clear BELq
          refine hK.out _ _ (.mk ((HKP _).out BEL.out)) ?_
          clear hK K
          refine Rg.only 7 (by kernel_rfl) (by simp only [List.getElem?_toArray, List.getElem?_cons_succ, List.getElem?_cons_zero]; rfl) (fun K hK => ?_)
          go_simp
          refine hK.out _ _ (.mk ((HKP _).out BEL.out)) ?_
          clear hK K
          refine Rg.only 8 (by kernel_rfl) (by simp only [List.getElem?_toArray, List.getElem?_cons_succ, List.getElem?_cons_zero]; rfl) (fun K hK => ?_)
          go_simp
          refine hK.out _ _ (.mk ((HKP _).out BEL.out)) ?_
          clear hK K
          refine Rg.only 9 (by kernel_rfl) (by simp only [List.getElem?_toArray, List.getElem?_cons_succ, List.getElem?_cons_zero]; rfl) (fun K hK => ?_)
          go_simp
          refine hK.out _ _ (.mk ((HKP _).out BEL.out)) ?_
          clear hK K
          refine Rg.takeK 10 (v := .pointer (some ⟨x, 0, none⟩)) rfl (by kernel_rfl) (by kernel_rfl) (by kernel_rfl) (fun _ _ _ h => h) (Rg.But.lets (by kernel_rfl) (fun _ h => h)) (fun _ h => .mk h) (Or.inl ⟨by rfl, fun v hv => ?_⟩) ((HKP _).out BEL.out) (fun K hK => ?_)
          · go_simp
          go_simp
          refine hK.out _ ?_
          clear hK K
          refine Rg.takeK 11 (v := .pointer (some ⟨wr.heap.size, 1, none⟩)) rfl (by kernel_rfl) (by kernel_rfl) (by kernel_rfl) (fun _ _ _ h => h) (Rg.But.lets (by kernel_rfl) (fun _ h => h)) (fun _ h => .mk h) (Or.inl ⟨by rfl, fun v hv => ?_⟩) ((HKP _).out BEL.out) (fun K hK => ?_)
          · go_simp
          go_simp
          refine hK.out _ ?_
          clear hK K
          refine Rg.takeK 12 (v := .int .i64 st.f) rfl (by kernel_rfl) (by kernel_rfl) (by kernel_rfl) (fun _ _ _ h => h) (Rg.But.lets (by kernel_rfl) (fun _ h => h)) (fun _ h => .mk h) (Or.inl ⟨by rfl, fun v hv => ?_⟩) ((HKP _).out BEL.out) (fun K hK => ?_)
          · have e := cell_at hv.1 HC12.out.1
            go_simp
          go_simp
          refine hK.out _ ?_
          clear hK K
          refine Rg.takeK 13 (v := .pointer (some ⟨wr.heap.size, 2, none⟩)) rfl (by kernel_rfl) (by kernel_rfl) (by kernel_rfl) (fun _ _ _ h => h) (Rg.But.lets (by kernel_rfl) (fun _ h => h)) (fun _ h => .mk h) (Or.inl ⟨by rfl, fun v hv => ?_⟩) ((HKP _).out BEL.out) (fun K hK => ?_)
          · go_simp
          go_simp
          refine hK.out _ ?_
          clear hK K
          refine Rg.takeK 14 (v := .int .i64 st.t) rfl (by kernel_rfl) (by kernel_rfl) (by kernel_rfl) (fun _ _ _ h => h) (Rg.But.lets (by kernel_rfl) (fun _ h => h)) (fun _ h => .mk h) (Or.inl ⟨by rfl, fun v hv => ?_⟩) ((HKP _).out BEL.out) (fun K hK => ?_)
          · have e := cell_at hv.1 HC12.out.2
            go_simp
          go_simp
          refine hK.out _ ?_
          clear hK K
          refine Rg.takeK 16 (v := .pointer (some ⟨y, 0, none⟩)) rfl (by kernel_rfl) (by kernel_rfl) (by kernel_rfl) (fun _ _ _ h => h) (Rg.But.lets (by kernel_rfl) (fun _ h => h)) (fun _ h => .mk h) (Or.inl ⟨by rfl, fun v hv => ?_⟩) ((HKP _).out BEL.out) (fun K hK => ?_)
          · go_simp
          go_simp
          refine hK.out _ ?_
          clear hK K
          refine Rg.takeK 17 (v := .pointer (some ⟨wr.heap.size, 1, none⟩)) rfl (by kernel_rfl) (by kernel_rfl) (by kernel_rfl) (fun _ _ _ h => h) (Rg.But.lets (by kernel_rfl) (fun _ h => h)) (fun _ h => .mk h) (Or.inl ⟨by rfl, fun v hv => ?_⟩) ((HKP _).out BEL.out) (fun K hK => ?_)
          · go_simp
          go_simp
          refine hK.out _ ?_
          clear hK K
          refine Rg.takeK 18 (v := .int .i64 st.f) rfl (by kernel_rfl) (by kernel_rfl) (by kernel_rfl) (fun _ _ _ h => h) (Rg.But.lets (by kernel_rfl) (fun _ h => h)) (fun _ h => .mk h) (Or.inl ⟨by rfl, fun v hv => ?_⟩) ((HKP _).out BEL.out) (fun K hK => ?_)
          · have e := cell_at hv.1 HC12.out.1
            go_simp
          go_simp
          refine hK.out _ ?_
          clear hK K
          refine Rg.takeK 19 (v := .pointer (some ⟨wr.heap.size, 2, none⟩)) rfl (by kernel_rfl) (by kernel_rfl) (by kernel_rfl) (fun _ _ _ h => h) (Rg.But.lets (by kernel_rfl) (fun _ h => h)) (fun _ h => .mk h) (Or.inl ⟨by rfl, fun v hv => ?_⟩) ((HKP _).out BEL.out) (fun K hK => ?_)
          · go_simp
          go_simp
          refine hK.out _ ?_
          clear hK K
          refine Rg.takeK 20 (v := .int .i64 st.t) rfl (by kernel_rfl) (by kernel_rfl) (by kernel_rfl) (fun _ _ _ h => h) (Rg.But.lets (by kernel_rfl) (fun _ h => h)) (fun _ h => .mk h) (Or.inl ⟨by rfl, fun v hv => ?_⟩) ((HKP _).out BEL.out) (fun K hK => ?_)
          · have e := cell_at hv.1 HC12.out.2
            go_simp
          go_simp
          refine hK.out _ ?_
          clear hK K
          refine Rg.only 15 (by kernel_rfl) (by simp only [List.getElem?_toArray, List.getElem?_cons_succ, List.getElem?_cons_zero]; rfl) (fun K hK => ?_)
          go_simp
          refine ((H24 _).out BEL.out).mono ?_
          rintro e vv ⟨rfl, rfl⟩
          refine hK.out _ _ (.mk ((HKP _).out BEL.out)) ?_
          clear hK K
          refine Rg.only 21 (by kernel_rfl) (by simp only [List.getElem?_toArray, List.getElem?_cons_succ, List.getElem?_cons_zero]; rfl) (fun K hK => ?_)
          go_simp
          refine ((H25 _).out BEL.out).mono ?_
          rintro e vv ⟨rfl, rfl⟩
          refine hK.out _ _ (.mk ((HKP _).out BEL.out)) ?_
          clear hK K
          refine Rg.only 22 (by kernel_rfl) (by simp only [List.getElem?_toArray, List.getElem?_cons_succ, List.getElem?_cons_zero]; rfl) (fun K hK => ?_)
          go_simp
          refine hK.out _ _ (.mk ((HKP _).out BEL.out)) ?_
          clear hK K
          refine Rg.only 23 (by kernel_rfl) (by simp only [List.getElem?_toArray, List.getElem?_cons_succ, List.getElem?_cons_zero]; rfl) (fun K hK => ?_)
          go_simp
          refine hK.out _ _ (.mk ((HKP _).out BEL.out)) ?_
          clear hK K
          refine Rg.only 24 (by kernel_rfl) (by simp only [List.getElem?_toArray, List.getElem?_cons_succ, List.getElem?_cons_zero]; rfl) (fun K hK => ?_)
          go_simp
          refine hK.out _ _ (.mk ((HKP _).out BEL.out)) ?_
          clear hK K
          refine Rg.takeK 25 (v := .pointer (some ⟨x, 0, none⟩)) rfl (by kernel_rfl) (by kernel_rfl) (by kernel_rfl) (fun _ _ _ h => h) (Rg.But.lets (by kernel_rfl) (fun _ h => h)) (fun _ h => .mk h) (Or.inl ⟨by rfl, fun v hv => ?_⟩) ((HKP _).out BEL.out) (fun K hK => ?_)
          · go_simp
          go_simp
          refine hK.out _ ?_
          clear hK K
          refine Rg.takeK 26 (v := .pointer (some ⟨wr.heap.size, 1, none⟩)) rfl (by kernel_rfl) (by kernel_rfl) (by kernel_rfl) (fun _ _ _ h => h) (Rg.But.lets (by kernel_rfl) (fun _ h => h)) (fun _ h => .mk h) (Or.inl ⟨by rfl, fun v hv => ?_⟩) ((HKP _).out BEL.out) (fun K hK => ?_)
          · go_simp
          go_simp
          refine hK.out _ ?_
          clear hK K
          refine Rg.takeK 27 (v := .int .i64 st.f) rfl (by kernel_rfl) (by kernel_rfl) (by kernel_rfl) (fun _ _ _ h => h) (Rg.But.lets (by kernel_rfl) (fun _ h => h)) (fun _ h => .mk h) (Or.inl ⟨by rfl, fun v hv => ?_⟩) ((HKP _).out BEL.out) (fun K hK => ?_)
          · have e := cell_at hv.1 HC12.out.1
            go_simp
          go_simp
          refine hK.out _ ?_
          clear hK K
          refine Rg.takeK 28 (v := .pointer (some ⟨wr.heap.size, 2, none⟩)) rfl (by kernel_rfl) (by kernel_rfl) (by kernel_rfl) (fun _ _ _ h => h) (Rg.But.lets (by kernel_rfl) (fun _ h => h)) (fun _ h => .mk h) (Or.inl ⟨by rfl, fun v hv => ?_⟩) ((HKP _).out BEL.out) (fun K hK => ?_)
          · go_simp
          go_simp
          refine hK.out _ ?_
          clear hK K
          refine Rg.takeK 29 (v := .int .i64 st.t) rfl (by kernel_rfl) (by kernel_rfl) (by kernel_rfl) (fun _ _ _ h => h) (Rg.But.lets (by kernel_rfl) (fun _ h => h)) (fun _ h => .mk h) (Or.inl ⟨by rfl, fun v hv => ?_⟩) ((HKP _).out BEL.out) (fun K hK => ?_)
          · have e := cell_at hv.1 HC12.out.2
            go_simp
          go_simp
          refine hK.out _ ?_
          clear hK K
          refine Rg.takeK 31 (v := .pointer (some ⟨y, 0, none⟩)) rfl (by kernel_rfl) (by kernel_rfl) (by kernel_rfl) (fun _ _ _ h => h) (Rg.But.lets (by kernel_rfl) (fun _ h => h)) (fun _ h => .mk h) (Or.inl ⟨by rfl, fun v hv => ?_⟩) ((HKP _).out BEL.out) (fun K hK => ?_)
          · go_simp
          go_simp
          refine hK.out _ ?_
          clear hK K
          refine Rg.takeK 32 (v := .pointer (some ⟨wr.heap.size, 1, none⟩)) rfl (by kernel_rfl) (by kernel_rfl) (by kernel_rfl) (fun _ _ _ h => h) (Rg.But.lets (by kernel_rfl) (fun _ h => h)) (fun _ h => .mk h) (Or.inl ⟨by rfl, fun v hv => ?_⟩) ((HKP _).out BEL.out) (fun K hK => ?_)
          · go_simp
          go_simp
          refine hK.out _ ?_
          clear hK K
          refine Rg.takeK 33 (v := .int .i64 st.f) rfl (by kernel_rfl) (by kernel_rfl) (by kernel_rfl) (fun _ _ _ h => h) (Rg.But.lets (by kernel_rfl) (fun _ h => h)) (fun _ h => .mk h) (Or.inl ⟨by rfl, fun v hv => ?_⟩) ((HKP _).out BEL.out) (fun K hK => ?_)
          · have e := cell_at hv.1 HC12.out.1
            go_simp
          go_simp
          refine hK.out _ ?_
          clear hK K
          refine Rg.takeK 34 (v := .pointer (some ⟨wr.heap.size, 2, none⟩)) rfl (by kernel_rfl) (by kernel_rfl) (by kernel_rfl) (fun _ _ _ h => h) (Rg.But.lets (by kernel_rfl) (fun _ h => h)) (fun _ h => .mk h) (Or.inl ⟨by rfl, fun v hv => ?_⟩) ((HKP _).out BEL.out) (fun K hK => ?_)
          · go_simp
          go_simp
          refine hK.out _ ?_
          clear hK K
          refine Rg.takeK 35 (v := .int .i64 st.t) rfl (by kernel_rfl) (by kernel_rfl) (by kernel_rfl) (fun _ _ _ h => h) (Rg.But.lets (by kernel_rfl) (fun _ h => h)) (fun _ h => .mk h) (Or.inl ⟨by rfl, fun v hv => ?_⟩) ((HKP _).out BEL.out) (fun K hK => ?_)
          · have e := cell_at hv.1 HC12.out.2
            go_simp
          go_simp
          refine hK.out _ ?_
          clear hK K
          refine Rg.only 30 (by kernel_rfl) (by simp only [List.getElem?_toArray, List.getElem?_cons_succ, List.getElem?_cons_zero]; rfl) (fun K hK => ?_)
          go_simp
          refine ((H26 _).out BEL.out).mono ?_
          rintro e vv ⟨rfl, rfl⟩
          refine hK.out _ _ (.mk ((HKP _).out BEL.out)) ?_
          clear hK K
          refine Rg.only 36 (by kernel_rfl) (by simp only [List.getElem?_toArray, List.getElem?_cons_succ, List.getElem?_cons_zero]; rfl) (fun K hK => ?_)
          go_simp
          refine ((H27 _).out BEL.out).mono ?_
          rintro e vv ⟨rfl, rfl⟩
          refine hK.out _ _ (.mk ((HKP _).out BEL.out)) ?_
          clear hK K
          refine Rg.only 37 (by kernel_rfl) (by simp only [List.getElem?_toArray, List.getElem?_cons_succ, List.getElem?_cons_zero]; rfl) (fun K hK => ?_)
          go_simp
          refine hK.out _ _ (.mk ((HKP _).out BEL.out)) ?_
          clear hK K
          refine Rg.only 38 (by kernel_rfl) (by simp only [List.getElem?_toArray, List.getElem?_cons_succ, List.getElem?_cons_zero]; rfl) (fun K hK => ?_)
          go_simp
          refine hK.out _ _ (.mk ((HKP _).out BEL.out)) ?_
          clear hK K
          refine Rg.only 39 (by kernel_rfl) (by simp only [List.getElem?_toArray, List.getElem?_cons_succ, List.getElem?_cons_zero]; rfl) (fun K hK => ?_)
          go_simp
          refine hK.out _ _ (.mk ((HKP _).out BEL.out)) ?_
          clear hK K
          refine Rg.takeK 40 (v := .pointer (some ⟨x, 0, none⟩)) rfl (by kernel_rfl) (by kernel_rfl) (by kernel_rfl) (fun _ _ _ h => h) (Rg.But.lets (by kernel_rfl) (fun _ h => h)) (fun _ h => .mk h) (Or.inl ⟨by rfl, fun v hv => ?_⟩) ((HKP _).out BEL.out) (fun K hK => ?_)
          · go_simp
          go_simp
          refine hK.out _ ?_
          clear hK K
          refine Rg.takeK 42 (v := .pointer (some ⟨y, 0, none⟩)) rfl (by kernel_rfl) (by kernel_rfl) (by kernel_rfl) (fun _ _ _ h => h) (Rg.But.lets (by kernel_rfl) (fun _ h => h)) (fun _ h => .mk h) (Or.inl ⟨by rfl, fun v hv => ?_⟩) ((HKP _).out BEL.out) (fun K hK => ?_)
          · go_simp
          go_simp
          refine hK.out _ ?_
          clear hK K
          refine Rg.only 41 (by kernel_rfl) (by simp only [List.getElem?_toArray, List.getElem?_cons_succ, List.getElem?_cons_zero]; rfl) (fun K hK => ?_)
          go_simp
          refine ((H28 _).out BEL.out).mono ?_
          rintro e vr ⟨rfl, hbr⟩
          have BELr := Lib.hid (BEL.out.trans (hbr.mono BEL.out.size))
          clear hbr BEL
          have BEL := BELr
          clear BELr
          refine hK.out _ _ (.mk ((HKP _).out BEL.out)) ?_
          clear hK K
          refine Rg.only 43 (by kernel_rfl) (by simp only [List.getElem?_toArray, List.getElem?_cons_succ, List.getElem?_cons_zero]; rfl) (fun K hK => ?_)
          go_simp
          refine ((H29 _).out BEL.out).mono ?_
          rintro e vv ⟨rfl, rfl⟩
          refine hK.out _ _ (.mk ((HKP _).out BEL.out)) ?_
          clear hK K
          refine Rg.only 44 (by kernel_rfl) (by simp only [List.getElem?_toArray, List.getElem?_cons_succ, List.getElem?_cons_zero]; rfl) (fun K hK => ?_)
          go_simp
          refine hK.out _ _ (.mk ((HKP _).out BEL.out)) ?_
          clear hK K
          refine Rg.only 45 (by kernel_rfl) (by simp only [List.getElem?_toArray, List.getElem?_cons_succ, List.getElem?_cons_zero]; rfl) (fun K hK => ?_)
          go_simp
          refine hK.out _ _ (.mk ((HKP _).out BEL.out)) ?_
          clear hK K
          refine Rg.done (by kernel_rfl) ?_
          have HF := Lib.hid ((HFT _).out BEL.out)
          go_wp2
          go_roundw
          case rel => exact ⟨k + 1, by omega, by go_num, HF.out⟩
          case measure => simp [intOf]; omega
      · as_aux_lemma =>
        have hke : k = len := by omega
        obtain ⟨S2, T2, X2, L2, C2, ls2, cuts2, hts2⟩ := hst.out
        have hll := hts2.ll
        have hlc := hts2.lc
        have HFIN := Lib.hid hts2.sim.inv.2.2
        have H24 : ∀ a b : Int, Hid (Calls Try.prog 24 #[.pointer (some ⟨x, 0, none⟩), .int .i64 a, .int .i64 b] wr fun e w' => e = .returned (.int .i64 (X2.len a b : Nat)) ∧ w' = wr) := fun a b => len_ok hts2.sim.inv.1 a b
        have H25 : ∀ a b : Int, Hid (Calls Try.prog 25 #[.pointer (some ⟨y, 0, none⟩), .int .i64 a, .int .i64 b] wr fun e w' => e = .returned (.int .i64 (X2.len a b : Nat)) ∧ w' = wr) := fun a b => by
          have := rlen_any hts2.sim.ref (by omega) a b
          rw [← hts2.sim.lens] at this; exact this
        have H26 : ∀ a b : Int, Hid (Calls Try.prog 26 #[.pointer (some ⟨x, 0, none⟩), .int .i64 a, .int .i64 b] wr fun e w' => e = .returned (.bool (X2.cutOf a b)) ∧ w' = wr) := fun a b => off_ok hts2.sim.inv.1 a b
        have H27 : ∀ a b : Int, Hid (Calls Try.prog 27 #[.pointer (some ⟨y, 0, none⟩), .int .i64 a, .int .i64 b] wr fun e w' => e = .returned (.bool (X2.cutOf a b)) ∧ w' = wr) := fun a b => by
          have := roff_any hts2.sim.ref (by omega) a b
          rw [← hts2.sim.offs] at this; exact this
        clear hst hts2 hll hlc hke
        go_wp2
        go_loop [14] (fun s => ∃ a : Int, -1 ≤ a ∧ a ≤ 6 ∧ s = .int .i64 a) (fun s => (6 - intOf s).toNat)
        case atStart => exact ⟨-1, by omega, by omega, rfl⟩
        case round =>
          obtain ⟨a, ha1, ha2, rfl⟩ := hrel
          by_cases ha : a < 6
          · go_wp2
            go_loop [15] (fun s => ∃ b : Int, -1 ≤ b ∧ b ≤ 6 ∧ s = .int .i64 b) (fun s => (6 - intOf s).toNat)
            case atStart => exact ⟨-1, by omega, by omega, rfl⟩
            case round =>
              obtain ⟨b, hb1, hb2, rfl⟩ := hrel
              by_cases hb : b < 6
              · obtain ⟨nl, hnl⟩ : ∃ n, X2.len a b = n := ⟨_, rfl⟩
                obtain ⟨of, hof⟩ : ∃ o, X2.cutOf a b = o := ⟨_, rfl⟩
                have G24 := Lib.hid (H24 a b).out
                have G25 := Lib.hid (H25 a b).out
                have G26 := Lib.hid (H26 a b).out
                have G27 := Lib.hid (H27 a b).out
                rw [hnl] at G24 G25
                rw [hof] at G26 G27
                clear hnl hof
                go_wp2_with fail
                refine G24.out.mono ?_
                rintro e v1 ⟨rfl, rfl⟩
                go_wp2_with fail
                refine G25.out.mono ?_
                rintro e v2 ⟨rfl, rfl⟩
                go_wp2_with fail
                refine G26.out.mono ?_
                rintro e v3 ⟨rfl, rfl⟩
                go_wp2_with fail
                refine G27.out.mono ?_
                rintro e v4 ⟨rfl, rfl⟩
                clear G24 G25 G26 G27
                go_wp2
                go_round
                case rel => exact ⟨b + 1, by omega, by omega, rfl⟩
                case measure => simp [intOf]; omega
              · have hb6 : b = 6 := by omega
                subst hb6
                go_wp2
                go_round
                case rel => exact ⟨a + 1, by omega, by omega, rfl⟩
                case measure => simp [intOf]; omega
          · have ha6 : a = 6 := by omega
            subst ha6
            go_wp2
            go_ret
            exact ⟨rfl, HFIN.out⟩
end Go.Proofs.Ytdkpgjhjdnfieaa
