/- The contract of Box.lacks. Conditions: the box, the ends and the time as stated. -/
import Derived.Test.YthbnnifkoomokaaG
set_option linter.unusedVariables false
set_option linter.unusedSimpArgs false
namespace Go.Proofs.Ythbnnifkoomokaa
open Go.RowKit Go.Mf

def LacksPost (w : World) (l : List Snd) : Ending → World → Prop := fun e w' => ∃ u, e = .returned u ∧ w'.ownsRow w.heap.size 34 4 u l.length (flat l) ∧ Below w.heap.size w w'

theorem lackStep_stay {X : Bx} {p : Int} {L : List (List Int)} {log : Int} {st : List Snd × Int} (h : log = p ∨ (L.length : Int) ≤ log ∨ st.1.length = 8) : lackStep X p L log st = st := by
  unfold lackStep; rw [if_pos h]
theorem lackStep_go {X : Bx} {p : Int} {L : List (List Int)} {log : Int} {st : List Snd × Int} (h1 : log ≠ p) (h2 : ¬ (L.length : Int) ≤ log) (h3 : st.1.length ≠ 8) :
    lackStep X p L log st = if 0 < best st.2 (X.sentOf p log) (L.getD log.toNat []) then (st.1 ++ [⟨p, log, X.sentOf p log, best st.2 (X.sentOf p log) (L.getD log.toNat [])⟩], st.2 - best st.2 (X.sentOf p log) (L.getD log.toNat [])) else st := by
  unfold lackStep; rw [if_neg (by rintro (h | h | h) <;> contradiction)]
theorem cells_new {W : World} {g : Nat} {cs : List Value} {T : TypeId} {fr : Nat × Nat} (h : W.heap[g]? = some (.cells cs.toArray T fr)) : ∀ (j : Nat) (u : Value), cs[j]? = some u → W.cell? ((⟨g, 0, none⟩ : Addr).add j) = some u := by
  intro j u hu
  have hadd : (⟨g, 0, none⟩ : Addr).add j = ⟨g, j, none⟩ := by unfold Addr.add; split <;> simp_all
  rw [hadd]; simp [World.cell?, h, hu]
theorem sndCells_one (s : Snd) : ∀ u ∈ sndCells s, u.oneCell' = true := by intro u hu; simp [sndCells] at hu; rcases hu with rfl | rfl | rfl | rfl <;> rfl
theorem bestStep_yes {left src c e : Int} (h : src < e) (h1 : e - src ≤ 64) (h2 : e - src ≤ left) : bestStep left src c e = max c (e - src) := by
  unfold bestStep; rw [if_pos ⟨h, by omega⟩]
theorem bestStep_no {left src c e : Int} (h : ¬ (src < e ∧ e - src ≤ 64 ∧ e - src ≤ left)) : bestStep left src c e = c := by
  unfold bestStep; rw [if_neg (by omega)]
theorem int_eq {k : IntKind} {a b : Int} (h : a = b) : Value.int k a = Value.int k b := by rw [h]
theorem cells_new0 {W : World} {g : Nat} {cs : List Value} {T : TypeId} {fr : Nat × Nat} (h : W.heap[g]? = some (.cells cs.toArray T fr)) : ∀ (j : Nat) (u : Value), cs[j]? = some u → W.cell? ⟨g, j, none⟩ = some u := by
  intro j u hu; simp [World.cell?, h, hu]
theorem flat_snoc (l : List Snd) (s : Snd) : flat (l ++ [s]) = flat l ++ sndCells s := by simp [flat]
theorem info34 : (Try.prog.info? 34).map (fun i => (i.zero, i.size, i.bytes)) = some (some (.agg #[.int .i64 0, .int .i64 0, .int .i64 0, .int .i64 0]), 4, 32) := by kernel_rfl

set_option maxHeartbeats 2000000 in
set_option maxRecDepth 100000 in
theorem lacks_raw (w : World) (b bs : Nat) (X : Bx) (p now : Int) (S : Nat → Prop) (v : Value) (L : List (List Int)) (hL : RowsAt w S v L)
    (hn1 : 1 ≤ X.n) (hn2 : X.n ≤ 20) (ht1 : 0 ≤ now) (ht2 : now ≤ 1099511627776) (hb1 : 0 ≤ X.bud) (hb2 : X.bud ≤ 9223372036854775807)
    (c1 : w.cell? ⟨b,1,none⟩ = some (.int .i64 X.n)) (c2 : w.cell? ⟨b,2,none⟩ = some (.int .i64 X.bud)) (c4 : w.cell? ⟨b,4,none⟩ = some (.map (some bs)))
    (hls : ∀ k l w', w'.heap[bs]? = w.heap[bs]? → (Instr.lookup 48 (.map (some bs)) (.agg #[.int .i64 k, .int .i64 l]) false).run Try.prog w' = .ok (.int .i64 (X.sentOf k l)) w')
    (hsp : ∀ k l, 0 ≤ X.sentOf k l)
    (hbw : b < w.heap.size) (hbs : bs < w.heap.size) :
    Calls Try.prog 19 #[.pointer (some ⟨b,0,none⟩), .int .i64 p, .int .i64 now, v] w (LacksPost w (X.lacks p now L)) := by
  obtain ⟨av, cv, rfl, hLl, hrows⟩ := hL
  have HR := Lib.hid hrows
  have HS := Lib.hid hls
  have HSP := Lib.hid hsp
  have HLL := Lib.hid hLl
  clear hrows hls hsp hLl
  obtain ⟨n, hn⟩ : ∃ n, X.n = n := ⟨_, rfl⟩
  have HN := Lib.hid hn
  rw [hn] at hn1 hn2 c1
  clear hn
  have HB1 := Lib.hid hb1
  have HB2 := Lib.hid hb2
  clear hb1 hb2
  obtain ⟨i0, hi, hz0, hz1, hz2⟩ := info_parts info34
  go_enter Try.func19, Try.ntmps19
  go_wp2
  go_loopw [26, 9, 10] (fun i v lf wr => ∃ k : Nat, (k : Int) ≤ n ∧ i = .int .i64 k ∧ lf = .int .i64 (lackTo X p now L k).2 ∧ wr.ownsRow w.heap.size 34 4 v (lackTo X p now L k).1.length (flat (lackTo X p now L k).1) ∧ Below w.heap.size w wr) (fun i _ _ _ => (n - intOf i).toNat)
  case atStart => exact ⟨0, by omega, rfl, rfl, World.ownsRow_nil _ _ _ _, Below.refl _ _⟩
  case round =>
    obtain ⟨k, hk, rfl, rfl, hown, hbel⟩ := hrel
    have c1' := (hbel.cell (p := ⟨b,1,none⟩) hbw).trans c1
    have c4' := (hbel.cell (p := ⟨b,4,none⟩) hbw).trans c4
    have hbw' : b < wr.heap.size := Nat.lt_of_lt_of_le hbw hbel.size
    have hlen := lackTo_len (X := X) (p := p) (now := now) (L := L) k
    have hlf := lackTo_left (X := X) (p := p) (now := now) (L := L) HB1.out k
    have hnext : lackTo X p now L (k + 1) = lackStep X p L (logAt X now k) (lackTo X p now L k) := rfl
    have hfin : X.lacks p now L = (lackTo X p now L n.toNat).1 := by unfold Bx.lacks; rw [HN.out]
    obtain ⟨st, hst⟩ : ∃ st, lackTo X p now L k = st := ⟨_, rfl⟩
    obtain ⟨lg, hlg⟩ : ∃ lg, logAt X now k = lg := ⟨_, rfl⟩
    have hlg2 : (now % n + k) % n = lg := by rw [← hlg]; unfold logAt; rw [HN.out]
    have hlb := logAt_bounds (X := X) (now := now) (k := k) (by rw [HN.out]; exact hn1)
    rw [HN.out, hlg] at hlb
    rw [hst] at hown hlen hlf hnext ⊢
    rw [hlg] at hnext
    obtain ⟨m, hm⟩ : ∃ m, st.1.length = m := ⟨_, rfl⟩
    obtain ⟨lf, hlfe⟩ : ∃ lf, st.2 = lf := ⟨_, rfl⟩
    rw [hm] at hown hlen
    rw [hlfe] at hlf ⊢
    obtain ⟨a9, c9, rfl⟩ := ownsRow_shape hown
    have HO := Lib.hid hown
    have HB := Lib.hid hbel
    have HNEXT := Lib.hid hnext
    have HFIN := Lib.hid hfin
    have HST := Lib.hid hst
    have HM := Lib.hid hm
    have HLF := Lib.hid hlfe
    obtain ⟨hlf0, hlf1'⟩ := hlf
    have hlf1 : lf ≤ 9223372036854775807 := Int.le_trans hlf1' HB2.out
    obtain ⟨hlg0, hlg1⟩ := hlb
    clear hown hbel c1 c4 c2 hbw hnext hst hm hlfe hlg hlf1' hfin
    by_cases hlt : (k : Int) < n
    · have hlw := log_walk (now := now) hn1 hn2 hlt ht1
      rw [hlg2] at hlw
      clear hlg2
      have hn0 : (n == 0) = false := by simp; omega
      by_cases hA : lg = p
      · have hA' : (lg == p) = true := by simpa using hA
        have hstay := lackStep_stay (X := X) (L := L) (st := st) (Or.inl hA)
        have HSTAY := Lib.hid hstay
        clear hA hstay
        go_wp2
        go_quiet (fail)
        go_wp2
        go_roundw
        case rel => exact ⟨k + 1, by omega, by go_num, by rw [HNEXT.out, HSTAY.out, HLF.out], by rw [HNEXT.out, HSTAY.out, HM.out]; exact HO.out, below_drewN HB.out _⟩
        case measure => simp [intOf]; omega
      · have hA' : (lg == p) = false := by simpa using hA
        have HA := Lib.hid hA
        clear hA
        by_cases hBd : (L.length : Int) ≤ lg
        · have hstay := lackStep_stay (X := X) (L := L) (p := p) (st := st) (Or.inr (Or.inl hBd))
          have HSTAY := Lib.hid hstay
          clear hstay
          go_wp2
          go_quiet (fail)
          go_wp2
          go_roundw
          case rel => exact ⟨k + 1, by omega, by go_num, by rw [HNEXT.out, HSTAY.out, HLF.out], by rw [HNEXT.out, HSTAY.out, HM.out]; exact HO.out, below_drewN HB.out _⟩
          case measure => simp [intOf]; omega
        · have hBd' : decide ((L.length : Int) ≤ lg) = false := by simpa using hBd
          by_cases hC : m = 8
          · have hC' : ((m : Int) == 8) = true := by simp; omega
            have hstay := lackStep_stay (X := X) (L := L) (p := p) (log := lg) (st := st) (Or.inr (Or.inr (HM.out.trans hC)))
            have HSTAY := Lib.hid hstay
            clear hC hstay
            go_wp2
            go_quiet (fail)
            go_wp2
            go_roundw
            case rel => exact ⟨k + 1, by omega, by go_num, by rw [HNEXT.out, HSTAY.out, HLF.out], by rw [HNEXT.out, HSTAY.out, HM.out]; exact HO.out, below_drewN HB.out _⟩
            case measure => simp [intOf]; omega
          · have hC' : ((m : Int) == 8) = false := by simp; omega
            have hgo := lackStep_go (X := X) (L := L) (p := p) (log := lg) (st := st) HA.out hBd (by rw [HM.out]; exact hC)
            rw [HLF.out] at hgo
            obtain ⟨src, hsrc⟩ : ∃ src, X.sentOf p lg = src := ⟨_, rfl⟩
            have hsrc0 : 0 ≤ src := by rw [← hsrc]; exact HSP.out p lg
            have hlook : ∀ q, (Instr.lookup 48 (.map (some bs)) (.agg #[.int .i64 p, .int .i64 lg]) false).run Try.prog (wr.drewN q) = .ok (.int .i64 src) (wr.drewN q) := by
              intro q; rw [← hsrc]; exact HS.out p lg _ (HB.out.block bs hbs)
            obtain ⟨bL, offL, rfl, _, hLc⟩ := HR.out (by intro e; rw [e] at hBd; simp at hBd; omega)
            obtain ⟨u, hu, hue⟩ := hLc lg.toNat (by omega)
            rw [hsrc] at hgo
            obtain ⟨es, hes⟩ : ∃ es, L.getD lg.toNat [] = es := ⟨_, rfl⟩
            rw [hes] at hgo hue
            have hu' := cell_below HB.out hu
            have HE := Lib.hid (hue.of_cells (fun a x _ => cell_below HB.out))
            obtain ⟨ae, ce, rfl, hel, heb, hec⟩ := HE.out
            have HEB := Lib.hid heb
            have HEC := Lib.hid hec
            have HGO := Lib.hid hgo
            clear hC hgo hsrc hLc hue hes heb hec HE hu
            have hBd2 : lg < (L.length : Int) := by omega
            clear hBd
            go_wp2
            go_quiet (fail)
            go_wp2
            go_loop [69, 14] (fun i c => ∃ j : Nat, j ≤ es.length ∧ i = .int .i64 j ∧ c = .int .i64 (best lf src (es.take j))) (fun i _ => es.length - (intOf i).toNat)
            case atStart => exact ⟨0, by omega, rfl, rfl⟩
            case round =>
              obtain ⟨j, hj, rfl, rfl⟩ := hrel
              have hbb := best_bounds lf src (es.take j)
              by_cases hje : j < es.length
              · obtain ⟨be, oe, rfl, _, hcells⟩ := HEC.out (by intro e; rw [e] at hje; simp at hje)
                have hcj := hcells j hje
                have hbt := best_take (left := lf) (src := src) es j hje
                have heb := HEB.out (es.getD j 0) (by rw [List.getD_eq_getElem?_getD, List.getElem?_eq_getElem hje]; exact List.getElem_mem hje)
                obtain ⟨ej, hej⟩ : ∃ ej, es.getD j 0 = ej := ⟨_, rfl⟩
                obtain ⟨cj, hcjj⟩ : ∃ cj, best lf src (es.take j) = cj := ⟨_, rfl⟩
                rw [hej] at hcj hbt heb
                rw [hcjj] at hbt hbb ⊢
                obtain ⟨heb1, heb2⟩ := heb
                obtain ⟨hbb1, hbb2⟩ := hbb
                have HBT := Lib.hid hbt
                clear hcells hbt hej hcjj
                by_cases hse : src < ej
                · by_cases hmin : ej - src ≤ 64 ∧ ej - src ≤ lf
                  · obtain ⟨hm1, hm2⟩ := hmin
                    have hstep := bestStep_yes (c := cj) hse hm1 hm2
                    have HSTEP := Lib.hid hstep
                    clear hstep
                    go_wp2
                    all_goals
                      go_round
                      case rel => exact ⟨j + 1, by omega, by go_num, by rw [HBT.out, HSTEP.out]; exact int_eq (by split <;> omega)⟩
                      case measure => simp [intOf]; omega
                  · have hstep := bestStep_no (left := lf) (src := src) (c := cj) (e := ej) (by omega)
                    have HSTEP := Lib.hid hstep
                    clear hstep
                    have hor : 64 < ej - src ∨ lf < ej - src := by omega
                    clear hmin
                    rcases hor with hor | hor
                    all_goals
                      by_cases h64 : lf < 64
                      all_goals
                        go_wp2
                        all_goals
                          go_round
                          case rel => exact ⟨j + 1, by omega, by go_num, by rw [HBT.out, HSTEP.out]⟩
                          case measure => simp [intOf]; omega
                · have hstep := bestStep_no (left := lf) (src := src) (c := cj) (e := ej) (by omega)
                  have HSTEP := Lib.hid hstep
                  clear hstep
                  go_wp2
                  all_goals
                    go_round
                    case rel => exact ⟨j + 1, by omega, by go_num, by rw [HBT.out, HSTEP.out]⟩
                    case measure => simp [intOf]; omega
              · have hje2 : j = es.length := by omega
                have htk : es.take j = es := List.take_of_length_le (by omega)
                rw [htk] at hbb ⊢
                obtain ⟨hbb1, hbb2⟩ := hbb
                obtain ⟨cnt, hcnt⟩ : ∃ cnt, best lf src es = cnt := ⟨_, rfl⟩
                have hgo := HGO.out
                rw [hcnt] at hgo hbb1 hbb2 ⊢
                have hc64 : cnt ≤ 64 := by omega
                have hclf : cnt ≤ lf := by omega
                have HGO2 := Lib.hid hgo
                clear hje2 htk hgo hbb2 hcnt
                by_cases hpos : 0 < cnt
                · have hgo2 := HGO2.out
                  rw [if_pos hpos] at hgo2
                  have HGO3 := Lib.hid hgo2
                  clear hgo2
                  go_wp2_with (at_builtin; refine wpList_append_own _ rfl _ _ 31 rfl w.heap.size 34 i0 (.agg #[.int .i64 0, .int .i64 0, .int .i64 0, .int .i64 0]) 4 32 Try.underlying31 hi hz0 hz1 hz2 rfl (by decide) _ m (flat st.1) rfl ?own ⟨wr.heap.size, 0, none⟩ 1 1 (sndCells ⟨p, lg, src, cnt⟩) rfl rfl ?c1 ?c2 ?c3 ?c4 ?c5 ?_)
                  case own => exact HO.out.alloc _
                  case c1 => exact cells_new0 (heap_alloc_new (wr.drewN _) _)
                  case c2 => exact sndCells_one _
                  case c3 => simp only [maxLen]; omega
                  case c4 => omega
                  case c5 => have := HB.out.size; omega
                  intro v' w1 hown' hgrow hnil
                  have hB1 : Below w.heap.size w w1 := ((below_drewN HB.out _).alloc (by have := HB.out.size; simp [World.drewN]; omega) _).grown hgrow (by have := HB.out.size; simp [World.drewN]; omega) (fun q hq => (HO.out.lt q hq).1)
                  have HO1 := Lib.hid hown'
                  have HB1' := Lib.hid hB1
                  obtain ⟨a91, c91, rfl⟩ := ownsRow_shape hown'
                  clear hown' hgrow hnil hB1
                  go_wp2
                  go_roundw
                  case rel => exact ⟨k + 1, by omega, by go_num, by rw [HNEXT.out, HGO3.out], by rw [HNEXT.out, HGO3.out]; rw [show (st.1 ++ [⟨p, lg, src, cnt⟩] : List Snd).length = m + 1 by simp [HM.out], flat_snoc]; exact HO1.out, HB1'.out⟩
                  case measure => simp [intOf]; omega
                · have hgo2 := HGO2.out
                  rw [if_neg hpos] at hgo2
                  have HGO3 := Lib.hid hgo2
                  clear hgo2
                  go_wp2
                  go_roundw
                  case rel => exact ⟨k + 1, by omega, by go_num, by rw [HNEXT.out, HGO3.out, HLF.out], by rw [HNEXT.out, HGO3.out, HM.out]; exact HO.out, below_drewN HB.out _⟩
                  case measure => simp [intOf]; omega
    · have hkn : n.toNat = k := by omega
      have HKN := Lib.hid hkn
      clear hkn hlg2
      go_wp2
      go_ret
      exact ⟨_, rfl, by rw [HFIN.out, HKN.out, HST.out, HM.out]; exact HO.out, HB.out⟩
end Go.Proofs.Ythbnnifkoomokaa
