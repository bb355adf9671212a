/- The contracts of Set and New. Condition: the index lies in memory as stated, the text has at most 1000000 bytes. -/
import Derived.Test.YtokfiikpfckahaaF
import Derived.Deep.RegionWith
import Derived.Deep.Onto
import Derived.Laws.Cover3
set_option linter.unusedVariables false
set_option linter.unusedSimpArgs false
namespace Go.Proofs.Ytokfiikpfckahaa
open Go.RowKit Go.Lib Go.Ix Go.Sort Go.Mf
set_option maxRecDepth 100000

theorem words_str (text : Str) (w : World) (ht : text.length ≤ 1000000) : Calls Try.prog 9 #[encStr text] w fun e w' => ∃ v, e = .returned v ∧ OwnS w' w.heap.size v (wordsOf text) ∧ Below w.heap.size w w' := by
  refine (words_any ⟨text.toArray⟩ w (by rw [size_str]; exact ht)).mono ?_
  rintro e w' ⟨v, rfl, h1, h2⟩
  exact ⟨v, rfl, h1, h2⟩

def hasS (W : Str → Option (List Str)) (id : Str) (ws : List Str) (j : Nat) : Str → Str → Bool := fun k i => hasOf W k i || (decide (i = id) && decide (k ∈ ws.take j))

theorem hasS_zero (W : Str → Option (List Str)) (id : Str) (ws : List Str) : hasS W id ws 0 = hasOf W := by
  funext k i; simp [hasS]

theorem hasS_end (W : Str → Option (List Str)) (id : Str) (ws : List Str) (h : W id = none) : hasS W id ws ws.length = hasOf (fun j => if j = id then some ws else W j) := by
  funext k i
  by_cases e : i = id
  · subst e; simp [hasS, hasOf, h]
  · simp [hasS, hasOf, e]

theorem hasS_other (W : Str → Option (List Str)) (id : Str) (ws : List Str) (j : Nat) (hj : j < ws.length) (k i : Str) (hk : k ≠ ws[j]) : hasS W id ws (j + 1) k i = hasS W id ws j k i := by
  have : k ∈ ws.take (j + 1) ↔ k ∈ ws.take j := by rw [mem_take_succ hj]; simp [hk]
  simp only [hasS, this]

theorem hasS_here (W : Str → Option (List Str)) (id : Str) (ws : List Str) (j : Nat) (hj : j < ws.length) : setFn (hasS W id ws (j + 1)) ws[j] = fun i => if i = id then some (.bool true) else setFn (hasS W id ws j) ws[j] i := by
  have m : ws[j] ∈ ws.take (j + 1) := (mem_take_succ hj _).2 (Or.inr rfl)
  funext i
  by_cases e : i = id
  · simp [setFn, hasS, m, e]
  · simp [setFn, hasS, e]

theorem run_eql_map_nil (w : World) (m : Option Nat) : (binOp .eql 57 (.map m) (.map none)).run Try.prog w = .ok (.bool m.isNone) w := by
  simp only [binOp]
  simp [run_equal_map_nil w 57 9 4 m und57]

/-- the loop's state -/
def SetSt (w1 : World) (B : Ter) (x mw mi : Nat) (W : Str → Option (List Str)) (id : Str) (ws : List Str) (v : Value) (j : Nat) (wr : World) : Prop :=
  (∃ fw fi, IxM wr B x mw mi fw fi (fun j => if j = id then some ws else W j) (hasS W id ws j)) ∧ OwnS wr 0 v ws ∧ Bk B w1 wr

def SetPost (w : World) (B : Ter) (x : Nat) (W : Str → Option (List Str)) (id text : Str) : Ending → World → Prop :=
  fun e w' => e = .returned (.tuple #[]) ∧ IxAt w' B x (fun j => if j = id then some (wordsOf text) else W j) ∧ Bk B w w'

/-- what the first statement leaves -/
def LearnSt (w1 : World) (B : Ter) (x mw mi : Nat) (fi : Str → Option Value) (W : Str → Option (List Str)) (id text : Str) (v : Value) (w3 : World) : Prop :=
  (∃ fw, IxM w3 B x mw mi fw fi (fun j => if j = id then some (wordsOf text) else W j) (hasOf W) ∧ fw id = some v) ∧ OwnS w3 0 v (wordsOf text) ∧ Bk B w1 w3

theorem learn_call {w1 : World} {B : Ter} {x mw mi : Nat} {fw fi : Str → Option Value} {W : Str → Option (List Str)} (hx : IxM w1 B x mw mi fw fi W (hasOf W)) (hBw : B.fresh w1.heap.size) (id text : Str) (ht : text.length ≤ 1000000) (n : Nat) :
    Calls Try.prog 9 #[encStr text] (w1.drewN n) fun e w2 => ∃ v w3, e = .returned v ∧ w2.cell? ⟨x, 0, none⟩ = some (.map (some mw)) ∧ (Instr.mapUpdate 53 (.map (some mw)) (encStr id) v).run Try.prog w2 = .ok () w3 ∧ Hid (LearnSt w1 B x mw mi fi W id text v w3) := by
  refine (words_str text (w1.drewN n) ht).mono ?_
  rintro e w2 ⟨v, rfl, hown, hb⟩
  have hb2 : Below w1.heap.size w1 w2 := ⟨hb.os, hb.tape, hb.output, hb.size, hb.block⟩
  have hx2 := hx.up hb2
  obtain ⟨w3, hrun, hm3, hg3, hsz3, _⟩ := hx2.words.update keyS und53 id v
  have hown2 : OwnS w2 0 v (wordsOf text) := World.ownsRow.mono hown (Nat.zero_le _)
  refine ⟨v, w3, rfl, by rw [cell_of_block hx2.blk]; rfl, hrun, Lib.hid ⟨⟨_, hx2.learn hown2 hm3 hg3, if_pos rfl⟩, OwnS.map hown2 hx2.words hg3, ((Bk.refl B w1).up hb2 hBw).grown hx2.words hg3 (hBw.up hb2.size) hx.hmw⟩⟩

set_option maxHeartbeats 4000000 in
theorem set_any {w : World} {B : Ter} {x : Nat} {W : Str → Option (List Str)} (h : IxAt w B x W) (hBw : B.fresh w.heap.size) (id text : Str) (ht : text.length ≤ 1000000) : Calls Try.prog 15 #[.pointer (some ⟨x, 0, none⟩), encStr id, encStr text] w (SetPost w B x W id text) := by
  have hrm := remove_any h hBw id
  have HRM := Lib.hid hrm
  have HBW := Lib.hid hBw
  clear hrm h hBw
  go_enter Try.func15, Try.ntmps15
  go_wp2_with (go_at_call 17; refine HRM.out.mono ?_; rintro e w1 ⟨rfl, hix, hb1⟩
               have HIX := Lib.hid hix
               have HB1 := Lib.hid hb1
               clear hix hb1)
  obtain ⟨⟨mw, mi, fw, fi, hx⟩, hWn⟩ := HIX.out
  have c0 : w1.cell? ⟨x, 0, none⟩ = some (.map (some mw)) := by rw [cell_of_block hx.blk]; rfl
  have HX := Lib.hid hx
  have HWn := Lib.hid hWn
  clear hx hWn
  have HL := Lib.hid (fun n => learn_call HX.out (HBW.out.up HB1.out.size) id text ht n)
  change Code.wp _ _ _ _ (w1.drewN 0)
  go_region_with (go_at_call 9; refine (HL.out _).mono ?_; rintro e w2 ⟨v, w3, rfl, c02, hrun, hf⟩)
  all_goals
    have hwl : (wordsOf text).length ≤ 1000001 := Nat.le_trans (wordsOf_len text) (Nat.le_trans (tok_len text []) (by omega))
    obtain ⟨ws, hws⟩ : ∃ ws, ws = wordsOf text := ⟨_, rfl⟩
    obtain ⟨n, hn⟩ : ∃ n, n = ws.length := ⟨_, rfl⟩
    have hf2 := hf.out
    unfold LearnSt at hf2
    rw [← hws] at hf2 hwl
    obtain ⟨⟨fw3, hx3, hfw3⟩, hown3, hbel3⟩ := hf2
    have hl3 := hx3.words.lookup keyS und53 (zero23 w3) id
    rw [hfw3] at hl3
    simp only [Option.getD_some] at hl3
    obtain ⟨p, cap, hv⟩ : ∃ p cap, v = .slice p ws.length cap := by
      rcases hown3.2 with ⟨rfl, h0⟩ | ⟨g, cap, cur, rfl, _⟩
      · exact ⟨none, 0, by rw [h0]⟩
      · exact ⟨_, _, rfl⟩
    subst hv
    rw [← hn] at hl3
    have c03 : w3.cell? ⟨x, 0, none⟩ = some (.map (some mw)) := by rw [cell_of_block hx3.blk]; rfl
    have hxl3 := hx3.lt
    have hst0 : SetSt w1 B x mw mi (fun j => if j = id then none else W j) id ws (.slice p ws.length cap) 0 w3 := ⟨⟨fw3, fi, by rw [hasS_zero]; exact hx3⟩, hown3, hbel3⟩
    have HST0 := Lib.hid hst0
    have HWS := Lib.hid hws
    rw [← hn] at hwl
    have HN := Lib.hid hn
    clear hst0 hf hx3 hown3 hbel3 hrun c02 hws hn hfw3
    go_wp2
    go_loopw [25] (fun i wr => ∃ j : Nat, j ≤ n ∧ i = .int .i64 j ∧ Hid (SetSt w1 B x mw mi (fun j => if j = id then none else W j) id ws (.slice p n cap) j wr)) (fun i _ => n - (intOf i).toNat)
    case atStart => exact ⟨0, by omega, rfl, Lib.hid (by rw [HN.out]; exact HST0.out)⟩
    case round =>
      obtain ⟨j, hj, rfl, hst⟩ := hrel
      clear hl3 c03 hxl3
      by_cases hjn : j < n
      · have hjl : j < ws.length := by rw [← HN.out]; exact hjn
        have hjI : (j : Int) < n := by omega
        have hj0 : (0 : Int) ≤ j := by omega
        obtain ⟨⟨fw2, fi2, hx⟩, hown, hbel⟩ := hst.out
        obtain ⟨g, rfl⟩ : ∃ g, p = some ⟨g, 0, none⟩ := by
          rcases hown.2 with ⟨h0, h1⟩ | ⟨g, cap', cur, h0, _⟩
          · omega
          · cases h0; exact ⟨g, rfl⟩
        have hcell := own_cell (w := wr) (B := 0) (g := g) (cap := cap) (ws := ws) (by rw [← HN.out]; exact hown) j hjl
        obtain ⟨k, hk⟩ : ∃ k, k = ws[j] := ⟨_, rfl⟩
        rw [← hk] at hcell
        have c1 : wr.cell? ⟨x, 1, none⟩ = some (.map (some mi)) := by rw [cell_of_block hx.blk]; rfl
        have hxl := hx.lt
        have hl1 := hx.ids.lookup keyS und54 (zero57 wr) k
        have hadd : ∀ (wa wb : World) (fi' : Str → Option Value) (m : Nat), IxM wa B x mw mi fw2 fi' (fun j => if j = id then some ws else (if j = id then none else W j)) (hasS (fun j => if j = id then none else W j) id ws j) → OwnS wa 0 (.slice (some ⟨g, 0, none⟩) n cap) ws → Bk B w1 wa → fi' k = some (.map (some m)) → MapFn wb m encStr (fun i => if i = id then some (.bool true) else setFn (hasS (fun j => if j = id then none else W j) id ws j) k i) → wa.grownBy wb (some m) → MapFn wa m encStr (setFn (hasS (fun j => if j = id then none else W j) id ws j) k) → B.ok m → SetSt w1 B x mw mi (fun j => if j = id then none else W j) id ws (.slice (some ⟨g, 0, none⟩) n cap) (j + 1) wb := by
          intro wa wb fi' m ha hoa hba hkm hmb hgb hma hBm
          refine ⟨⟨fw2, fi', ha.inner hkm (fun k' i hk' => hasS_other _ id ws j hjl k' i (by rw [← hk]; exact hk')) ?_ hgb⟩, OwnS.map hoa hma hgb, hba.grown hma hgb (HBW.out.up (Nat.le_trans HB1.out.size hba.size)) hBm⟩
          rw [hk, hasS_here _ id ws j hjl, ← hk]
          exact hmb
        have HADD := Lib.hid hadd
        have HX := Lib.hid hx
        have HO := Lib.hid hown
        have HB := Lib.hid hbel
        have HK := Lib.hid hk
        have HJL := Lib.hid hjl
        clear hadd hst hk
        rcases hx.sets k with ⟨hnone, hno⟩ | ⟨m, hm1, hm2, hm3, hm4, hm5⟩
        · rw [hnone] at hl1
          simp only [Option.getD_none] at hl1
          have heq : (binOp .eql 57 (.map none) (.map none)).run Try.prog wr = .ok (.bool true) wr := run_eql_map_nil wr none
          have hmk : (Instr.makeMap 57 none).run Try.prog wr = .ok (.map (some wr.heap.size)) (wr.alloc (.map #[] 0)) := rfl
          have hopen : ∀ wb, MapFn wb mi encStr (fun j => if j = k then some (.map (some wr.heap.size)) else fi2 j) → (wr.alloc (.map #[] 0)).grownBy wb (some mi) → IxM wb B x mw mi fw2 (fun j => if j = k then some (.map (some wr.heap.size)) else fi2 j) (fun j => if j = id then some ws else (if j = id then none else W j)) (hasS (fun j => if j = id then none else W j) id ws j) ∧ OwnS wb 0 (.slice (some ⟨g, 0, none⟩) n cap) ws ∧ Bk B w1 wb := by
            intro wb h1 h2
            have hB1 : B.fresh wr.heap.size := HBW.out.up (Nat.le_trans HB1.out.size hbel.size)
            refine ⟨hx.open hnone (Nat.le_refl _) hB1.ok ((Below.refl _ _).alloc (Nat.le_refl _) _) (by simp) (MapFn.made wr encStr) h1 h2, OwnS.map (hown.alloc _) (hx.ids.alloc _) h2, (hbel.up ((Below.refl _ _).alloc (Nat.le_refl _) _) hB1).grown (hx.ids.alloc _) h2 (hB1.up (by simp)) hx.hmi⟩
          have HOP := Lib.hid hopen
          have HNO := Lib.hid hno
          clear hx hown hbel hnone hno hopen
          go_wp2_with (first
            | (at_mapUpdate; refine wpList_mapUpdate_fn rfl _ _ _ rfl keyS und54 rfl (HX.out.ids.alloc _) k rfl ?_; intro w4 h1 h2 h3 h4
               have hs := HOP.out w4 h1 h2
               have c14 : w4.cell? ⟨x, 1, none⟩ = some (.map (some mi)) := by rw [cell_of_block hs.1.blk]; rfl
               have hl4 := hs.1.ids.lookup keyS und54 (zero57 w4) k
               simp only [if_true, Option.getD_some] at hl4
               obtain ⟨hm5, hbm⟩ : MapFn w4 wr.heap.size encStr (setFn (hasS (fun j => if j = id then none else W j) id ws j) k) ∧ B.ok wr.heap.size := by
                 rcases hs.1.sets k with ⟨h9, _⟩ | ⟨m9, h9, h10, _, _, h11⟩
                 · simp at h9
                 · simp only [if_true, Option.some.injEq, Value.map.injEq] at h9
                   subst h9
                   exact ⟨h11, h10⟩
               have HM5 := Lib.hid hm5
               have HS4 := Lib.hid hs
               have HBM := Lib.hid hbm
               clear h1 h2 h3 h4 hs hm5 hbm hl1 c1 heq hcell)
            | (at_mapUpdate; refine wpList_mapUpdate_fn rfl _ _ _ rfl keyS und57 rfl HM5.out id rfl ?_; intro w5 h1 h2 h3 h4))
          go_roundw
          case rel => exact ⟨j + 1, by omega, by go_num, Lib.hid (HADD.out _ _ _ _ HS4.out.1 HS4.out.2.1 HS4.out.2.2 (if_pos rfl) h1 h2 HM5.out HBM.out)⟩
          case measure => simp [intOf]; omega
        · rw [hm1] at hl1
          simp only [Option.getD_some] at hl1
          have HM1 := Lib.hid hm1
          have HM5 := Lib.hid hm5
          clear hx hown hbel hm1 hm5
          have heq : (binOp .eql 57 (.map (some m)) (.map none)).run Try.prog wr = .ok (.bool false) wr := run_eql_map_nil wr (some m)
          go_wp2_with (at_mapUpdate; refine wpList_mapUpdate_fn rfl _ _ _ rfl keyS und57 rfl HM5.out id rfl ?_; intro w4 h1 h2 h3 h4)
          go_roundw
          case rel => exact ⟨j + 1, by omega, by go_num, Lib.hid (HADD.out _ _ _ _ HX.out HO.out HB.out HM1.out h1 h2 HM5.out hm2)⟩
          case measure => simp [intOf]; omega
      · obtain rfl : j = n := by omega
        obtain ⟨⟨fw2, fi2, hx⟩, hown, hbel⟩ := hst.out
        have hnone : (fun j => if j = id then none else W j) id = none := if_pos rfl
        rw [HN.out, hasS_end _ id ws hnone] at hx
        have e : (fun j => if j = id then some ws else (fun j => if j = id then none else W j) j) = fun j => if j = id then some ws else W j := by
          funext j; by_cases e : j = id <;> simp [e]
        rw [e] at hx
        have HX := Lib.hid hx
        have HB := Lib.hid hbel
        clear hx hst hown hbel hnone e
        go_wp2
        go_end0
        refine ⟨rfl, ⟨⟨mw, mi, _, fi2, by rw [← HWS.out]; exact HX.out⟩, fun i l hi => ?_⟩, (HB1.out.trans HB.out)⟩
        simp only at hi
        by_cases e : i = id
        · rw [if_pos e] at hi; cases hi
          exact ⟨(wordsOf_asc text).nodup, by rw [← HWS.out, ← HN.out]; exact hwl⟩
        · rw [if_neg e] at hi; exact HWn.out i l (by rw [if_neg e]; exact hi)
end Go.Proofs.Ytokfiikpfckahaa
