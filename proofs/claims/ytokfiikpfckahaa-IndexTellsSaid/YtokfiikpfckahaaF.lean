/- The contract of Remove. Condition: the index lies in memory as stated. -/
import Derived.Test.YtokfiikpfckahaaE
set_option linter.unusedVariables false
set_option linter.unusedSimpArgs false
namespace Go.Proofs.Ytokfiikpfckahaa
open Go.RowKit Go.Lib Go.Ix Go.Sort Go.Mf
set_option maxRecDepth 100000

theorem und53 : Try.prog.underlying 53 = some (.map 9 23) := by kernel_rfl
theorem und54 : Try.prog.underlying 54 = some (.map 9 57) := by kernel_rfl
theorem und57 : Try.prog.underlying 57 = some (.map 9 4) := by kernel_rfl
theorem keyS : KeyEnc Try.prog 9 encStr := keyEnc_str Try.underlying9
theorem zero23 (w : World) : (zeroValue 23).run Try.prog w = .ok (.slice none 0 0) w := by kernel_rfl
theorem zero57 (w : World) : (zeroValue 57).run Try.prog w = .ok (.map none) w := by kernel_rfl
theorem zero4 (w : World) : (zeroValue 4).run Try.prog w = .ok (.bool false) w := by kernel_rfl

/-! ### plain laws of the loops -/

def hasR (W : Str → Option (List Str)) (id : Str) (ws : List Str) (j : Nat) : Str → Str → Bool := fun k i => hasOf W k i && !(decide (i = id) && decide (k ∈ ws.take j))

theorem hasR_zero (W : Str → Option (List Str)) (id : Str) (ws : List Str) : hasR W id ws 0 = hasOf W := by
  funext k i; simp [hasR]

theorem hasR_end (W : Str → Option (List Str)) (id : Str) (ws : List Str) (h : ∀ l, W id = some l → l = ws) : hasR W id ws ws.length = hasOf (fun j => if j = id then none else W j) := by
  funext k i
  by_cases e : i = id
  · subst e
    cases hw : W i with
    | none => simp [hasR, hasOf, hw]
    | some l => have := h l hw; subst this; simp [hasR, hasOf, hw]
  · simp [hasR, hasOf, e]

theorem mem_take_succ {ws : List Str} {j : Nat} (hj : j < ws.length) (k : Str) : k ∈ ws.take (j + 1) ↔ k ∈ ws.take j ∨ k = ws[j] := by
  rw [List.take_succ_eq_append_getElem hj, List.mem_append]
  simp

theorem hasR_other (W : Str → Option (List Str)) (id : Str) (ws : List Str) (j : Nat) (hj : j < ws.length) (k i : Str) (hk : k ≠ ws[j]) : hasR W id ws (j + 1) k i = hasR W id ws j k i := by
  have : k ∈ ws.take (j + 1) ↔ k ∈ ws.take j := by rw [mem_take_succ hj]; simp [hk]
  simp only [hasR, this]

theorem hasR_here (W : Str → Option (List Str)) (id : Str) (ws : List Str) (j : Nat) (hj : j < ws.length) : setFn (hasR W id ws (j + 1)) ws[j] = fun i => if i = id then none else setFn (hasR W id ws j) ws[j] i := by
  have m : ws[j] ∈ ws.take (j + 1) := (mem_take_succ hj _).2 (Or.inr rfl)
  funext i
  by_cases e : i = id
  · simp [setFn, hasR, m, e]
  · simp [setFn, hasR, e]

theorem nodup_take {ws : List Str} (hn : ws.Nodup) {j : Nat} (hj : j < ws.length) : ws[j] ∉ ws.take j := by
  intro h
  obtain ⟨i, hi, he⟩ := List.getElem_of_mem h
  simp at hi
  rw [List.getElem_take] at he
  have := (List.getElem_inj hn).1 he
  omega

theorem hasR_true (W : Str → Option (List Str)) (id : Str) (ws : List Str) (hW : W id = some ws) (hn : ws.Nodup) (j : Nat) (hj : j < ws.length) : hasR W id ws j ws[j] id = true := by
  have := nodup_take hn hj
  simp [hasR, hasOf, hW, this]

/-! ### the walk -/

/-- the loop's state -/
def RmSt (w : World) (B : Ter) (x mw mi : Nat) (fw : Str → Option Value) (W : Str → Option (List Str)) (id : Str) (ws : List Str) (v : Value) (j : Nat) (wr : World) : Prop :=
  (∃ fi, IxM wr B x mw mi fw fi W (hasR W id ws j)) ∧ OwnS wr 0 v ws ∧ Bk B w wr

theorem own_cell {w : World} {B g cap : Nat} {ws : List Str} (h : OwnS w B (.slice (some ⟨g, 0, none⟩) ws.length cap) ws) (j : Nat) (hj : j < ws.length) : w.cell? ⟨g, j, none⟩ = some (encStr ws[j]) := by
  have := World.ownsRow.cellAt h j (by omega)
  rw [this]
  simp [hj]

def RmPost (w : World) (B : Ter) (x : Nat) (W : Str → Option (List Str)) (id : Str) : Ending → World → Prop :=
  fun e w' => e = .returned (.tuple #[]) ∧ IxAt w' B x (fun j => if j = id then none else W j) ∧ Bk B w w'

set_option maxHeartbeats 4000000 in
theorem remove_any {w : World} {B : Ter} {x : Nat} {W : Str → Option (List Str)} (h : IxAt w B x W) (hBw : B.fresh w.heap.size) (id : Str) : Calls Try.prog 17 #[.pointer (some ⟨x, 0, none⟩), encStr id] w (RmPost w B x W id) := by
  obtain ⟨⟨mw, mi, fw, fi, hx⟩, hWn⟩ := h
  obtain ⟨v, ws, hlook, hown, hws, hwn, hwl⟩ : ∃ v ws, (Instr.lookup 53 (.map (some mw)) (encStr id) false).run Try.prog w = .ok v w ∧ OwnS w 0 v ws ∧ (∀ l, W id = some l → l = ws) ∧ (ws ≠ [] → W id = some ws ∧ ws.Nodup) ∧ ws.length ≤ 1000001 := by
    have hl := hx.words.lookup keyS und53 (zero23 w) id
    cases hw : W id with
    | none => rw [hx.rowN id hw] at hl; exact ⟨_, [], hl, ownS_nil _ _, (fun l hl => by cases hl), (fun h => absurd rfl h), by simp⟩
    | some ws => obtain ⟨v, h1, h2⟩ := hx.rowS id ws hw; rw [h1] at hl; exact ⟨v, ws, hl, h2, (fun l hl => by cases hl; rfl), (fun _ => ⟨rfl, (hWn id ws hw).1⟩), (hWn id ws hw).2⟩
  obtain ⟨p, cap, hv⟩ : ∃ p cap, v = .slice p ws.length cap := by
    rcases hown.2 with ⟨rfl, h0⟩ | ⟨g, cap, cur, rfl, _⟩
    · exact ⟨none, 0, by rw [h0]⟩
    · exact ⟨_, _, rfl⟩
  have c0 : w.cell? ⟨x, 0, none⟩ = some (.map (some mw)) := by rw [cell_of_block hx.blk]; rfl
  obtain ⟨n, hn⟩ : ∃ n, n = ws.length := ⟨_, rfl⟩
  have hst0 : RmSt w B x mw mi fw W id ws v 0 w := ⟨⟨fi, by rw [hasR_zero]; exact hx⟩, hown, Bk.refl _ _⟩
  have HST := Lib.hid hst0
  have HW := Lib.hid hws
  have HWN := Lib.hid hwn
  have HV := Lib.hid hv
  have HWl := Lib.hid hWn
  have HBW := Lib.hid hBw
  subst hv
  rw [← hn] at hlook hwl
  have HN := Lib.hid hn
  clear hst0 hws hwn hown hx hWn hBw HV hn
  go_enter Try.func17, Try.ntmps17
  go_wp2
  go_loopw [13] (fun i wr => ∃ j : Nat, j ≤ n ∧ i = .int .i64 j ∧ Hid (RmSt w B x mw mi fw W id ws (.slice p n cap) j wr)) (fun i _ => n - (intOf i).toNat)
  case atStart => exact ⟨0, by omega, rfl, Lib.hid (by rw [HN.out]; exact HST.out)⟩
  case round =>
    obtain ⟨j, hj, rfl, hst⟩ := hrel
    clear hlook c0
    by_cases hjn : j < n
    · have hjl : j < ws.length := by rw [← HN.out]; exact hjn
      have hjI : (j : Int) < n := by omega
      have hj0 : (0 : Int) ≤ j := by omega
      obtain ⟨⟨fi2, hx⟩, hown, hbel⟩ := hst.out
      obtain ⟨hW, hwnd⟩ := HWN.out (by intro e; rw [e] at hjl; simp at hjl)
      obtain ⟨g, rfl⟩ : ∃ g, p = some ⟨g, 0, none⟩ := by
        rcases hown.2 with ⟨h0, h1⟩ | ⟨g, cap', cur, h0, _⟩
        · omega
        · cases h0; exact ⟨g, rfl⟩
      have hcell := own_cell (w := wr) (B := 0) (g := g) (cap := cap) (ws := ws) (by rw [← HN.out]; exact hown) j hjl
      obtain ⟨k, hk⟩ : ∃ k, k = ws[j] := ⟨_, rfl⟩
      rw [← hk] at hcell
      have htrue := hasR_true W id ws hW hwnd j hjl
      rw [← hk] at htrue
      obtain ⟨m, hm1, hm2, hm3, hm4, hm5⟩ : ∃ m, fi2 k = some (.map (some m)) ∧ B.ok m ∧ m ≠ mw ∧ m ≠ mi ∧ MapFn wr m encStr (setFn (hasR W id ws j) k) := by
        rcases hx.sets k with h1 | h1
        · rw [h1.2 id] at htrue; cases htrue
        · exact h1
      have hl1 := hx.ids.lookup keyS und54 (zero57 wr) k
      rw [hm1] at hl1
      simp only [Option.getD_some] at hl1
      have c1 : wr.cell? ⟨x, 1, none⟩ = some (.map (some mi)) := by rw [cell_of_block hx.blk]; rfl
      have hxl := hx.lt
      have hs1 : ∀ w1, MapFn w1 m encStr (fun i => if i = id then none else setFn (hasR W id ws j) k i) → wr.grownBy w1 (some m) → IxM w1 B x mw mi fw fi2 W (hasR W id ws (j + 1)) ∧ OwnS w1 0 (.slice (some ⟨g, 0, none⟩) n cap) ws ∧ Bk B w w1 := by
        intro w1 h1 h2
        refine ⟨hx.inner hm1 (fun k' i hk' => hasR_other W id ws j hjl k' i (by rw [← hk]; exact hk')) ?_ h2, OwnS.map hown hm5 h2, hbel.grown hm5 h2 (HBW.out.up hbel.size) hm2⟩
        rw [hk, hasR_here W id ws j hjl, ← hk]
        exact h1
      have HS1 := Lib.hid hs1
      have HM5 := Lib.hid hm5
      have HM1 := Lib.hid hm1
      have HK := Lib.hid hk
      have HJL := Lib.hid hjl
      clear hs1 hm5 hm1 hst hx hown hbel htrue hk hwnd hW
      go_wp2_with (first
        | (at_delete; refine wpList_delete_fn rfl _ _ rfl keyS und57 rfl HM5.out id rfl ?_; intro w1 h1 h2 h3 h4
           have hs2 := HS1.out w1 h1 h2
           have c1' : w1.cell? ⟨x, 1, none⟩ = some (.map (some mi)) := by rw [cell_of_block hs2.1.blk]; rfl
           have hl2 := hs2.1.ids.lookup keyS und54 (zero57 w1) k
           rw [HM1.out] at hl2
           simp only [Option.getD_some] at hl2
           obtain ⟨n0, hln, hz1, hz2⟩ := h1.len und57
           have hl3 := hln w1 rfl
           have HZ := Lib.hid hz1
           have HS2 := Lib.hid hs2
           have H1 := Lib.hid h1
           clear h1 h2 h3 h4 hs2 hln hz1 hz2 c1 hl1 hcell
           rcases Nat.eq_zero_or_pos n0 with hn0 | hn0)
        | (at_delete; refine wpList_delete_fn rfl _ _ rfl keyS und54 rfl HS2.out.1.ids k rfl ?_; intro w2 h5 h6 h7 h8))
      · go_roundw
        case rel =>
          refine ⟨j + 1, by omega, by go_num, Lib.hid ⟨⟨_, HS2.out.1.strike (fun i => ?_) h5 h6⟩, OwnS.map HS2.out.2.1 HS2.out.1.ids h6, HS2.out.2.2.grown HS2.out.1.ids h6 (HBW.out.up HS2.out.2.2.size) HS2.out.1.hmi⟩⟩
          have h0 := HZ.out hn0 i
          have h1 := congrFun (hasR_here W id ws j HJL.out) i
          rw [← HK.out] at h1
          rw [h0] at h1
          simp only [setFn] at h1
          cases hh : hasR W id ws (j + 1) k i with
          | false => rfl
          | true => rw [hh] at h1; cases h1
        case measure => simp [intOf]; omega
      · go_roundw
        case rel => exact ⟨j + 1, by omega, by go_num, Lib.hid ⟨⟨_, HS2.out.1⟩, HS2.out.2.1, HS2.out.2.2⟩⟩
        case measure => simp [intOf]; omega
    · obtain rfl : j = n := by omega
      obtain ⟨⟨fi2, hx⟩, hown, hbel⟩ := hst.out
      have c0 : wr.cell? ⟨x, 0, none⟩ = some (.map (some mw)) := by rw [cell_of_block hx.blk]; rfl
      have hxl := hx.lt
      have HX := Lib.hid hx
      have HB := Lib.hid hbel
      clear hx hst hown hbel
      go_wp2_with (at_delete; refine wpList_delete_fn rfl _ _ rfl keyS und53 rfl HX.out.words id rfl ?_; intro w2 h5 h6 h7 h8)
      go_end0
      have hf := HX.out.forget h5 h6
      rw [HN.out, hasR_end W id ws HW.out] at hf
      refine ⟨rfl, ⟨⟨mw, mi, _, fi2, hf⟩, fun i l hi => ?_⟩, HB.out.grown HX.out.words h6 (HBW.out.up HB.out.size) HX.out.hmw⟩
      simp only at hi
      by_cases e : i = id
      · rw [if_pos e] at hi; cases hi
      · rw [if_neg e] at hi; exact HWl.out i l hi
end Go.Proofs.Ytokfiikpfckahaa
