/- The contract of the reference's Find. Condition: the texts and the words lie as stated. -/
import Derived.Test.YtokfiikpfckahaaAh
set_option linter.unusedVariables false
set_option linter.unusedSimpArgs false
namespace Go.Proofs.Ytokfiikpfckahaa
open Go.RowKit Go.Lib Go.Ix Go.Sort Go.Mf
set_option maxRecDepth 100000

def tf (ws : List Str) (p : Str × Str) : Bool := ws.all fun k => decide (k ∈ wordsOf p.2)

/-- what the reference's Find has found -/
structure Fd (t : Texts) (ws : List Str) (j : Nat) (out : List Str) : Prop where
  asc : Asc out
  mem : ∀ i, i ∈ out ↔ ∃ p ∈ t.take j, p.1 = i ∧ tf ws p = true
  len : out.length ≤ j
theorem Fd.start (t : Texts) (ws : List Str) : Fd t ws 0 [] := ⟨List.Pairwise.nil, fun i => by simp, Nat.le_refl _⟩
theorem Fd.no {t : Texts} {ws : List Str} {j : Nat} {out : List Str} (h : Fd t ws j out) (hj : j < t.length) (hf : tf ws t[j] = false) : Fd t ws (j + 1) out := by
  refine ⟨h.asc, fun i => ?_, by have := h.len; omega⟩
  rw [h.mem i, List.take_succ_eq_append_getElem hj]
  constructor
  · rintro ⟨p, h1, h2⟩
    exact ⟨p, List.mem_append_left _ h1, h2⟩
  · rintro ⟨p, h1, h2, h3⟩
    rcases List.mem_append.1 h1 with h4 | h4
    · exact ⟨p, h4, h2, h3⟩
    · rw [List.mem_singleton] at h4
      subst h4
      rw [hf] at h3
      cases h3
theorem Fd.yes {t : Texts} {ws : List Str} {j : Nat} {out : List Str} (h : Fd t ws j out) (hj : j < t.length) (hf : tf ws t[j] = true) : Fd t ws (j + 1) (insOf out t[j].1) := by
  refine ⟨ins_asc h.asc _, fun i => ?_, by have := h.len; have := ins_len out t[j].1; omega⟩
  rw [ins_mem, h.mem i, List.take_succ_eq_append_getElem hj]
  constructor
  · rintro (h1 | ⟨p, h1, h2⟩)
    · exact ⟨t[j], List.mem_append_right _ (by simp), h1.symm, hf⟩
    · exact ⟨p, List.mem_append_left _ h1, h2⟩
  · rintro ⟨p, h1, h2, h3⟩
    rcases List.mem_append.1 h1 with h4 | h4
    · exact Or.inr ⟨p, h4, h2, h3⟩
    · rw [List.mem_singleton] at h4
      subst h4
      exact Or.inl h2.symm

/-- what the reference finds -/
def RFound (t : Texts) (ws l : List Str) : Prop := Asc l ∧ ∀ i, i ∈ l ↔ ws ≠ [] ∧ ∃ p ∈ t, p.1 = i ∧ tf ws p = true
def RFindPost (w : World) (t : Texts) (ws : List Str) : Ending → World → Prop := fun e w' => ∃ v l, e = .returned v ∧ OwnS w' 0 v l ∧ RFound t ws l ∧ l.length ≤ t.length ∧ Below w.heap.size w w'

def FdSt (w : World) (t : Texts) (ws : List Str) (j : Nat) (u : Value) (wr : World) : Prop := ∃ out, Fd t ws j out ∧ OwnS wr 0 u out ∧ Below w.heap.size w wr

theorem FdSt.next {w wr wb : World} {t : Texts} {ws : List Str} {j : Nat} {u : Value} (h : FdSt w t ws j u wr) (hj : j < t.length) (hf : tf ws t[j] = false) (hb : Below wr.heap.size wr wb) : FdSt w t ws (j + 1) u wb := by
  obtain ⟨out, h1, h2, h3⟩ := h
  exact ⟨out, h1.no hj hf, own_up h2 hb, h3.trans (hb.mono h3.size)⟩
theorem FdSt.ins {w wr wb : World} {t : Texts} {ws : List Str} {j : Nat} {u : Value} (h : FdSt w t ws j u wr) (hj : j < t.length) (hl : t.length ≤ 1000) (hb : Below wr.heap.size wr wb) : Calls Try.prog 28 #[u, encStr t[j].1] wb fun e w' => ∃ v, e = .returned v ∧ Hid (tf ws t[j] = true → FdSt w t ws (j + 1) v w') := by
  obtain ⟨out, h1, h2, h3⟩ := h
  refine (insert_any (own_row (own_up h2 hb)) (by have := h1.len; omega) t[j].1).mono ?_
  rintro e w' ⟨v, rfl, g1, g2⟩
  have hb3 := h3.trans (hb.mono h3.size)
  exact ⟨v, rfl, Lib.hid (fun hf => ⟨_, h1.yes hj hf, own_le g1 (Nat.zero_le _), hb3.trans (g2.mono hb3.size)⟩)⟩

theorem FdSt.done {w wr : World} {t : Texts} {ws : List Str} {j : Nat} {u : Value} (h : FdSt w t ws j u wr) (hj : (ws = [] ∧ j = 0) ∨ (j = t.length ∧ (ws = [] → j = 0))) (hjt : j ≤ t.length) : RFindPost w t ws (.returned u) wr := by
  obtain ⟨out, h1, h2, h3⟩ := h
  refine ⟨u, out, rfl, h2, ⟨h1.asc, fun i => ?_⟩, by have := h1.len; omega, h3⟩
  rw [h1.mem i]
  by_cases hw : ws = []
  · have h0 : j = 0 := by rcases hj with h | h; exact h.2; exact h.2 hw
    subst h0
    simp [hw]
  · rcases hj with h | ⟨h, _⟩
    · exact absurd h.1 hw
    · subst h
      rw [List.take_length]
      simp [hw]

theorem tf_take (ws : List Str) (mine : List Str) {k : Nat} (hk : k < ws.length) : (ws.take (k + 1)).all (fun k => decide (k ∈ mine)) = ((ws.take k).all (fun k => decide (k ∈ mine)) && decide (ws[k] ∈ mine)) := by
  rw [List.take_succ_eq_append_getElem hk, List.all_append]
  simp

set_option maxHeartbeats 4000000 in
theorem reffind_any {w : World} {v vw : Value} {t : Texts} {ws : List Str} (hr : TextAt w v t) (hlen : t.length ≤ 1000) (htx : ∀ p ∈ t, p.2.length ≤ 500) (hw : RowAt w vw ws) (hwl : ws.length ≤ 1000) : Calls Try.prog 20 #[v, vw] w (RFindPost w t ws) := by
  have HR := Lib.hid hr
  have HW := Lib.hid hw
  obtain ⟨p, cap, rfl, hc⟩ := hr
  obtain ⟨pw, cw, rfl, hcw⟩ := hw
  obtain ⟨n, hn⟩ : ∃ n, n = t.length := ⟨_, rfl⟩
  obtain ⟨m, hm⟩ : ∃ m, m = ws.length := ⟨_, rfl⟩
  have HC := Lib.hid hc
  have HCW := Lib.hid hcw
  have HN := Lib.hid hn
  have HM := Lib.hid hm
  have HTX := Lib.hid htx
  rw [← hn] at hlen HR ⊢
  rw [← hm] at hwl HW ⊢
  clear hc hcw hn hm htx
  go_enter Try.func20, Try.ntmps20
  go_wp2
  go_loopw [5, 6] (fun o i wr => ∃ (u : Value) (j : Nat), j ≤ n ∧ o = u ∧ i = .int .i64 j ∧ Hid (FdSt w t ws j u wr ∧ (ws = [] → j = 0))) (fun _ i _ => n - (intOf i).toNat)
  case atStart => exact ⟨_, 0, by omega, rfl, rfl, Lib.hid ⟨⟨[], Fd.start _ _, ownS_nil _ _, Below.refl _ _⟩, fun _ => rfl⟩⟩
  case round =>
    obtain ⟨u, j, hj, rfl, rfl, hst⟩ := hrel
    by_cases hjn : j < n
    · have hjI : (j : Int) < n := by omega
      have hj0 : (0 : Int) ≤ j := by omega
      rcases Nat.eq_zero_or_pos m with hm0 | hm0
      · have hmI : decide (0 < m) = false := by simp; omega
        have hws : ws = [] := List.eq_nil_of_length_eq_zero (by rw [← HM.out]; exact hm0)
        have HD := Lib.hid (hst.out.1.done (Or.inl ⟨hws, hst.out.2 hws⟩) (by have := HN.out; omega))
        clear hm0 hws hst
        go_wp2
        go_ret
        exact HD.out
      · have hmI : 0 < m := hm0
        have hjl : j < t.length := by rw [← HN.out]; exact hjn
        obtain ⟨b', o', rfl, hlt, k1, k2⟩ := HC.out j hjl
        obtain ⟨out, hfd, hown, hbel⟩ := hst.out.1
        have c1 := (hbel.cell (p := ⟨b', o' + j * 2, none⟩) hlt).trans k1
        have c2 := (hbel.cell (p := ⟨b', o' + j * 2 + 1, none⟩) hlt).trans k2
        obtain ⟨a, ha⟩ : ∃ a, a = t[j].1 := ⟨_, rfl⟩
        obtain ⟨R, hR, hRx⟩ : ∃ R : ByteArray, encStr t[j].2 = .string R ∧ R.data.toList = t[j].2 := ⟨⟨t[j].2.toArray⟩, rfl, by simp⟩
        rw [hR] at c2
        rw [← ha] at c1
        have hRl : R.size ≤ 500 := by rw [← ba_len, hRx]; exact HTX.out _ (List.getElem_mem hjl)
        have hrw : Calls Try.prog 11 #[.string R] wr (fun e w' => ∃ v, e = .returned v ∧ OwnS w' 0 v (wordsOf t[j].2) ∧ Below wr.heap.size wr w') := by
          have := refwords_any R wr (by omega)
          rw [hRx] at this
          exact this
        have hwordl : (wordsOf t[j].2).length ≤ 1000000 := by
          have h1 := wordsOf_len t[j].2
          have h2 := tok_len t[j].2 []
          have h3 := HTX.out _ (List.getElem_mem hjl)
          omega
        obtain ⟨mine, hmine⟩ : ∃ l, l = wordsOf t[j].2 := ⟨_, rfl⟩
        rw [← hmine] at hrw hwordl
        have HRW := Lib.hid hrw
        have HMINE := Lib.hid hmine
        have HA := Lib.hid ha
        have HBEL := Lib.hid hbel
        have HST := Lib.hid hst.out
        have HWR := Lib.hid (HW.out.up hbel)
        have HK1 := Lib.hid k1
        clear k1 k2 ha hR hRx hrw hown hfd hbel hst hmine c1
        go_wp2_with (go_at_call 11; refine HRW.out.mono ?_; rintro e w1 ⟨v1, rfl, h1, h2⟩
                     have H1 := Lib.hid h1
                     have H2 := Lib.hid h2
                     clear h1 h2)
        have HHAS := Lib.hid (fun (s : Str) => has_any (own_row H1.out) hwordl s)
        have hcells : ∀ k (hk : k < ws.length), ∃ b o, pw = some ⟨b, o, none⟩ ∧ w1.cell? ⟨b, o + k, none⟩ = some (encStr ws[k]) := fun k hk => by
          obtain ⟨p, cap, hv, h⟩ := HWR.out.up H2.out
          cases hv
          obtain ⟨b, o, g1, _, g2⟩ := h k hk
          exact ⟨b, o, g1, g2⟩
        have HCELL := Lib.hid hcells
        clear hcells c2
        go_loopw [8, 9] (fun al t wx => ∃ (k : Nat) (f : Bool), k ≤ m ∧ al = .bool f ∧ t = .int .i64 k ∧ wx = w1 ∧ Hid (f = (ws.take k).all (fun x => decide (x ∈ mine)))) (fun _ t _ => m - (intOf t).toNat)
        case atStart => exact ⟨0, true, by omega, rfl, rfl, rfl, Lib.hid rfl⟩
        case round =>
          obtain ⟨k, f, hk, rfl, rfl, hwx, hf⟩ := hrel
          obtain rfl := hwx.symm
          by_cases hkm : k < m
          · have hkl : k < ws.length := by rw [← HM.out]; exact hkm
            have hkI : (k : Int) < m := by omega
            have hk0 : (0 : Int) ≤ k := by omega
            obtain ⟨bw, ow, rfl, ck⟩ := HCELL.out k hkl
            obtain ⟨x, hx⟩ : ∃ x, x = ws[k] := ⟨_, rfl⟩
            rw [← hx] at ck
            obtain ⟨hb, hhb⟩ : ∃ hb, hb = decide (x ∈ mine) := ⟨_, rfl⟩
            have hcall := HHAS.out x
            rw [← hhb] at hcall
            have HCALL := Lib.hid hcall
            have HNX : Hid ((f && hb) = (ws.take (k + 1)).all (fun x => decide (x ∈ mine))) := by
              show _ = _
              rw [tf_take ws mine hkl, ← hf.out, hhb, hx]
            clear hx hhb hcall hf
            cases f with
            | true =>
              go_wp2_with (go_at_call 23; refine HCALL.out.mono ?_; rintro e w2 ⟨rfl, hw2⟩; obtain rfl := hw2.symm)
              go_roundw
              case rel => exact ⟨k + 1, hb, by omega, rfl, by go_num, (by trivial), Lib.hid (by have := HNX.out; simpa using this)⟩
              case measure => first | (simp [intOf]; done) | (simp [intOf]; omega)
            | false =>
              go_wp2_with (go_at_call 23; refine HCALL.out.mono ?_; rintro e w2 ⟨rfl, hw2⟩; obtain rfl := hw2.symm)
              go_roundw
              case rel => exact ⟨k + 1, false, by omega, rfl, by go_num, (by trivial), Lib.hid (by have := HNX.out; simpa using this)⟩
              case measure => first | (simp [intOf]; done) | (simp [intOf]; omega)
          · obtain rfl : k = m := by omega
            have hkI : decide ((k : Int) < k) = false := by simp
            have hfv : f = tf ws t[j] := by
              have h1 := hf.out
              rw [HM.out, List.take_length, HMINE.out] at h1
              exact h1
            have HFV := Lib.hid hfv
            have hne : ws ≠ [] := by intro e; have := HM.out; rw [e] at this; simp at this; omega
            have HNE := Lib.hid hne
            have HINS := Lib.hid (HST.out.1.ins hjl (by have := HN.out; omega) H2.out)
            have c1 := ((HBEL.out.trans (H2.out.mono HBEL.out.size)).cell (p := ⟨b', o' + j * 2, none⟩) hlt).trans HK1.out
            rw [← HA.out] at c1 HINS
            clear hf hfv hne
            cases f with
            | true =>
              go_wp2_with (go_at_call 28; refine HINS.out.mono ?_; rintro e w3 ⟨v3, rfl, h3⟩)
              go_roundw
              case rel => exact ⟨_, j + 1, by omega, rfl, by go_num, Lib.hid ⟨h3.out HFV.out.symm, fun h => absurd h HNE.out⟩⟩
              case measure => first | (simp [intOf]; done) | (simp [intOf]; omega)
            | false =>
              go_wp2
              go_roundw
              case rel => exact ⟨_, j + 1, by omega, rfl, by go_num, Lib.hid ⟨HST.out.1.next hjl HFV.out.symm H2.out, fun h => absurd h HNE.out⟩⟩
              case measure => first | (simp [intOf]; done) | (simp [intOf]; omega)
    · obtain rfl : j = n := by omega
      have hjI : decide ((j : Int) < j) = false := by simp
      have HD := Lib.hid (hst.out.1.done (Or.inr ⟨HN.out, hst.out.2⟩) (by have := HN.out; omega))
      clear hst
      go_wp2
      go_ret
      exact HD.out
end Go.Proofs.Ytokfiikpfckahaa
