/- The contracts of words and few. Condition: the words and the steps can be read. -/
import Derived.Test.YtokfiikpfckahaaS
set_option linter.unusedVariables false
set_option linter.unusedSimpArgs false
namespace Go.Proofs.Ytokfiikpfckahaa
open Go.RowKit Go.Lib Go.Ix Go.Sort Go.Mf
set_option maxRecDepth 100000

def okW (ws : List Str) : Bool := decide (ws.length ≤ 8) && ws.all fun s => decide (s.length ≤ 100)
def okF (l : List StepD) : Bool := decide (l.length ≤ 40) && l.all fun s => decide (s.id.length ≤ 100) && decide (s.text.length ≤ 500) && okW s.words

theorem okW_len {ws : List Str} (h : okW ws = true) : ws.length ≤ 8 := by
  simp only [okW, Bool.and_eq_true, decide_eq_true_eq] at h
  exact h.1
theorem okF_len {l : List StepD} (h : okF l = true) : l.length ≤ 40 := by
  simp only [okF, Bool.and_eq_true, decide_eq_true_eq] at h
  exact h.1
theorem okF_at {l : List StepD} (h : okF l = true) {s : StepD} (hs : s ∈ l) : s.id.length ≤ 100 ∧ s.text.length ≤ 500 ∧ okW s.words = true := by
  simp only [okF, Bool.and_eq_true, List.all_eq_true, decide_eq_true_eq] at h
  have := h.2 s hs
  exact ⟨this.1.1, this.1.2, this.2⟩

set_option maxHeartbeats 2000000 in
theorem okw_any {w : World} {v : Value} {ws : List Str} (hr : RowAt w v ws) : Calls Try.prog 21 #[v] w fun e w' => e = .returned (.bool (okW ws)) ∧ w' = w := by
  obtain ⟨p, cap, rfl, hc⟩ := hr
  obtain ⟨n, hn⟩ : ∃ n, n = ws.length := ⟨_, rfl⟩
  have HC := Lib.hid hc
  have HN := Lib.hid hn
  rw [← hn]
  clear hc hn
  go_enter Try.func21, Try.ntmps21
  by_cases hbig : 8 < n
  · have hbigI : (8 : Int) < n := by omega
    go_wp2
    go_ret
    refine ⟨?_, rfl⟩
    have : ¬ ws.length ≤ 8 := by have := HN.out; omega
    simp [okW, this]
  · have hbigI : decide ((8 : Int) < n) = false := by simp; omega
    go_wp2
    go_loopw [3] (fun t wr => ∃ j : Nat, j ≤ n ∧ t = .int .i64 j ∧ wr = w ∧ Hid (∀ i (h1 : i < ws.length), i < j → ws[i].length ≤ 100)) (fun t _ => n - (intOf t).toNat)
    case atStart => exact ⟨0, by omega, rfl, rfl, Lib.hid (fun i _ h => by omega)⟩
    case round =>
      obtain ⟨j, hj, rfl, rfl, hall⟩ := hrel
      by_cases hjn : j < n
      · have hjl : j < ws.length := by rw [← HN.out]; exact hjn
        obtain ⟨b', o', rfl, _, hcell⟩ := HC.out j hjl
        have hjI : (j : Int) < n := by omega
        have hj0 : (0 : Int) ≤ j := by omega
        obtain ⟨S, hS, hSl⟩ : ∃ S : ByteArray, encStr ws[j] = .string S ∧ S.size = ws[j].length := ⟨⟨ws[j].toArray⟩, rfl, by simp [ByteArray.size]⟩
        rw [hS] at hcell
        obtain ⟨m, hm⟩ : ∃ m, m = S.size := ⟨_, rfl⟩
        have hmI : (S.size : Int) = m := by omega
        have HM : Hid (m = ws[j].length) := by show m = _; omega
        clear hm hS hSl
        by_cases hlong : 100 < m
        · have hlI : (100 : Int) < m := by omega
          go_wp2
          go_ret
          refine ⟨?_, rfl⟩
          have h1 : ¬ ws[j].length ≤ 100 := by have := HM.out; omega
          have : ws.all (fun s => decide (s.length ≤ 100)) = false := by
            rw [List.all_eq_false]
            exact ⟨ws[j], List.getElem_mem _, by simp [h1]⟩
          simp [okW, this]
        · have hlI : decide ((100 : Int) < m) = false := by simp; omega
          go_wp2
          go_roundw
          case rel => exact ⟨j + 1, by omega, by go_num, (by trivial), Lib.hid (by
            intro i h1 hi
            by_cases e : i = j
            · subst e; have := HM.out; omega
            · exact hall.out i h1 (by omega))⟩
          case measure => simp [intOf]; omega
      · obtain rfl : j = n := by omega
        go_wp2
        go_ret
        refine ⟨?_, rfl⟩
        have h8 : ws.length ≤ 8 := by have := HN.out; omega
        have : ws.all (fun s => decide (s.length ≤ 100)) = true := by
          rw [List.all_eq_true]
          intro s hs
          obtain ⟨i, hi, rfl⟩ := List.getElem_of_mem hs
          simpa using hall.out i hi (by rw [HN.out]; exact hi)
        simp [okW, this, h8]

set_option maxHeartbeats 4000000 in
theorem few_any {w : World} {v : Value} {l : List StepD} (hr : StepsAt w v l) : Calls Try.prog 13 #[v] w fun e w' => e = .returned (.bool (okF l)) ∧ w' = w := by
  obtain ⟨p, cap, rfl, hc⟩ := hr
  obtain ⟨n, hn⟩ : ∃ n, n = l.length := ⟨_, rfl⟩
  have HC := Lib.hid hc
  have HN := Lib.hid hn
  rw [← hn]
  clear hc hn
  go_enter Try.func13, Try.ntmps13
  by_cases hbig : 40 < n
  · have hbigI : (40 : Int) < n := by omega
    go_wp2
    go_ret
    refine ⟨?_, rfl⟩
    have : ¬ l.length ≤ 40 := by have := HN.out; omega
    simp [okF, this]
  · have hbigI : decide ((40 : Int) < n) = false := by simp; omega
    go_wp2
    go_loopw [3] (fun t wr => ∃ j : Nat, j ≤ n ∧ t = .int .i64 j ∧ wr = w ∧ Hid (∀ i (h1 : i < l.length), i < j → l[i].id.length ≤ 100 ∧ l[i].text.length ≤ 500 ∧ okW l[i].words = true)) (fun t _ => n - (intOf t).toNat)
    case atStart => exact ⟨0, by omega, rfl, rfl, Lib.hid (fun i _ h => by omega)⟩
    case round =>
      obtain ⟨j, hj, rfl, rfl, hall⟩ := hrel
      by_cases hjn : j < n
      · have hjl : j < l.length := by rw [← HN.out]; exact hjn
        obtain ⟨b', o', rfl, _, c0, c1, c2, c3, hw⟩ := HC.out j hjl
        have hjI : (j : Int) < n := by omega
        have hj0 : (0 : Int) ≤ j := by omega
        obtain ⟨S, hS, hSl⟩ : ∃ S : ByteArray, encStr l[j].id = .string S ∧ S.size = l[j].id.length := ⟨⟨l[j].id.toArray⟩, rfl, by simp [ByteArray.size]⟩
        obtain ⟨R, hR, hRl⟩ : ∃ R : ByteArray, encStr l[j].text = .string R ∧ R.size = l[j].text.length := ⟨⟨l[j].text.toArray⟩, rfl, by simp [ByteArray.size]⟩
        rw [hS] at c1
        rw [hR] at c2
        obtain ⟨m, hm⟩ : ∃ m, m = S.size := ⟨_, rfl⟩
        obtain ⟨m2, hm2⟩ : ∃ m, m = R.size := ⟨_, rfl⟩
        have hmI : (S.size : Int) = m := by omega
        have hmI2 : (R.size : Int) = m2 := by omega
        have HM : Hid (m = l[j].id.length) := by show m = _; omega
        have HM2 : Hid (m2 = l[j].text.length) := by show m2 = _; omega
        obtain ⟨vw, hvw⟩ : ∃ vw, vw = l[j].wv := ⟨_, rfl⟩
        obtain ⟨ok, hok⟩ : ∃ ok, ok = okW l[j].words := ⟨_, rfl⟩
        have hcall := okw_any hw
        rw [← hvw, ← hok] at hcall
        rw [← hvw] at c3
        have HCALL := Lib.hid hcall
        have HOK := Lib.hid hok
        clear hm hm2 hS hSl hR hRl hw hvw hcall hok c0
        have hbad : ¬ (m ≤ 100 ∧ m2 ≤ 500 ∧ ok = true) → okF l = false := fun hb => by
          have h1 := HM.out
          have h2 := HM2.out
          have h3 := HOK.out
          have : l.all (fun s => decide (s.id.length ≤ 100) && decide (s.text.length ≤ 500) && okW s.words) = false := by
            rw [List.all_eq_false]
            refine ⟨l[j], List.getElem_mem _, ?_⟩
            simp only [Bool.and_eq_true, decide_eq_true_eq, not_and]
            intro h4 h5
            exact hb ⟨by omega, by omega, by rw [h3]; exact h5⟩
          simp [okF, this]
        have HBAD := Lib.hid hbad
        clear hbad
        by_cases hlong : 100 < m
        · have hlI : (100 : Int) < m := by omega
          go_wp2_with (go_at_call 21; refine HCALL.out.mono ?_; rintro e w1 ⟨rfl, rfl⟩)
          go_ret
          exact ⟨by rw [HBAD.out (by omega)]; rfl, rfl⟩
        · have hlI : decide ((100 : Int) < m) = false := by simp; omega
          by_cases hlong2 : 500 < m2
          · have hlI2 : (500 : Int) < m2 := by omega
            go_wp2_with (go_at_call 21; refine HCALL.out.mono ?_; rintro e w1 ⟨rfl, rfl⟩)
            go_ret
            exact ⟨by rw [HBAD.out (by omega)]; rfl, rfl⟩
          · have hlI2 : decide ((500 : Int) < m2) = false := by simp; omega
            cases ok with
            | false =>
              go_wp2_with (go_at_call 21; refine HCALL.out.mono ?_; rintro e w1 ⟨rfl, rfl⟩)
              go_ret
              exact ⟨by rw [HBAD.out (by simp)]; rfl, rfl⟩
            | true =>
              go_wp2_with (go_at_call 21; refine HCALL.out.mono ?_; rintro e w1 ⟨rfl, rfl⟩)
              go_roundw
              case rel => exact ⟨j + 1, by omega, by go_num, (by trivial), Lib.hid (by
                intro i h1 hi
                by_cases e : i = j
                · subst e
                  have h1 := HM.out
                  have h2 := HM2.out
                  exact ⟨by omega, by omega, HOK.out.symm⟩
                · exact hall.out i h1 (by omega))⟩
              case measure => simp [intOf]; omega
      · obtain rfl : j = n := by omega
        go_wp2
        go_ret
        refine ⟨?_, rfl⟩
        have h8 : l.length ≤ 40 := by have := HN.out; omega
        have : l.all (fun s => decide (s.id.length ≤ 100) && decide (s.text.length ≤ 500) && okW s.words) = true := by
          rw [List.all_eq_true]
          intro s hs
          obtain ⟨i, hi, rfl⟩ := List.getElem_of_mem hs
          have := hall.out i hi (by rw [HN.out]; exact hi)
          simp [this.1, this.2.1, this.2.2]
        simp [okF, this, h8]
end Go.Proofs.Ytokfiikpfckahaa
