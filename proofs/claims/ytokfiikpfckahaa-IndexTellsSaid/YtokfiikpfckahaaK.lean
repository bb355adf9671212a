/- The contracts of the reference's Has and Same. Condition: the lists lie in memory as stated. -/
import Derived.Test.YtokfiikpfckahaaI
set_option linter.unusedVariables false
set_option linter.unusedSimpArgs false
namespace Go.Proofs.Ytokfiikpfckahaa
open Go.RowKit Go.Lib Go.Ix Go.Sort Go.Mf
set_option maxRecDepth 100000

set_option maxHeartbeats 2000000 in
theorem has_any {w : World} {v : Value} {ws : List Str} (hr : RowAt w v ws) (hlen : ws.length ≤ 1000000) (s : Str) :
    Calls Try.prog 23 #[v, encStr s] w fun e w' => e = .returned (.bool (decide (s ∈ ws))) ∧ w' = w := by
  obtain ⟨p, cap, rfl, hc⟩ := hr
  obtain ⟨n, hn⟩ : ∃ n, n = ws.length := ⟨_, rfl⟩
  have HC := Lib.hid hc
  have HN := Lib.hid hn
  rw [← hn]
  rw [← hn] at hlen
  clear hc hn
  go_enter Try.func23, Try.ntmps23
  go_wp2
  go_loopw [5] (fun t wr => ∃ j : Nat, j ≤ n ∧ t = .int .i64 j ∧ wr = w ∧ Hid (s ∉ ws.take j)) (fun t _ => n - (intOf t).toNat)
  case atStart => exact ⟨0, by omega, rfl, rfl, Lib.hid (by simp)⟩
  case round =>
    obtain ⟨j, hj, rfl, hw, hall⟩ := hrel
    obtain rfl := hw.symm
    by_cases hjn : j < n
    · have hjl : j < ws.length := by rw [← HN.out]; exact hjn
      obtain ⟨b', o', rfl, _, hcell⟩ := HC.out j hjl
      have hjI : (j : Int) < n := by omega
      have hj0 : (0 : Int) ≤ j := by omega
      obtain ⟨k, hk, hk2⟩ : ∃ k, ws[j] = k ∧ Hid (ws[j] = k) := ⟨ws[j], rfl, Lib.hid rfl⟩
      rw [hk] at hcell
      clear hk
      cases hh : k == s with
      | true =>
        go_wp2
        go_ret
        refine ⟨?_, rfl⟩
        have : k = s := by simpa using hh
        have hm : s ∈ ws := by rw [← this, ← hk2.out]; exact List.getElem_mem _
        simp [hm]
      | false =>
        go_wp2
        go_roundw
        case rel => exact ⟨j + 1, by omega, by go_num, trivial, Lib.hid (by
          intro hm
          rcases (mem_take_succ hjl s).1 hm with h1 | h1
          · exact hall.out h1
          · rw [hk2.out] at h1; subst h1; simp at hh)⟩
        case measure => simp [intOf]; omega
    · obtain rfl : j = n := by omega
      go_wp2
      go_ret
      refine ⟨?_, rfl⟩
      have hm : s ∉ ws := by
        have := hall.out
        rw [HN.out, List.take_of_length_le (Nat.le_refl _)] at this
        exact this
      simp [hm]

theorem take_all {l l' : List Str} (h : l.length = l'.length) (hall : ∀ j (h1 : j < l.length) (h2 : j < l'.length), l[j] = l'[j]) : l = l' :=
  List.ext_getElem h hall

set_option maxHeartbeats 2000000 in
theorem same_any {w : World} {v1 v2 : Value} {l1 l2 : List Str} (hr1 : RowAt w v1 l1) (hr2 : RowAt w v2 l2) (hlen : l1.length ≤ 1000000) :
    Calls Try.prog 10 #[v1, v2] w fun e w' => e = .returned (.bool (decide (l1 = l2))) ∧ ∃ q, w' = w.drewN q := by
  obtain ⟨p, cap, rfl, hc⟩ := hr1
  obtain ⟨p2, cap2, rfl, hc2⟩ := hr2
  obtain ⟨n, hn⟩ : ∃ n, n = l1.length := ⟨_, rfl⟩
  obtain ⟨n2, hn2⟩ : ∃ n, n = l2.length := ⟨_, rfl⟩
  have HC := Lib.hid hc
  have HC2 := Lib.hid hc2
  have HN := Lib.hid hn
  have HN2 := Lib.hid hn2
  rw [← hn, ← hn2]
  rw [← hn] at hlen
  clear hc hc2 hn hn2
  by_cases hnn : n = n2
  · subst hnn
    go_enter Try.func10, Try.ntmps10
    go_wp2
    go_loopw [5] (fun t wr => ∃ j : Nat, j ≤ n ∧ t = .int .i64 j ∧ (∃ q, wr = w.drewN q) ∧ Hid (∀ i (h1 : i < l1.length) (h2 : i < l2.length), i < j → l1[i] = l2[i])) (fun t _ => n - (intOf t).toNat)
    case atStart => exact ⟨0, by omega, rfl, ⟨0, rfl⟩, Lib.hid (fun i _ _ h => by omega)⟩
    case round =>
      obtain ⟨j, hj, rfl, ⟨q, rfl⟩, hall⟩ := hrel
      by_cases hjn : j < n
      · have hjl : j < l1.length := by rw [← HN.out]; exact hjn
        have hjl2 : j < l2.length := by rw [← HN2.out]; exact hjn
        obtain ⟨b', o', rfl, _, hcell⟩ := HC.out j hjl
        obtain ⟨b2', o2', rfl, _, hcell2⟩ := HC2.out j hjl2
        have hjI : (j : Int) < n := by omega
        have hj0 : (0 : Int) ≤ j := by omega
        obtain ⟨k, hk, hk2⟩ : ∃ k, l1[j] = k ∧ Hid (l1[j] = k) := ⟨l1[j], rfl, Lib.hid rfl⟩
        obtain ⟨k', hk', hk2'⟩ : ∃ k, l2[j] = k ∧ Hid (l2[j] = k) := ⟨l2[j], rfl, Lib.hid rfl⟩
        rw [hk] at hcell
        rw [hk'] at hcell2
        clear hk hk'
        cases hh : k == k' with
        | false =>
          go_wp2
          go_quiet (fail)
          go_wp2
          go_ret
          refine ⟨?_, _, World.drewN_drewN _ _ _⟩
          have hm : l1 ≠ l2 := by
            intro e
            have h1 := hk2.out
            have h2 := hk2'.out
            subst e
            rw [h1] at h2
            subst h2
            simp at hh
          simp [hm]
        | true =>
          go_wp2
          go_quiet (fail)
          go_wp2
          go_roundw
          case rel => exact ⟨j + 1, by omega, by go_num, ⟨_, rfl⟩, Lib.hid (by
            intro i h1 h2 hi
            by_cases e : i = j
            · subst e; rw [hk2.out, hk2'.out]; simpa using hh
            · exact hall.out i h1 h2 (by omega))⟩
          case measure => simp [intOf]; omega
      · obtain rfl : j = n := by omega
        go_wp2
        go_ret
        refine ⟨?_, q, rfl⟩
        have hm : l1 = l2 := List.ext_getElem (by rw [← HN.out, ← HN2.out]) (fun i h1 h2 => hall.out i h1 h2 (by rw [HN.out]; exact h1))
        simp [hm]
  · have hI : ((n : Int) == n2) = false := by simp; omega
    have hne : l1 ≠ l2 := by intro e; exact hnn (by rw [HN.out, HN2.out, e])
    have HNE := Lib.hid hne
    clear hne
    go_enter Try.func10, Try.ntmps10
    go_wp2
    go_ret
    have := HNE.out
    exact ⟨by simp [this], 0, rfl⟩
end Go.Proofs.Ytokfiikpfckahaa
