/- The contracts of IndexFunc and ContainsFunc with Find's test of a word. Condition: the index and the words lie in memory as stated. -/
import Derived.Test.YtokfiikpfckahaaH
set_option linter.unusedVariables false
set_option linter.unusedSimpArgs false
namespace Go.Proofs.Ytokfiikpfckahaa
open Go.RowKit Go.Lib Go.Ix Go.Sort Go.Mf
set_option maxRecDepth 100000

/-- strings in a row -/
def RowAt (w : World) (v : Value) (ws : List Str) : Prop := ∃ p cap, v = .slice p ws.length cap ∧ ∀ j (h : j < ws.length), ∃ b o, p = some ⟨b, o, none⟩ ∧ b < w.heap.size ∧ w.cell? ⟨b, o + j, none⟩ = some (encStr ws[j])

theorem RowAt.up {w w' : World} {v : Value} {ws : List Str} (h : RowAt w v ws) (hb : Below w.heap.size w w') : RowAt w' v ws := by
  obtain ⟨p, cap, hv, hc⟩ := h
  refine ⟨p, cap, hv, fun j hj => ?_⟩
  obtain ⟨b, o, h1, h2, h3⟩ := hc j hj
  exact ⟨b, o, h1, Nat.lt_of_lt_of_le h2 hb.size, (hb.cell h2).trans h3⟩

theorem own_row {w : World} {B : Nat} {v : Value} {ws : List Str} (h : OwnS w B v ws) : RowAt w v ws := by
  rcases h.2 with ⟨rfl, h0⟩ | ⟨g, cap, cur, rfl, _, hb, _⟩
  · exact ⟨none, 0, by rw [h0], fun j hj => by omega⟩
  · refine ⟨_, _, rfl, fun j hj => ⟨g, 0, rfl, (Array.getElem?_eq_some_iff.1 hb).1, ?_⟩⟩
    rw [Nat.zero_add]
    exact own_cell h j hj

theorem below_dn (w : World) (q : Nat) : Below w.heap.size w (w.drewN q) := ⟨rfl, rfl, rfl, Nat.le_refl _, fun _ _ => rfl⟩

set_option maxHeartbeats 2000000 in
theorem indexFunc_any {w : World} {B : Ter} {x : Nat} {W : Str → Option (List Str)} {v : Value} {ws : List Str} (h : IxAt w B x W) (hr : RowAt w v ws) (hlen : ws.length ≤ 1000000) (i : Str) (a b : Nat) (ca : w.cell? ⟨a, 0, none⟩ = some (.pointer (some ⟨x, 0, none⟩))) (cb : w.cell? ⟨b, 0, none⟩ = some (encStr i)) :
    Calls Try.prog 35 #[v, .func (Fn.func 30) #[] #[.pointer (some ⟨a, 0, none⟩), .pointer (some ⟨b, 0, none⟩)]] w fun e w' => ∃ z : Int, e = .returned (.int .i64 z) ∧ (decide (0 ≤ z) = ws.any fun k => !(hasOf W k i)) ∧ ∃ n, w' = w.drewN n := by
  obtain ⟨p, cap, rfl, hc⟩ := hr
  obtain ⟨n, hn⟩ : ∃ n, n = ws.length := ⟨_, rfl⟩
  have HC := Lib.hid hc
  have HI := Lib.hid h
  have HN := Lib.hid hn
  rw [← hn]
  rw [← hn] at hlen
  clear hc h hn
  go_enter Try.func35, Try.ntmps35
  go_wp2
  go_loopw [8] (fun t wr => ∃ j : Nat, j ≤ n ∧ t = .int .i64 j ∧ (∃ m, wr = w.drewN m) ∧ Hid (∀ k ∈ ws.take j, hasOf W k i = true)) (fun t _ => n - (intOf t).toNat)
  case atStart => exact ⟨0, by omega, rfl, ⟨0, rfl⟩, Lib.hid (by simp)⟩
  case round =>
    obtain ⟨j, hj, rfl, ⟨m, rfl⟩, hall⟩ := hrel
    by_cases hjn : j < n
    · obtain ⟨b', o', rfl, _, hcell⟩ := HC.out j (by rw [← HN.out]; exact hjn)
      have hjI : (j : Int) < n := by omega
      have hj0 : (0 : Int) ≤ j := by omega
      obtain ⟨k, hk⟩ : ∃ k, k = ws[j]'(by rw [← HN.out]; exact hjn) := ⟨_, rfl⟩
      rw [← hk] at hcell
      have HK := Lib.hid hk
      clear hk
      have htw : ∀ w', (∃ q, w' = w.drewN q) → Calls Try.prog 30 #[encStr k, .pointer (some ⟨a, 0, none⟩), .pointer (some ⟨b, 0, none⟩)] w' fun e w'' => e = .returned (.bool !(hasOf W k i)) ∧ ∃ q, w'' = w.drewN q := by
        rintro w' ⟨q, rfl⟩
        refine (test_word (HI.out.up (below_dn w q)) k i a b ca cb).mono ?_
        rintro e w'' ⟨rfl, r, rfl⟩
        exact ⟨rfl, q + r, by simp⟩
      have HT := Lib.hid htw
      clear htw
      cases hh : hasOf W k i with
      | true =>
        rw [hh] at HT
        go_wp2_with (go_at_call 30; refine (HT.out _ ⟨_, rfl⟩).mono ?_; rintro e w'' ⟨rfl, q, rfl⟩)
        go_roundw
        case rel => exact ⟨j + 1, by omega, by go_num, ⟨q, rfl⟩, Lib.hid (by
          intro k' hk'
          rcases (mem_take_succ (by rw [← HN.out]; exact hjn) k').1 hk' with h1 | h1
          · exact hall.out k' h1
          · rw [h1, ← HK.out]; exact hh)⟩
        case measure => simp [intOf]; omega
      | false =>
        rw [hh] at HT
        go_wp2_with (go_at_call 30; refine (HT.out _ ⟨_, rfl⟩).mono ?_; rintro e w'' ⟨rfl, q, rfl⟩)
        go_ret
        refine ⟨(j : Int), rfl, ?_, q, rfl⟩
        have : (ws.any fun k => !(hasOf W k i)) = true := List.any_eq_true.2 ⟨k, by rw [HK.out]; exact List.getElem_mem _, by rw [hh]; rfl⟩
        rw [this]; simp
    · obtain rfl : j = n := by omega
      go_wp2
      go_ret
      refine ⟨-1, rfl, ?_, m, rfl⟩
      have : (ws.any fun k => !(hasOf W k i)) = false := by
        rw [List.any_eq_false]
        intro k hk
        have := hall.out k (by rw [HN.out, List.take_of_length_le (Nat.le_refl _)]; exact hk)
        simp [this]
      rw [this]; simp

set_option maxHeartbeats 1000000 in
theorem containsFunc_any {w : World} {B : Ter} {x : Nat} {W : Str → Option (List Str)} {v : Value} {ws : List Str} (h : IxAt w B x W) (hr : RowAt w v ws) (hlen : ws.length ≤ 1000000) (i : Str) (a b : Nat) (ca : w.cell? ⟨a, 0, none⟩ = some (.pointer (some ⟨x, 0, none⟩))) (cb : w.cell? ⟨b, 0, none⟩ = some (encStr i)) :
    Calls Try.prog 29 #[v, .func (Fn.func 30) #[] #[.pointer (some ⟨a, 0, none⟩), .pointer (some ⟨b, 0, none⟩)]] w fun e w' => e = .returned (.bool (ws.any fun k => !(hasOf W k i))) ∧ ∃ n, w' = w.drewN n := by
  have H := Lib.hid (indexFunc_any h hr hlen i a b ca cb)
  clear h hr
  go_enter Try.func29, Try.ntmps29
  go_wp2_with (go_at_call 35; refine H.out.mono ?_; rintro e w' ⟨z, rfl, hz, q, rfl⟩)
  go_ret
  exact ⟨by rw [← hz]; rfl, q, rfl⟩
end Go.Proofs.Ytokfiikpfckahaa
