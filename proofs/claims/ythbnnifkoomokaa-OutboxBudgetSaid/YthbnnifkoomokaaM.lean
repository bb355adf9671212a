/- The contract of the comparison of two equal lists of sends: it returns true. -/
import Derived.Test.YthbnnifkoomokaaL
set_option linter.unusedVariables false
set_option linter.unusedSimpArgs false
namespace Go.Proofs.Ythbnnifkoomokaa
open Go.RowKit Go.Mf

/-- v is a slice of sends that reads as l -/
def SndsAt (w : World) (v : Value) (l : List Snd) : Prop :=
  ∃ a c, v = .slice a l.length c ∧ l.length ≤ 1000000000 ∧ (l ≠ [] → ∃ b off, a = some ⟨b, off, none⟩ ∧ ∀ j, j < l.length → ∃ s, l[j]? = some s ∧
    w.cell? ⟨b, off + j * 4, none⟩ = some (.int .i64 s.peer) ∧ w.cell? ⟨b, off + j * 4 + 1, none⟩ = some (.int .i64 s.log) ∧
    w.cell? ⟨b, off + j * 4 + 2, none⟩ = some (.int .i64 s.src) ∧ w.cell? ⟨b, off + j * 4 + 3, none⟩ = some (.int .i64 s.count))

theorem flat_get (l : List Snd) : ∀ (j : Nat) (s : Snd), l[j]? = some s → (flat l)[j * 4]? = some (.int .i64 s.peer) ∧ (flat l)[j * 4 + 1]? = some (.int .i64 s.log) ∧ (flat l)[j * 4 + 2]? = some (.int .i64 s.src) ∧ (flat l)[j * 4 + 3]? = some (.int .i64 s.count) := by
  induction l with
  | nil => intro j s h; simp at h
  | cons x l ih =>
    intro j s h
    have e : flat (x :: l) = sndCells x ++ flat l := rfl
    rw [e]
    cases j with
    | zero => simp at h; subst h; simp [sndCells]
    | succ j =>
      have := ih j s (by simpa using h)
      have hl : (sndCells x).length = 4 := rfl
      refine ⟨?_, ?_, ?_, ?_⟩
      · rw [List.getElem?_append_right (by omega), show (j + 1) * 4 - (sndCells x).length = j * 4 by omega]; exact this.1
      · rw [List.getElem?_append_right (by omega), show (j + 1) * 4 + 1 - (sndCells x).length = j * 4 + 1 by omega]; exact this.2.1
      · rw [List.getElem?_append_right (by omega), show (j + 1) * 4 + 2 - (sndCells x).length = j * 4 + 2 by omega]; exact this.2.2.1
      · rw [List.getElem?_append_right (by omega), show (j + 1) * 4 + 3 - (sndCells x).length = j * 4 + 3 by omega]; exact this.2.2.2

theorem snds_of_cells {W : World} {g cap : Nat} {l : List Snd} (hl : l.length ≤ 1000000000) (h : ∀ (j : Nat) (u : Value), (flat l)[j]? = some u → W.cell? ⟨g, j, none⟩ = some u) : SndsAt W (.slice (some ⟨g, 0, none⟩) l.length cap) l := by
  refine ⟨_, _, rfl, hl, fun _ => ⟨g, 0, rfl, fun j hj => ?_⟩⟩
  obtain ⟨s, hs⟩ : ∃ s, l[j]? = some s := ⟨l[j], List.getElem?_eq_getElem hj⟩
  have := flat_get l j s hs
  simp only [Nat.zero_add]
  exact ⟨s, hs, h _ _ this.1, h _ _ this.2.1, h _ _ this.2.2.1, h _ _ this.2.2.2⟩

theorem snds_of_own {W : World} {base : Nat} {v : Value} {l : List Snd} (hl : l.length ≤ 1000000000) (h : W.ownsRow base 34 4 v l.length (flat l)) : SndsAt W v l := by
  rcases h.2 with ⟨rfl, h0⟩ | ⟨g, cap, cur, rfl, _⟩
  · have : l = [] := List.eq_nil_of_length_eq_zero h0
    subst this
    exact ⟨_, _, rfl, by simp, fun h => absurd rfl h⟩
  · exact snds_of_cells hl (cells_own h)

theorem SndsAt.of_cells {w w' : World} {v : Value} {l : List Snd} (h : SndsAt w v l) (hc : ∀ a x, w.cell? a = some x → w'.cell? a = some x) : SndsAt w' v l := by
  obtain ⟨a, c, h1, h2, h4⟩ := h
  refine ⟨a, c, h1, h2, fun hn => ?_⟩
  obtain ⟨b, off, h5, h6⟩ := h4 hn
  refine ⟨b, off, h5, fun j hj => ?_⟩
  obtain ⟨s, h7, h8, h9, h10, h11⟩ := h6 j hj
  exact ⟨s, h7, hc _ _ h8, hc _ _ h9, hc _ _ h10, hc _ _ h11⟩

def SameTrue (w : World) : Ending → World → Prop := fun e w' => e = .returned (.bool true) ∧ ∃ n, w' = w.drewN n

set_option maxHeartbeats 1000000 in
theorem same_true (w : World) (v1 v2 : Value) (l : List Snd) (h1 : SndsAt w v1 l) (h2 : SndsAt w v2 l) :
    Calls Try.prog 17 #[v1, v2] w (SameTrue w) := by
  obtain ⟨a1, c1, rfl, hlen, hr1⟩ := h1
  obtain ⟨a2, c2, rfl, _, hr2⟩ := h2
  have H1 := Lib.hid hr1
  have H2 := Lib.hid hr2
  obtain ⟨n, hn⟩ : ∃ n, l.length = n := ⟨_, rfl⟩
  rw [hn] at hlen ⊢
  have HN := Lib.hid hn
  clear hr1 hr2 hn
  have hne : ((n : Int) != n) = false := by simp
  go_enter Try.func17, Try.ntmps17
  go_wp2
  go_loopw [5] (fun i wr => ∃ k : Nat, k ≤ n ∧ i = .int .i64 k ∧ Hid (∃ q, wr = w.drewN q)) (fun i _ => n - (intOf i).toNat)
  case atStart => exact ⟨0, by omega, rfl, 0, rfl⟩
  case round =>
    obtain ⟨k, hk, rfl, hq⟩ := hrel
    obtain ⟨q, rfl⟩ := hq.out
    clear hq
    by_cases hlt : k < n
    · have hln : l ≠ [] := by intro e; have := HN.out; rw [e] at this; simp at this; omega
      obtain ⟨b1, o1, rfl, g1⟩ := H1.out hln
      obtain ⟨b2, o2, rfl, g2⟩ := H2.out hln
      obtain ⟨s, hs, p1, p2, p3, p4⟩ := g1 k (by have := HN.out; omega)
      obtain ⟨s', hs', q1, q2, q3, q4⟩ := g2 k (by have := HN.out; omega)
      have : s' = s := by rw [hs] at hs'; exact (Option.some.inj hs').symm
      subst this
      obtain ⟨sp, sl, ss, sc⟩ := s'
      dsimp only at p1 p2 p3 p4 q1 q2 q3 q4
      clear g1 g2 hs hs' hln
      go_wp2
      go_quiet (fail)
      go_wp2
      go_roundw
      case rel => exact ⟨k + 1, by omega, by go_num, q + nq, by simp⟩
      case measure => simp [intOf]; omega
    · go_wp2
      go_ret
      exact ⟨rfl, q, rfl⟩
end Go.Proofs.Ythbnnifkoomokaa
