/- strings of the law's own Same: two slices that read alike are the same. Condition: their cells are strings. -/
import Derived.Test.YtdkpgjhjdnfieaaAk
import Derived.Deep.QuietTactic
import Derived.BigQuiet
import Derived.IntWalk
import Derived.Laws.StructEq
set_option linter.unusedVariables false
set_option linter.unusedSimpArgs false
namespace Go.Proofs.Ytdkpgjhjdnfieaa
open Go.RowKit Go.Mf
set_option maxRecDepth 100000

def SameStill (w : World) : Ending → World → Prop := fun e w' => e = .returned (.bool true) ∧ ∃ m, w' = w.drewN m

/-- the cell at place k, of both -/
theorem RowsIn.cellsAt {w : World} {S : Nat → Prop} {sz bt : Nat} {v : Value} {n : Nat} {xs : List Value} (h : RowsIn w S sz bt v n xs) {k : Nat} (hk : k < n) :
    ∃ b o c, v = .slice (some ⟨b, o, none⟩) n c ∧ S b ∧ ∀ j, j < sz → ∃ u, xs[k * sz + j]? = some u ∧ w.cell? ⟨b, o + (k * sz + j), none⟩ = some u := by
  obtain ⟨a, c, rfl, h2, h3, h4, h5, h6⟩ := h
  obtain ⟨b, o, rfl, hb, h8⟩ := h6 (by omega)
  refine ⟨b, o, c, rfl, hb, fun j hj => ?_⟩
  have hlt : k * sz + j < xs.length := by
    rw [h2]
    have : (k + 1) * sz ≤ n * sz := Nat.mul_le_mul_right _ hk
    rw [Nat.succ_mul] at this
    omega
  exact ⟨xs[k * sz + j], List.getElem?_eq_getElem hlt, h8 _ _ (List.getElem?_eq_getElem hlt)⟩

set_option maxHeartbeats 1000000 in
theorem strings_any (w : World) (S1 S2 : Nat → Prop) (v1 v2 : Value) (n : Nat) (xs : List Value) (h1 : RowsIn w S1 1 16 v1 n xs) (h2 : RowsIn w S2 1 16 v2 n xs) (ht : ∀ u ∈ xs, CK.str.ok u) :
    Calls Try.prog 44 #[v1, v2] w (SameStill w) := by
  have H1 := Lib.hid h1
  have H2 := Lib.hid h2
  have HT := Lib.hid ht
  obtain ⟨a1, c1, rfl, _, _, hn, _⟩ := h1
  obtain ⟨a2, c2, rfl, _⟩ := h2
  clear ht
  go_enter Try.func44, Try.ntmps44
  go_wp2
  go_loopw [5] (fun s wr => ∃ k : Nat, k ≤ n ∧ s = .int .i64 k ∧ ∃ m, wr = w.drewN m) (fun s _ => n - (intOf s).toNat)
  case atStart => exact ⟨0, by omega, rfl, 0, rfl⟩
  case round =>
    obtain ⟨k, hk, rfl, m, rfl⟩ := hrel
    by_cases hkn : k < n
    · obtain ⟨b1, o1, c1', e1, _, hc1⟩ := H1.out.cellsAt hkn
      cases e1
      obtain ⟨b2, o2, c2', e2, _, hc2⟩ := H2.out.cellsAt hkn
      cases e2
      obtain ⟨u, hu, d1⟩ := hc1 0 (by omega)
      obtain ⟨u', hu', d2⟩ := hc2 0 (by omega)
      rw [hu] at hu'
      cases hu'
      obtain ⟨s, rfl⟩ := HT.out u (List.mem_of_getElem? hu)
      rw [Nat.mul_one, Nat.add_zero] at d1 d2
      clear hc1 hc2 hu
      have hk0 : (0 : Int) ≤ k := by omega
      have hkI : (k : Int) < n := by omega
      go_wp2_with fail
      go_quiet (fail)
      go_wp2
      go_roundw
      case rel => exact ⟨k + 1, by omega, by go_num, _, rfl⟩
      case measure => simp [intOf]; omega
    · obtain rfl : k = n := by omega
      go_wp2
      go_ret
      exact ⟨rfl, _, rfl⟩
end Go.Proofs.Ytdkpgjhjdnfieaa
