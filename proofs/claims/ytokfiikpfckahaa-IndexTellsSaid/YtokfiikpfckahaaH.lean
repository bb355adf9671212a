/- The contracts of New, of Find's test of a word, of ContainsFunc with it. Condition: the index and the words lie in memory as stated. -/
import Derived.Test.YtokfiikpfckahaaG
set_option linter.unusedVariables false
set_option linter.unusedSimpArgs false
namespace Go.Proofs.Ytokfiikpfckahaa
open Go.RowKit Go.Lib Go.Ix Go.Sort Go.Mf
set_option maxRecDepth 100000

/-- an index just made: its three blocks -/
def IxNew (w : World) (s : Nat) : Prop := w.heap[s]? = some (.map #[] 0) ∧ w.heap[s + 1]? = some (.map #[] 0) ∧ w.heap[s + 2]? = some (.cells #[.map (some s), .map (some (s + 1))] 56 (0, 0))

theorem IxNew.ix {w : World} {s : Nat} (h : IxNew w s) (T : Ter) (h0 : T.ok s) (h1 : T.ok (s + 1)) : IxAt w T (s + 2) (fun _ => none) := by
  have hm : ∀ k, w.heap[k]? = some (.map #[] 0) → MapFn w k encStr (fun _ => none) := fun k hk => ⟨#[], 0, [], hk, rfl, by simp, MapKept.stamped_empty 0, by funext k; rfl⟩
  refine ⟨⟨s, s + 1, fun _ => none, fun _ => none, ?_⟩, fun id ws h => by cases h⟩
  exact {
    blk := h.2.2
    hmw := h0
    hmi := h1
    ne := by omega
    words := hm _ h.1
    ids := hm _ h.2.1
    rowN := fun _ _ => rfl
    rowS := fun id ws h => by cases h
    sets := fun k => Or.inl ⟨rfl, fun id => rfl⟩
    inj := fun k k' m h => by cases h }

theorem ixNew (w : World) : IxNew (((w.alloc (.map #[] 0)).alloc (.map #[] 0)).alloc (.cells #[.map (some w.heap.size), .map (some (w.heap.size + 1))] 56)) w.heap.size := by
  have e2 : (w.alloc (.map #[] 0)).heap.size = w.heap.size + 1 := by simp
  have e3 : ((w.alloc (.map #[] 0)).alloc (.map #[] 0)).heap.size = w.heap.size + 2 := by simp
  refine ⟨?_, ?_, ?_⟩
  · rw [Below.heap_alloc _ _ _ (by simp; omega), Below.heap_alloc _ _ _ (by simp)]
    exact heap_alloc_new w _
  · rw [Below.heap_alloc _ _ _ (by simp)]
    have := heap_alloc_new (w.alloc (.map #[] 0)) (.map #[] 0)
    rw [e2] at this
    exact this
  · have := heap_alloc_new ((w.alloc (.map #[] 0)).alloc (.map #[] 0)) (.cells #[.map (some w.heap.size), .map (some (w.heap.size + 1))] 56)
    rw [e3] at this
    exact this

set_option maxHeartbeats 1000000 in
theorem new_any (w : World) : Calls Try.prog 14 #[] w fun e w' => e = .returned (.pointer (some ⟨w.heap.size + 2, 0, none⟩)) ∧ IxNew w' w.heap.size ∧ Below w.heap.size w w' ∧ w'.heap.size = w.heap.size + 3 := by
  have hmk1 : (Instr.makeMap 53 none).run Try.prog w = .ok (.map (some w.heap.size)) (w.alloc (.map #[] 0)) := rfl
  have hmk2 : (Instr.makeMap 54 none).run Try.prog (w.alloc (.map #[] 0)) = .ok (.map (some (w.alloc (.map #[] 0)).heap.size)) ((w.alloc (.map #[] 0)).alloc (.map #[] 0)) := rfl
  have hfin := ixNew w
  have HF := Lib.hid hfin
  clear hfin
  go_enter Try.func14, Try.ntmps14
  go_wp2
  go_ret
  refine ⟨rfl, HF.out, ?_, by simp⟩
  exact (((Below.refl _ w).alloc (Nat.le_refl _) _).alloc (by simp) _).alloc (by simp; omega) _

theorem lookup_nil (w : World) (i : Str) : (Instr.lookup 57 (.map none) (encStr i) false).run Try.prog w = .ok (.bool false) w := by
  unfold Instr.lookup
  simp only [Sem.run_bind, run_underlying und57, Result.andThen_ok, Sem.run_pure, keyS.check, run_findKey keyS i w [] [] rfl]
  simp [Mf.idx, zero4]

/-- x's word k has id i -/
theorem test_word {w : World} {B : Ter} {x : Nat} {W : Str → Option (List Str)} (h : IxAt w B x W) (k i : Str) (a b : Nat) (ca : w.cell? ⟨a, 0, none⟩ = some (.pointer (some ⟨x, 0, none⟩))) (cb : w.cell? ⟨b, 0, none⟩ = some (encStr i)) :
    Calls Try.prog 30 #[encStr k, .pointer (some ⟨a, 0, none⟩), .pointer (some ⟨b, 0, none⟩)] w fun e w' => e = .returned (.bool !(hasOf W k i)) ∧ ∃ n, w' = w.drewN n := by
  obtain ⟨⟨mw, mi, fw, fi, hx⟩, hWn⟩ := h
  have c1 : w.cell? ⟨x, 1, none⟩ = some (.map (some mi)) := by rw [cell_of_block hx.blk]; rfl
  have hl1 : ∀ n, (Instr.lookup 54 (.map (some mi)) (encStr k) false).run Try.prog (w.drewN n) = .ok ((fi k).getD (.map none)) (w.drewN n) := fun n => (hx.ids.drewN n).lookup keyS und54 (zero57 _) k
  have hl2 : ∀ n, (Instr.lookup 57 ((fi k).getD (.map none)) (encStr i) false).run Try.prog (w.drewN n) = .ok (.bool (hasOf W k i)) (w.drewN n) := by
    intro n
    rcases hx.sets k with ⟨h1, h2⟩ | ⟨m, h1, _, _, _, h5⟩
    · rw [h1, h2 i]
      exact lookup_nil _ i
    · rw [h1]
      have := (h5.drewN n).lookup keyS und57 (zero4 _) i
      simp only [setFn] at this
      simp only [Option.getD_some]
      rw [this]
      cases hasOf W k i <;> rfl
  generalize (fi k).getD (.map none) = mv at hl1 hl2
  generalize hasOf W k i = hb at hl2
  clear hx hWn
  go_enter Try.func30, Try.ntmps30
  go_wp2
  go_quiet (fail)
  go_wp2
  go_ret
  exact ⟨rfl, _, rfl⟩
end Go.Proofs.Ytokfiikpfckahaa
