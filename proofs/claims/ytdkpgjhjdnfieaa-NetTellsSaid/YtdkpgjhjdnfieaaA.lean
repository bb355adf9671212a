/- Lemmas on blocks of cells that are written in a row, and on clear of one element of many cells. No program is run. -/
import Derived.Test.YtdkpgjhjdnfieaaMf
import Derived.Lib.SliceRun
import Derived.Deep.RegionLaw
import Derived.Deep.Upon
import Derived.Deep.DeepCutAuto
import Derived.Lib.Hide
set_option linter.unusedVariables false
set_option linter.unusedSimpArgs false
namespace Go.Proofs.Ytdkpgjhjdnfieaa
open Go.RowKit Go.Mf

def putL (cs : Array Value) : Nat → List Value → Array Value
  | _, [] => cs
  | o, v :: vs => putL (cs.setIfInBounds o v) (o + 1) vs
theorem putL_size : ∀ (vs : List Value) (cs : Array Value) (o : Nat), (putL cs o vs).size = cs.size
  | [], cs, o => rfl
  | v :: vs, cs, o => by unfold putL; rw [putL_size vs]; simp
theorem putL_list : ∀ (vs : List Value) (cs : Array Value) (o : Nat), o + vs.length ≤ cs.size → (putL cs o vs).toList = cs.toList.take o ++ vs ++ cs.toList.drop (o + vs.length)
  | [], cs, o, _ => by simp [putL]
  | v :: vs, cs, o, h => by
    simp only [List.length_cons] at h
    unfold putL
    rw [putL_list vs _ _ (by simp; omega)]
    have ho : o < cs.toList.length := by simp; omega
    simp only [Array.toList_setIfInBounds, List.length_cons]
    rw [List.take_succ_eq_append_getElem (by simpa using ho), List.getElem_set_self, List.take_set_of_le (Nat.le_refl _), List.drop_set_of_lt (by omega), show o + 1 + vs.length = o + (vs.length + 1) by omega]
    simp
theorem setCells_heap {g : Nat} : ∀ (vs : List Value) (o : Nat) {w : World} {cs : Array Value} {T : TypeId} {fr : Nat × Nat}, w.heap[g]? = some (.cells cs T fr) → (w.setCells g o vs).heap[g]? = some (.cells (putL cs o vs) T fr)
  | [], o, w, cs, T, fr, h => h
  | v :: vs, o, w, cs, T, fr, h => setCells_heap vs (o + 1) (setCell_block h o v)

/-- only block g is written -/
structure Only (g : Nat) (w w' : World) : Prop where
  os : w'.os = w.os
  tape : w'.tape = w.tape
  output : w'.output = w.output
  size : w'.heap.size = w.heap.size
  block : ∀ k, k ≠ g → w'.heap[k]? = w.heap[k]?
theorem Only.refl (g : Nat) (w : World) : Only g w w := ⟨rfl, rfl, rfl, rfl, fun _ _ => rfl⟩
theorem Only.trans {g : Nat} {a b c : World} (h : Only g a b) (k : Only g b c) : Only g a c :=
  ⟨k.os.trans h.os, k.tape.trans h.tape, k.output.trans h.output, k.size.trans h.size, fun i hi => (k.block i hi).trans (h.block i hi)⟩
theorem Only.drew {g : Nat} {a w : World} (h : Only g a w) : Only g a w.drew := ⟨h.os, h.tape, h.output, h.size, h.block⟩
theorem Only.drewN {g : Nat} {a w : World} (h : Only g a w) (n : Nat) : Only g a (w.drewN n) := ⟨h.os, h.tape, h.output, h.size, h.block⟩
theorem Only.setCell {a w : World} {p : Addr} (h : Only p.block a w) (v : Value) : Only p.block a (w.setCell p v) :=
  ⟨by rw [← h.os]; rfl, by rw [← h.tape]; rfl, by rw [← h.output]; rfl, by rw [← h.size]; simp, fun k hk => by rw [← h.block k hk]; exact Below.heap_setCell _ _ _ _ hk⟩
theorem Only.setCells {g : Nat} {a : World} : ∀ (vs : List Value) (o : Nat) {w : World}, Only g a w → Only g a (w.setCells g o vs)
  | [], _, w, h => h
  | v :: vs, o, w, h => Only.setCells vs (o + 1) (Only.setCell (p := ⟨g, o, none⟩) h v)

/-- clear of a slice of one element of many cells -/
theorem run_clear_one {P : Program} (w : World) (t e ty : TypeId) (z : Value) (zs : List Value) (ht : P.underlying t = some (.slice e)) (hv : ∀ w, (zeroValue e).run P w = .ok z w) (hz : z.cells.toList = zs) (h0 : 0 < zs.length) (h1 : ∀ u ∈ zs, u.oneCell' = true) (b o c : Nat)
    (hc : ∀ j, j < zs.length → (w.cell? ⟨b, o + j, none⟩).isSome = true) (hf : ∀ j, j < zs.length → w.frozen? ⟨b, o + j, none⟩ = false) :
    (Builtin.clear_ #[t] ty #[.slice (some ⟨b, o, none⟩) 1 c]).run P w = .ok (.tuple #[]) (w.setCells b o zs) := by
  have hzc : (Builtin.zeroCells z.cells 1).toList = zs := by
    subst hz
    simp [Builtin.zeroCells]
    apply List.ext_getElem
    · simp
    · intro i h1 h2
      simp at h1 h2
      simp [Nat.mod_eq_of_lt h2, getElem!_pos, h2]
  have hst := run_storeCells_cells (P := P) b o zs 0 w (by simpa using hc) (by simpa using hf) h1
  simp only [Nat.add_zero] at hst
  simp [Builtin.clear_, run_underlying ht, hv, hzc, hst]
end Go.Proofs.Ytdkpgjhjdnfieaa
