/- Two indexes side by side; what is found is one list; the ids that a sequence of calls leaves. No condition. -/
import Derived.Test.YtokfiikpfckahaaV
set_option linter.unusedVariables false
set_option linter.unusedSimpArgs false
namespace Go.Proofs.Ytokfiikpfckahaa
open Go.RowKit Go.Lib Go.Ix Go.Sort Go.Mf

/-- an index stays where another is turned -/
theorem IxAt.keep {w w' : World} {B B' : Ter} {x : Nat} {W : Str → Option (List Str)} (h : IxAt w B x W) (hk : Bk B' w w') (hd : ∀ m, B.ok m → m < w.heap.size → m < B'.base ∨ (B'.lo ≤ m ∧ m < B'.hi)) : IxAt w' B x W := by
  obtain ⟨⟨mw, mi, fw, fi, h⟩, hn⟩ := h
  have hb : ∀ m, B.ok m → m < w.heap.size → w'.heap[m]? = w.heap[m]? := fun m h1 h2 => by
    rcases hd m h1 h2 with h3 | ⟨h3, h4⟩
    · exact hk.below.block m h3
    · exact hk.hole m h3 h4
  refine ⟨⟨mw, mi, fw, fi, ?_⟩, hn⟩
  exact {
    blk := hk.cells _ _ _ _ h.blk
    hmw := h.hmw
    hmi := h.hmi
    ne := h.ne
    words := h.words.of_heap (hb _ h.hmw h.words.lt)
    ids := h.ids.of_heap (hb _ h.hmi h.ids.lt)
    rowN := h.rowN
    rowS := fun id ws hw => by obtain ⟨v, h1, h2⟩ := h.rowS id ws hw; exact ⟨v, h1, hk.row h2⟩
    sets := fun k => by
      rcases h.sets k with h1 | ⟨m, h1, h2, h3, h4, h5⟩
      · exact Or.inl h1
      · exact Or.inr ⟨m, h1, h2, h3, h4, h5.of_heap (hb _ h2 h5.lt)⟩
    inj := h.inj }

theorem IxNew.keep {w w' : World} {s : Nat} {B : Ter} (h : IxNew w s) (hk : Bk B w w') (h1 : B.lo ≤ s) (h2 : s + 2 < B.hi) : IxNew w' s :=
  ⟨(hk.hole s h1 (by omega)).trans h.1, (hk.hole (s + 1) (by omega) (by omega)).trans h.2.1, (hk.hole (s + 2) (by omega) h2).trans h.2.2⟩

theorem IxNew.up {w w' : World} {s : Nat} (h : IxNew w s) (hb : Below w.heap.size w w') : IxNew w' s := by
  have lt : ∀ {k : Nat} {o : Obj}, w.heap[k]? = some o → k < w.heap.size := fun h => (Array.getElem?_eq_some_iff.1 h).1
  exact ⟨(hb.block _ (lt h.1)).trans h.1, (hb.block _ (lt h.2.1)).trans h.2.1, (hb.block _ (lt h.2.2)).trans h.2.2⟩

theorem Found.uniq {W : Str → Option (List Str)} {ws l l' : List Str} (h : Found W ws l) (h' : Found W ws l') : l = l' :=
  Asc.ext h.1 h'.1 (fun i => by rw [h.2 i, h'.2 i])

theorem runW_ids : ∀ (l : List StepD) (W : Str → Option (List Str)) (i : Str), (runW W l i).isSome = true → (W i).isSome = true ∨ i ∈ l.map StepD.id
  | [], W, i, h => Or.inl h
  | s :: l, W, i, h => by
    rcases runW_ids l (stepW W s) i h with h1 | h1
    · by_cases e : i = s.id
      · exact Or.inr (by simp [e])
      · left
        unfold stepW at h1
        split at h1
        · simpa [setW, e] using h1
        · split at h1
          · simpa [rmW, e] using h1
          · exact h1
    · exact Or.inr (by simp at h1 ⊢; exact Or.inr h1)

/-- nothing is left but what these calls spoke of -/
def Left (W : Str → Option (List Str)) (l : List StepD) : Prop := ∀ i, (W i).isSome = true → i ∈ l.map StepD.id

theorem left_run (l : List StepD) : Left (runW (fun _ => none) l) l := fun i h => by
  rcases runW_ids l _ i h with h1 | h1
  · cases h1
  · exact h1
theorem Left.rm {W : Str → Option (List Str)} {l : List StepD} {k : Nat} (hk : k < l.length) (h : Left W (l.take (k + 1))) {id : Str} (hid : id = l[k].id) : Left (fun j => if j = id then none else W j) (l.take k) := by
  intro i hi
  dsimp only at hi
  by_cases e : i = id
  · rw [if_pos e] at hi; cases hi
  · rw [if_neg e] at hi
    have := h i hi
    rw [List.take_succ_eq_append_getElem hk, List.map_append, List.mem_append] at this
    rcases this with h1 | h1
    · exact h1
    · simp only [List.map_cons, List.map_nil, List.mem_singleton] at h1
      rw [hid] at e
      exact absurd h1 e
theorem Left.none {W : Str → Option (List Str)} (h : Left W []) : W = fun _ => none := by
  funext i
  cases hh : W i with
  | none => rfl
  | some x => have := h i (by rw [hh]; rfl); simp at this
end Go.Proofs.Ytokfiikpfckahaa
