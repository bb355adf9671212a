/- The contract of the reference's Cut. Condition: the net lies in memory as stated. -/
import Derived.Test.YtdkpgjhjdnfieaaBb
set_option linter.unusedVariables false
set_option linter.unusedSimpArgs false
namespace Go.Proofs.Ytdkpgjhjdnfieaa
open Go.RowKit Go.Mf
set_option maxRecDepth 100000

theorem und69 : Try.prog.underlying 69 = some (.slice 55) := by kernel_rfl
theorem info55 : (Try.prog.info? 55).map (fun i => (i.zero, i.size, i.bytes)) = some (some (.slice none 0 0), 1, 24) := by kernel_rfl
def keepC (cuts : List (Int × Int)) (a b : Int) (k : Nat) : List (Int × Int) := (cuts.take k).filter fun p => !(p.1 == a && p.2 == b)
theorem keepC_succ {cuts : List (Int × Int)} {a b : Int} {k : Nat} {p : Int × Int} (h : cuts[k]? = some p) : keepC cuts a b (k + 1) = keepC cuts a b k ++ if (p.1 == a && p.2 == b) = true then [] else [p] := by
  unfold keepC
  rw [List.take_add_one, h, Option.toList_some, List.filter_append]
  cases hm : (p.1 == a && p.2 == b) <;> simp only [List.filter_cons, List.filter_nil, hm] <;> rfl
theorem keepC_le (cuts : List (Int × Int)) (a b : Int) (k : Nat) : (keepC cuts a b k).length ≤ k := by
  unfold keepC
  have h1 := List.length_filter_le (fun p : Int × Int => !(p.1 == a && p.2 == b)) (cuts.take k)
  have h2 := List.length_take_le k cuts
  omega
def CutsAre (w w3 : World) (T : Nat → Prop) (y : Nat) (v : Value) (cuts : List (Int × Int)) : Prop :=
  Below w.heap.size w w3 ∧ ∃ gs, w3.ownsRow w.heap.size 55 1 v cuts.length gs ∧ ∀ (i : Nat) (p : Int × Int), cuts[i]? = some p → ∃ u, gs[i]? = some u ∧ cutCell w3 (fun k => T k ∨ w.heap.size ≤ k ∧ k < w3.heap.size) y u p
theorem CutsAre.up {w w3 w4 : World} {T : Nat → Prop} {y : Nat} {v : Value} {cuts : List (Int × Int)} (hT : ∀ k, T k → k < w.heap.size) (h : CutsAre w w3 T y v cuts) (hb : Below w3.heap.size w3 w4) : CutsAre w w4 T y v cuts := by
  obtain ⟨h1, gs, h2, h3⟩ := h
  have hs1 := h1.size
  have hs2 := hb.size
  refine ⟨h1.trans (hb.mono hs1), gs, own_heap h2 (fun g _ hlt => hb.block g hlt), fun i p hp => ?_⟩
  obtain ⟨u, hu, q⟩ := h3 i p hp
  exact ⟨_, hu, q.keep (fun k hk hl => hk.imp id (fun h => by omega)) (fun k _ _ _ hl => hb.block k hl)⟩
/-- one more cut behind the others -/
theorem CutsAre.push {w w3 w4 : World} {T : Nat → Prop} {y : Nat} {v v' : Value} {cuts : List (Int × Int)} {gs : List Value} {u : Value} {p : Int × Int} (hT : ∀ k, T k → k < w.heap.size) (h1 : Below w.heap.size w w3) (h3 : ∀ (i : Nat) (p : Int × Int), cuts[i]? = some p → ∃ u, gs[i]? = some u ∧ cutCell w3 (fun k => T k ∨ w.heap.size ≤ k ∧ k < w3.heap.size) y u p)
    (hl : gs.length = cuts.length) (hu : cutCell w3 (fun k => T k ∨ w.heap.size ≤ k ∧ k < w3.heap.size) y u p) (hgr : ∀ k, k < w3.heap.size → some k ≠ v.ownBlock → w4.heap[k]? = w3.heap[k]?) (hb4 : Below w.heap.size w w4) (hs : w3.heap.size ≤ w4.heap.size)
    (h2 : w3.ownsRow w.heap.size 55 1 v cuts.length gs)
    (hown : w4.ownsRow w.heap.size 55 1 v' (cuts.length + 1) (gs ++ [u])) : CutsAre w w4 T y v' (cuts ++ [p]) := by
  have up : ∀ {u p}, cutCell w3 (fun k => T k ∨ w.heap.size ≤ k ∧ k < w3.heap.size) y u p → cutCell w4 (fun k => T k ∨ w.heap.size ≤ k ∧ k < w4.heap.size) y u p := fun {u p} hc =>
    hc.keep (fun k hk hl => hk.imp id (fun h => by omega)) (fun k hk _ ⟨arr, ha⟩ hl => hgr k hl (fun e => by
      obtain ⟨cur, hc⟩ := own_elem h2 e.symm
      rw [ha] at hc
      simp at hc))
  refine ⟨hb4, gs ++ [u], by rw [List.length_append]; exact hown, fun i p' hp' => ?_⟩
  by_cases hi : i < cuts.length
  · rw [List.getElem?_append_left hi] at hp'
    obtain ⟨u', hu', hc⟩ := h3 i p' hp'
    exact ⟨u', by rw [List.getElem?_append_left (by omega)]; exact hu', up hc⟩
  · rw [List.getElem?_append_right (by omega)] at hp'
    have : i - cuts.length = 0 := by
      have := (List.getElem?_eq_some_iff.1 hp').1
      simpa using this
    rw [this] at hp'
    simp only [List.getElem?_cons_zero, Option.some.injEq] at hp'
    subst hp'
    exact ⟨u, by rw [List.getElem?_append_right (by omega), hl, this]; rfl, up hu⟩
/-- other cuts are put in their place -/
theorem cset_fin {w w3 : World} {T : Nat → Prop} {y n : Nat} {L C C' : Value} {l : List RM} {cuts cuts' : List (Int × Int)} (h : RefIn w T y n L C l cuts) (hc : CutsAre w w3 T y C' cuts') :
    RefIn (w3.setCell ⟨y, 2, none⟩ C') (fun k => T k ∨ w.heap.size ≤ k ∧ k < w3.heap.size) y n L C' l cuts' ∧ RFr T (fun k => T k ∨ w.heap.size ≤ k ∧ k < w3.heap.size) y w (w3.setCell ⟨y, 2, none⟩ C') := by
  obtain ⟨hb, gs, hown, hcs⟩ := hc
  have hyl := h.lt y h.ty
  have hs := hb.size
  have hown' := hown.lt
  have ne : ∀ k, k ≠ y → (w3.setCell ⟨y, 2, none⟩ C').heap[k]? = w3.heap[k]? := fun k hk => Below.heap_setCell _ _ _ _ hk
  have hly : ∀ g, L.ownBlock = some g → g ≠ y := fun g hg e => by
    obtain ⟨cur, hc⟩ := own_elem h.hl hg
    rw [e, h.hy] at hc
    simp at hc
  refine ⟨{ hy := ?_, hl := own_heap h.hl (fun g hg hlt => by rw [ne g (hly g hg)]; exact hb.block g hlt), ok := h.ok, ft := h.ft,
            hc := ⟨gs, own_base0 (own_heap hown (fun g hg hlt => ne g (by have := hown' g hg; omega))), fun i p hp => ?_⟩,
            lt := fun k hk => by simp; rcases hk with hk | hk; (have := h.lt k hk; omega); omega, ty := .inl h.ty, tl := fun g hg => .inl (h.tl g hg), tc := fun g hg => .inr (by have := hown' g hg; omega) },
          ⟨hb.os, hb.tape, hb.output, by simp; exact hs, fun k hk hn => by rw [ne k hn]; exact hb.block k hk, fun k hk => .inl hk⟩, fun k hk => hk.imp id (fun h => h.1)⟩
  · have := setCell_block ((hb.block y hyl).trans h.hy) 2 C'
    rw [this]; rfl
  · obtain ⟨u, hu, q⟩ := hcs i p hp
    exact ⟨_, hu, q.keep (fun _ h _ => h) (fun k hk hn _ hl => ne k hn)⟩
end Go.Proofs.Ytdkpgjhjdnfieaa
