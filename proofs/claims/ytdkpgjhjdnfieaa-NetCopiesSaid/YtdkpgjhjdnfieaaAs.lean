/- What spoil leaves of memory; no program is run. No condition. -/
import Derived.Test.YtdkpgjhjdnfieaaAq
set_option linter.unusedVariables false
set_option linter.unusedSimpArgs false
namespace Go.Proofs.Ytdkpgjhjdnfieaa
open Go.RowKit Go.Mf
set_option maxRecDepth 100000

/-- wr is W, but for cells in blocks of S; the entries (in block G, from cell o on) from the k-th on are as they were -/
structure Sp (S : Nat → Prop) (G o : Nat) (W : World) (k : Nat) (wr : World) : Prop where
  fr : Fr S S W wr
  here : ∀ q, q < W.heap.size → ∀ p, (W.cell? ⟨q, p, none⟩).isSome = true → (wr.cell? ⟨q, p, none⟩).isSome = true
  frz : ∀ q, q < W.heap.size → ∀ p, wr.frozen? ⟨q, p, none⟩ = W.frozen? ⟨q, p, none⟩
  ents : ∀ j, o + k * 50 ≤ j → wr.cell? ⟨G, j, none⟩ = W.cell? ⟨G, j, none⟩

theorem Fr.later {S S' : Nat → Prop} {a b c : World} (h : Fr S S' a b) (hb : Below b.heap.size b c) : Fr S S' a c :=
  ⟨hb.os.trans h.os, hb.tape.trans h.tape, hb.output.trans h.output, Nat.le_trans h.size hb.size, fun k hk hn => (hb.block k (Nat.lt_of_lt_of_le hk h.size)).trans (h.block k hk hn), h.new⟩
theorem Sp.refl (S : Nat → Prop) (G o : Nat) (W : World) : Sp S G o W 0 W := ⟨Fr.refl _ _, fun _ _ _ h => h, fun _ _ _ => rfl, fun _ _ => rfl⟩
theorem Sp.le {S : Nat → Prop} {G o k k' : Nat} {W wr : World} (h : Sp S G o W k wr) (hk : k ≤ k') : Sp S G o W k' wr := ⟨h.fr, h.here, h.frz, fun j hj => h.ents j (by have := Nat.mul_le_mul_right 50 hk; omega)⟩
theorem Sp.put {S : Nat → Prop} {G o k : Nat} {W wr : World} (h : Sp S G o W k wr) {q p : Nat} (v : Value) (hS : S q) (hp : q ≠ G ∨ p < o + k * 50) : Sp S G o W k (wr.setCell ⟨q, p, none⟩ v) := by
  refine ⟨⟨h.fr.os, h.fr.tape, h.fr.output, by simp; exact h.fr.size, fun i hi hn => ?_, h.fr.new⟩, fun i hi j hj => ?_, fun i hi j => ?_, fun j hj => ?_⟩
  · rw [Below.heap_setCell _ _ _ _ (show i ≠ q from fun e => hn (by rw [e]; exact hS))]; exact h.fr.block i hi hn
  · obtain ⟨u, hu⟩ := Option.isSome_iff_exists.1 (h.here i hi j hj)
    obtain ⟨u', hu'⟩ := cell?_setCell_some (w := wr) (p := ⟨q, p, none⟩) (x := v) (q := ⟨i, j, none⟩) (v := u) hu
    rw [hu']; rfl
  · rw [World.frozen?_setCell]; exact h.frz i hi j
  · rw [← h.ents j hj]
    refine World.cell?_setCells_out q [v] p wr ⟨G, j, none⟩ (fun e _ => ?_)
    rcases hp with hp | hp
    · exact absurd e.symm hp
    · right; simp; omega
theorem Sp.puts {S : Nat → Prop} {G o k : Nat} {W : World} {q : Nat} (hS : S q) : ∀ (vs : List Value) (p : Nat) {wr : World}, Sp S G o W k wr → (q ≠ G ∨ p + vs.length ≤ o + k * 50) → Sp S G o W k (wr.setCells q p vs)
  | [], _, _, h, _ => h
  | v :: vs, p, wr, h, hp => by
    rw [List.length_cons] at hp
    exact Sp.puts hS vs (p + 1) (h.put v hS (by omega)) (by omega)
theorem Sp.alloc {S : Nat → Prop} {G o k : Nat} {W wr : World} (h : Sp S G o W k wr) (hG : G < W.heap.size) (ob : Obj) : Sp S G o W k (wr.alloc ob) := by
  have hb : ∀ q, q < W.heap.size → (wr.alloc ob).heap[q]? = wr.heap[q]? := fun q hq => Below.heap_alloc _ _ _ (by have := h.fr.size; omega)
  refine ⟨h.fr.later ((Below.refl _ wr).alloc (Nat.le_refl _) ob), fun i hi j hj => ?_, fun i hi j => ?_, fun j hj => ?_⟩
  · rw [World.cell?_of_block (w := wr) (hb i hi)]; exact h.here i hi j hj
  · rw [World.frozen?_of_block (w := wr) (hb i hi)]; exact h.frz i hi j
  · rw [World.cell?_of_block (w := wr) (hb G hG)]; exact h.ents j hj
/-- a store into a block beyond W's -/
theorem Sp.putNew {S : Nat → Prop} {G o k : Nat} {W : World} (hG : G < W.heap.size) {q : Nat} (hq : W.heap.size ≤ q) : ∀ (vs : List Value) (p : Nat) {wr : World}, Sp S G o W k wr → Sp S G o W k (wr.setCells q p vs) := fun vs p wr h => by
  have ho := (Only.refl q wr).setCells vs p
  have hb : ∀ i, i < W.heap.size → (wr.setCells q p vs).heap[i]? = wr.heap[i]? := fun i hi => ho.block i (by omega)
  refine ⟨⟨ho.os.trans h.fr.os, ho.tape.trans h.fr.tape, ho.output.trans h.fr.output, by rw [ho.size]; exact h.fr.size, fun i hi hn => (hb i hi).trans (h.fr.block i hi hn), h.fr.new⟩, fun i hi j hj => ?_, fun i hi j => ?_, fun j hj => ?_⟩
  · rw [World.cell?_of_block (w := wr) (hb i hi)]; exact h.here i hi j hj
  · rw [World.frozen?_of_block (w := wr) (hb i hi)]; exact h.frz i hi j
  · rw [World.cell?_of_block (w := wr) (hb G hG)]; exact h.ents j hj
/-- where the cells of a list stand -/
theorem rows_there {W : World} {T : Nat → Prop} {sz bt n c : Nat} {a : Option Addr} {xs : List Value} (h : RowsIn W T sz bt (.slice a n c) n xs) (hn : 0 < n) : ∃ b o, a = some ⟨b, o, none⟩ ∧ T b ∧ ∀ p, p < n * sz → (W.cell? ⟨b, o + p, none⟩).isSome = true := by
  obtain ⟨a', c', h1, h2, h3, h4, h5, h6⟩ := h
  simp only [Value.slice.injEq] at h1
  obtain ⟨rfl, _, rfl⟩ := h1
  obtain ⟨b, o, h7, h8, h9⟩ := h6 hn
  refine ⟨b, o, h7, h8, fun p hp => ?_⟩
  rw [h9 p (xs[p]'(by omega)) (List.getElem?_eq_getElem _)]
  rfl
theorem Sp.there {S : Nat → Prop} {G o k : Nat} {W wr : World} (h : Sp S G o W k wr) {b q n : Nat} (hb : b < W.heap.size) (ht : Thaw W b) (hp : ∀ p, p < n → (W.cell? ⟨b, q + p, none⟩).isSome = true) : wr.there b q n := fun j hj => ⟨h.here b hb _ (hp j hj), by rw [h.frz b hb]; exact ht _⟩
/-- the entries' cells in W, and the k-th entry in a later world -/
theorem Sp.range {S : Nat → Prop} {G o k : Nat} {W wr : World} {css : List (List Value)} {c : List Value} (h : Sp S G o W k wr) (hrow : ∀ j u, css.flatten[j]? = some u → W.cell? ⟨G, o + j, none⟩ = some u) (hm : ∀ x ∈ css, x.length = 50) (hc : css[k]? = some c) (i m : Nat) (him : i + m ≤ 50) :
    wr.rangeAt G (o + k * 50 + i) ((c.drop i).take m) := fun j u hu => by
  rw [List.getElem?_take] at hu
  split at hu
  · rw [List.getElem?_drop] at hu
    rw [h.ents _ (by omega), show o + k * 50 + i + j = o + (k * 50 + (i + j)) by omega]
    exact hrow _ u (by rw [flat_get hm hc (by omega)]; exact hu)
  · cases hu

def SpoilPost (w : World) (S : Nat → Prop) : Ending → World → Prop := fun e w' => e = .returned (.tuple #[]) ∧ Fr S S w w'
end Go.Proofs.Ytdkpgjhjdnfieaa
