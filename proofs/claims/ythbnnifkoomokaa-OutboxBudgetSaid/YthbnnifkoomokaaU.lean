/- What the walks of the laws over ends want: rows of bools, sends outside the box, a slice of slices that came in. Conditions as stated. -/
import Derived.Test.YthbnnifkoomokaaT
import Derived.Test.YthbnnifkoomokaaR
import Derived.ProofKit
import Derived.OpenShut
import Derived.Deep.Matrix
import Derived.BigQuiet
set_option linter.unusedVariables false
set_option linter.unusedSimpArgs false
namespace Go.Proofs.Ythbnnifkoomokaa
open Go.RowKit Go.Mf Go.ChangeShapes Go.WideShapes
open Go.Deep (open_int_rows)

theorem still_of_quiet {P : Program} {ops : Array Oper} {w : World} {Q : Go.Act → Prop} : ∀ (l : List Oper) (a : Go.Act), wpQuiet P ops (fun w' => w' = w) Q l a → wpStill P ops w Q l a
  | [], a, h => h
  | o :: rest, a, h => by
    unfold wpQuiet at h
    unfold wpStill
    by_cases hw : Region.wanted o (yielded ops a.tmps) = true
    · rw [if_pos hw] at h ⊢
      obtain ⟨v, h1, h2⟩ := h
      have h3 := still_of_quiet rest _ h2
      have h4 := h1 w rfl
      unfold Oper.quietAt at h4
      unfold Oper.still
      generalize (execOp a.eval o).run P w = r at h4
      cases r with
      | ok n w' =>
        cases n <;> simp only [Oper.quietUpon] at h4 <;> simp only [Oper.stillUpon]
        case value u => exact ⟨h4.1, h4.2 ▸ h3⟩
        case skip => exact ⟨h4.1, h4.2 ▸ h3⟩
        case enter f args => exact ⟨h4.1, v, h4.1 ▸ h4.2, h3⟩
      | halt x w' => simp only [Oper.quietUpon] at h4
    · rw [if_neg hw] at h ⊢
      exact still_of_quiet rest _ h

def boolCells (n : Nat) (f : Nat → Bool) : Array Value := ((List.range n).map fun p => Value.bool (f p)).toArray
theorem boolCells_get (n : Nat) (f : Nat → Bool) (p : Nat) (h : p < n) : (boolCells n f)[p]? = some (.bool (f p)) := by simp [boolCells, h]
theorem boolCells_set (n : Nat) (f : Nat → Bool) (p : Nat) (b : Bool) : (boolCells n f).setIfInBounds p (.bool b) = boolCells n (fun q => if q = p then b else f q) := by
  apply Array.ext
  · simp [boolCells]
  · intro i h1 h2
    simp [boolCells, Array.getElem_setIfInBounds]
    by_cases e : p = i
    · subst e; simp
    · simp [e, Ne.symm e]
theorem boolCells_congr {n : Nat} {f g : Nat → Bool} (h : ∀ p, p < n → f p = g p) : boolCells n f = boolCells n g := by
  unfold boolCells; congr 1; exact List.map_congr_left (fun p hp => by rw [h p (List.mem_range.1 hp)])

/-- block g of w is a row of n bools -/
def BoolRow (w : World) (g n : Nat) (f : Nat → Bool) : Prop := w.heap[g]? = some (.cells (boolCells n f) 4 (0, 0))
theorem BoolRow.cell {w : World} {g n : Nat} {f : Nat → Bool} (h : BoolRow w g n f) {p : Nat} (hp : p < n) : w.cell? ⟨g, p, none⟩ = some (.bool (f p)) := by
  rw [cell_of_block h, boolCells_get n f p hp]
theorem BoolRow.frozen {w : World} {g n : Nat} {f : Nat → Bool} (h : BoolRow w g n f) (p : Nat) : w.frozen? ⟨g, p, none⟩ = false := frozen_of_block h p
theorem BoolRow.set {w : World} {g n : Nat} {f : Nat → Bool} (h : BoolRow w g n f) (p : Nat) (b : Bool) : BoolRow (w.setCell ⟨g, p, none⟩ (.bool b)) g n (fun q => if q = p then b else f q) := by
  unfold BoolRow; rw [setCell_block h, boolCells_set]
theorem BoolRow.of_heap {w w' : World} {g n : Nat} {f : Nat → Bool} (h : BoolRow w g n f) (e : w'.heap[g]? = w.heap[g]?) : BoolRow w' g n f := e.trans h
theorem BoolRow.lt {w : World} {g n : Nat} {f : Nat → Bool} (h : BoolRow w g n f) : g < w.heap.size := (Array.getElem?_eq_some_iff.1 h).1
theorem BoolRow.congr {w : World} {g n : Nat} {f f' : Nat → Bool} (h : BoolRow w g n f) (e : ∀ p, p < n → f p = f' p) : BoolRow w g n f' := by
  unfold BoolRow; rw [← boolCells_congr e]; exact h
theorem BoolRow.made (w : World) (n : Nat) : BoolRow (w.alloc (.cells (boolCells n fun _ => false) 4)) w.heap.size n (fun _ => false) := heap_alloc_new w _

theorem info4 : (Try.prog.info? 4).map (fun i => (i.zero, i.size, i.bytes)) = some (some (.bool false), 1, 1) := by kernel_rfl
theorem make_bools (n : Nat) (h : n ≤ 20) (W : World) : (Instr.makeSlice 28 (.int .i64 (n : Int)) (.int .i64 (n : Int))).run Try.prog W = .ok (.slice (some ⟨W.heap.size, 0, none⟩) n n) (W.alloc (.cells (boolCells n fun _ => false) 4)) := by
  obtain ⟨i0, hi, hz0, hz1, hz2⟩ := info_parts info4
  have := run_make (P := Try.prog) W 28 4 i0 (.bool false) Try.underlying28 hi hz0 .i64 .i64 n n (by omega) (by omega) (by rw [hz2]; omega) (by omega)
  rw [this, hz1]
  have e : madeCells (Value.bool false).cells (((n : Int)).toNat * 1) = boolCells n fun _ => false := by
    apply Array.ext
    · simp [madeCells, boolCells]
    · intro i h1 h2; simp [madeCells, boolCells, Value.cells, Nat.mod_one]
  rw [e]; simp

/-- v is a slice of sends that reads as l; its block is in S -/
def SndsS (w : World) (S : Nat → Prop) (v : Value) (l : List Snd) : Prop :=
  ∃ a c, v = .slice a l.length c ∧ l.length ≤ 1000000000 ∧ (l ≠ [] → ∃ b off, a = some ⟨b, off, none⟩ ∧ S b ∧ ∀ j, j < l.length → ∃ s, l[j]? = some s ∧
    w.cell? ⟨b, off + j * 4, none⟩ = some (.int .i64 s.peer) ∧ w.cell? ⟨b, off + j * 4 + 1, none⟩ = some (.int .i64 s.log) ∧
    w.cell? ⟨b, off + j * 4 + 2, none⟩ = some (.int .i64 s.src) ∧ w.cell? ⟨b, off + j * 4 + 3, none⟩ = some (.int .i64 s.count))

theorem SndsS.of_cells {w w' : World} {S : Nat → Prop} {v : Value} {l : List Snd} (h : SndsS w S v l) (hc : ∀ a x, S a.block → w.cell? a = some x → w'.cell? a = some x) : SndsS w' S v l := by
  obtain ⟨a, c, h1, h2, h4⟩ := h
  refine ⟨a, c, h1, h2, fun hn => ?_⟩
  obtain ⟨b, off, h5, hS, h6⟩ := h4 hn
  refine ⟨b, off, h5, hS, fun j hj => ?_⟩
  obtain ⟨s, h7, h8, h9, h10, h11⟩ := h6 j hj
  exact ⟨s, h7, hc _ _ hS h8, hc _ _ hS h9, hc _ _ hS h10, hc _ _ hS h11⟩

theorem sndsS_of_own {W : World} {base : Nat} {v : Value} {l : List Snd} (hl : l.length ≤ 1000000000) (h : W.ownsRow base 34 4 v l.length (flat l)) : SndsS W (fun j => base ≤ j) v l := by
  have hs := snds_of_own hl h
  obtain ⟨a, c, h1, h2, h4⟩ := hs
  refine ⟨a, c, h1, h2, fun hn => ?_⟩
  obtain ⟨b, off, h5, h6⟩ := h4 hn
  refine ⟨b, off, h5, ?_, h6⟩
  have := (h.lt b (by rw [h1, h5]; rfl)).1
  exact this

theorem IntsAt.weaken {w : World} {S S' : Nat → Prop} {v : Value} {l : List Int} (h : IntsAt w S v l) (hS : ∀ j, S j → S' j) : IntsAt w S' v l := by
  obtain ⟨a, c, h1, h2, h3, h4⟩ := h
  refine ⟨a, c, h1, h2, h3, fun hn => ?_⟩
  obtain ⟨b, off, h5, h6, h7⟩ := h4 hn
  exact ⟨b, off, h5, hS _ h6, h7⟩
theorem RowsAt.weaken {w : World} {S S' : Nat → Prop} {v : Value} {L : List (List Int)} (h : RowsAt w S v L) (hS : ∀ j, S j → S' j) : RowsAt w S' v L := by
  obtain ⟨a, c, h1, h2, h4⟩ := h
  refine ⟨a, c, h1, h2, fun hn => ?_⟩
  obtain ⟨b, off, h5, h6, h7⟩ := h4 hn
  refine ⟨b, off, h5, hS _ h6, fun j hj => ?_⟩
  obtain ⟨u, h8, h9⟩ := h7 j hj
  exact ⟨u, h8, h9.weaken hS⟩
theorem RowsAt.below {w wr : World} {v : Value} {L : List (List Int)} (h : RowsAt w (fun j => j < w.heap.size) v L) (hb : Below w.heap.size w wr) : RowsAt wr (fun j => j < w.heap.size) v L :=
  h.of_cells (fun a x _ hx => cell_below hb hx)

theorem rows_of_trod {H : Type} {enc : TypeId × Value → H} {w : World} {v : Value} {d : DataW H} {p : List MemPlace} {base : Nat} (hv : Value.okWide Try.prog w .any base 22 v)
    (h : DataW.Trod enc Try.prog w 0 (fun _ => true) true 22 v d p) : ∃ L, RowsAt w (fun j => j < w.heap.size) v L := by
  obtain ⟨a, len, cap, rfl⟩ := okWide_slice Try.underlying22 hv
  obtain ⟨fuel, hf⟩ := h
  rcases open_int_rows Try.underlying22 Try.underlying25 Try.underlying3 (by kernel_rfl) (by kernel_rfl) hf with ⟨hcs, _⟩ | ⟨a', len', cap', A, Ln, C, Z, hcs, _, hl, hm, _, hr⟩
  · simp [Value.cells] at hcs
    obtain ⟨rfl, rfl, rfl⟩ := hcs
    exact ⟨[], none, 0, rfl, by simp, fun h => absurd rfl h⟩
  · simp [Value.cells] at hcs
    obtain ⟨rfl, rfl, rfl⟩ := hcs
    have hrow : ∀ r, r < len → IntsAt w (fun j => j < w.heap.size) (.slice (A r) (Ln r) (C r)) ((Z r).take (Ln r)) := by
      intro r hrl
      obtain ⟨_, h1, h2, h3, h4, h5, h6⟩ := hr r (by omega)
      have hlen : ((Z r).take (Ln r)).length = Ln r := by rw [List.length_take]; omega
      refine ⟨A r, C r, by rw [hlen], by rw [hlen]; simp only [maxLen] at h2; omega, fun x hx => Go.bounds_i64 (h4 x (List.mem_of_mem_take hx)), fun hne => ?_⟩
      have hpos : 0 < Ln r := by
        rcases Nat.eq_zero_or_pos (Ln r) with e | e
        · rw [e] at hne; simp at hne
        · exact e
      cases hA : A r with
      | none => have := h5 hA; omega
      | some a2 =>
        have h7 := (h6 a2 hA).2
        have h8 := h7 0 (by omega)
        have hsp : a2.spot = none := by have := World.cell?_spot h8; simpa [Addr.add] using this
        refine ⟨a2.block, a2.off, by rw [← hsp], ?_, fun j hj => ?_⟩
        · have := World.block_lt_of_cell? _ _ h8
          simpa [Addr.add] using this
        · rw [hlen] at hj
          have h9 := h7 j (by omega)
          have e : ((Z r).take (Ln r)).getD j 0 = (Z r).getD j 0 := by
            simp only [List.getD_eq_getElem?_getD, List.getElem?_take, if_pos hj]
          rw [e]
          obtain ⟨b, o, sp⟩ := a2
          dsimp only at hsp; subst hsp
          unfold Addr.add at h9
          split at h9
          · rename_i e; subst e; simpa using h9
          · exact h9
    refine ⟨(List.range len).map fun r => (Z r).take (Ln r), some a', cap, by simp, by simpa [maxLen] using Nat.le_trans hl hm, fun hne => ?_⟩
    have hlen : 0 < len := by
      rcases Nat.eq_zero_or_pos len with h | h
      · subst h; simp at hne
      · exact h
    have h0 := (hr 0 (by omega)).1
    have hsp : a'.spot = none := by have := World.cell?_spot h0; simpa [Addr.add] using this
    refine ⟨a'.block, a'.off, by rw [← hsp], ?_, fun j hj => ?_⟩
    · have := World.block_lt_of_cell? _ _ h0
      simpa [Addr.add] using this
    · simp at hj
      refine ⟨.slice (A j) (Ln j) (C j), ?_, by have := hrow j hj; simpa [hj] using this⟩
      have h9 := (hr j (by omega)).1
      obtain ⟨b, o, sp⟩ := a'
      dsimp only at hsp; subst hsp
      unfold Addr.add at h9
      split at h9
      · rename_i e; subst e; simpa using h9
      · exact h9

theorem last_is {w : World} {S : Nat → Prop} {v : Value} {l : List Int} (h : IntsAt w S v l) : Calls Try.prog 11 #[v] w fun e w' => e = .returned (.int .i64 (lastOf l)) ∧ w' = w :=
  (last_any w S v l h).mono fun e w' ⟨⟨A, h1, h2⟩, h3⟩ => ⟨by rw [h1, h2.unique (lastOf_is l)], h3.symm⟩
theorem sent_is' {w : World} {lo hi b : Nat} {X : Bx} (h : BoxAt w lo hi b X) (p l : Int) {r : Int} (hr : X.sentOf p l = r) :
   Calls Try.prog 10 #[.pointer (some ⟨b,0,none⟩), .int .i64 p, .int .i64 l] w fun e w' => e = .returned (.int .i64 r) ∧ w' = w :=
  (sent_is h p l hr).mono fun e w' ⟨h1, h2⟩ => ⟨h1, h2.symm⟩
end Go.Proofs.Ythbnnifkoomokaa
