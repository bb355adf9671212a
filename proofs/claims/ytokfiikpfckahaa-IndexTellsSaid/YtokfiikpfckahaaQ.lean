/- Capitals and the word list: plain; a row of bytes that is written. No condition. -/
import Derived.Test.YtokfiikpfckahaaO
import Derived.Lib.ConvBytes
import Derived.Lib.SlBytesRow
set_option linter.unusedVariables false
set_option linter.unusedSimpArgs false
namespace Go.Ix
def capR (a b : UInt8) : Prop := b = a ∨ (97 ≤ a.toNat ∧ a.toNat ≤ 122 ∧ b.toNat = a.toNat - 32)
theorem capR_part {a b : UInt8} (h : capR a b) : partB b = partB a := by
  rcases h with rfl | ⟨h1, h2, h3⟩
  · rfl
  · unfold partB
    rw [decide_eq_decide]
    omega
theorem capR_low {a b : UInt8} (h : capR a b) : lowB b = lowB a := by
  rcases h with rfl | ⟨h1, h2, h3⟩
  · rfl
  · unfold lowB
    rw [if_pos (by omega), if_neg (by omega)]
    apply UInt8.toNat_inj.1
    rw [UInt8.toNat_add, h3]
    show (a.toNat - 32 + 32) % 256 = a.toNat
    omega
def capL (l l' : List UInt8) : Prop := l'.length = l.length ∧ ∀ i (h : i < l.length) (h' : i < l'.length), capR l[i] l'[i]
theorem capL.refl (l : List UInt8) : capL l l := ⟨rfl, fun i h h' => Or.inl rfl⟩
theorem capL.set {l l' : List UInt8} (h : capL l l') {i : Nat} {c : UInt8} (hi : i < l.length) (hc : capR l[i] c) : capL l (l'.set i c) := by
  refine ⟨by rw [List.length_set]; exact h.1, fun j hj hj' => ?_⟩
  rw [List.getElem_set]
  by_cases e : i = j
  · subst e; rw [if_pos rfl]; exact hc
  · rw [if_neg e]; exact h.2 j hj (by simpa using hj')
theorem tok_cap : ∀ (l l' : List UInt8) (cur : Str), capL l l' → tok l' cur = tok l cur
  | [], [], cur, h => rfl
  | [], _ :: _, cur, h => by have := h.1; simp at this
  | _ :: _, [], cur, h => by have := h.1; simp at this
  | a :: l, b :: l', cur, h => by
    have h0 : capR a b := h.2 0 (by simp) (by simp)
    have ht : capL l l' := ⟨by simpa using h.1, fun i hi hi' => h.2 (i + 1) (Nat.succ_lt_succ hi) (Nat.succ_lt_succ hi')⟩
    unfold tok
    rw [capR_part h0, capR_low h0, tok_cap l l' _ ht, tok_cap l l' _ ht]
theorem wordsOf_cap {l l' : List UInt8} (h : capL l l') : wordsOf l' = wordsOf l := by
  unfold wordsOf
  rw [tok_cap l l' [] h]
end Go.Ix
namespace Go.Proofs.Ytokfiikpfckahaa
open Go.RowKit Go.Lib Go.Ix Go.Sort Go.Mf

/-- bytes in a row that may be written -/
structure ByR (wr : World) (g : Nat) (cs : List UInt8) : Prop where
  cell : ∀ i (h : i < cs.length), wr.cell? ⟨g, i, none⟩ = some (.int .u8 (cs[i].toNat : Int))
  frz : ∀ i, i < cs.length → wr.frozen? ⟨g, i, none⟩ = false
  lt : g < wr.heap.size

theorem ByR.new (w : World) (S : ByteArray) : ByR (bytesWorld w 5 S) w.heap.size S.data.toList where
  cell := fun i h => by
    have hS : i < S.size := by simpa using h
    rw [bytesWorld_cell w 5 S i hS]
    have h2 : i < S.data.size := hS
    simp [List.getD, Array.getElem?_eq_getElem h2]
  frz := fun i h => by
    have hS : i < S.size := by simpa using h
    unfold World.frozen?
    rw [bytesWorld_at_new]
    simp [bytesCells]
    omega
  lt := by rw [bytesWorld_size]; omega

theorem below_bytes (w : World) (S : ByteArray) : Below w.heap.size w (bytesWorld w 5 S) :=
  ⟨by simp [bytesWorld, World.freeze, World.alloc, World.drew, -World.alloc_eq, -World.drew_eq], by simp [bytesWorld, World.freeze, World.alloc, World.drew, -World.alloc_eq, -World.drew_eq], by simp [bytesWorld, World.freeze, World.alloc, World.drew, -World.alloc_eq, -World.drew_eq], by rw [bytesWorld_size]; omega, fun k hk => bytesWorld_at_old w 5 S k hk⟩

theorem ByR.set {wr : World} {g : Nat} {cs : List UInt8} (h : ByR wr g cs) {i : Nat} {c : UInt8} (hi : i < cs.length) : ByR (wr.setCell ⟨g, i, none⟩ (.int .u8 (c.toNat : Int))) g (cs.set i c) where
  cell := fun j hj => by
    rw [List.getElem_set]
    have hj' : j < cs.length := by simpa using hj
    by_cases e : i = j
    · subst e
      rw [if_pos rfl, World.cell?_setCell_same (w := wr) (a := ⟨g, i, none⟩) (v := .int .u8 (c.toNat : Int)) (h := h.cell i hi)]
    · rw [if_neg e, World.cell?_setCell_other (w := wr) (a := ⟨g, i, none⟩) (b := ⟨g, j, none⟩) (v := .int .u8 (c.toNat : Int)) (h := by intro e2; cases e2; exact e rfl)]
      exact h.cell j hj'
  frz := fun j hj => by
    rw [World.frozen?_setCell]
    exact h.frz j (by simpa using hj)
  lt := by have := h.lt; simpa using this

theorem ByR.up {w w' : World} {g : Nat} {cs : List UInt8} (h : ByR w g cs) (hb : Below w.heap.size w w') : ByR w' g cs where
  cell := fun i hi => (hb.cell h.lt).trans (h.cell i hi)
  frz := fun i hi => (hb.frozen h.lt).trans (h.frz i hi)
  lt := Nat.lt_of_lt_of_le h.lt hb.size

theorem ByR.text {w : World} {g : Nat} {cs : List UInt8} (h : ByR w g cs) (cap : Nat) : (convert 27 9 (.slice (some ⟨g, 0, none⟩) cs.length cap)).run Try.prog w = .ok (encStr cs) w := by
  have hs : (⟨cs.toArray⟩ : ByteArray).size = cs.length := by simp [ByteArray.size]
  have := run_convert_whole (P := Try.prog) w 27 5 9 Try.underlying27 Try.underlying5 Try.underlying9 g 0 ⟨cs.toArray⟩ (fun i hi => by
    rw [Nat.zero_add]
    have h2 : i < cs.length := by rw [← hs]; exact hi
    exact h.cell i h2) cap
  rw [hs] at this
  exact this

/-- truth values in a row to be read -/
def BoolsAt (w : World) (v : Value) (m : Nat) : Prop := ∃ p cap, v = .slice p m cap ∧ ∀ j, j < m → ∃ b o, p = some ⟨b, o, none⟩ ∧ b < w.heap.size ∧ ∃ x : Bool, w.cell? ⟨b, o + j, none⟩ = some (.bool x)
end Go.Proofs.Ytokfiikpfckahaa
