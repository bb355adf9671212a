/- The contract of Cut. Condition: the net lies in memory as stated. -/
import Derived.Test.YtdkpgjhjdnfieaaE
set_option linter.unusedVariables false
set_option linter.unusedSimpArgs false
namespace Go.Proofs.Ytdkpgjhjdnfieaa
open Go.RowKit Go.Mf

/-- outside the blocks of S all is as it was; what S' has beyond S is new -/
structure Fr (S S' : Nat → Prop) (w w' : World) : Prop where
  os : w'.os = w.os
  tape : w'.tape = w.tape
  output : w'.output = w.output
  size : w.heap.size ≤ w'.heap.size
  block : ∀ k, k < w.heap.size → ¬ S k → w'.heap[k]? = w.heap[k]?
  new : ∀ k, S' k → S k ∨ w.heap.size ≤ k

theorem Fr.refl (S : Nat → Prop) (w : World) : Fr S S w w := ⟨rfl, rfl, rfl, Nat.le_refl _, fun _ _ _ => rfl, fun _ h => .inl h⟩
theorem Fr.trans {S S' S'' : Nat → Prop} {a b c : World} (h : Fr S S' a b) (k : Fr S' S'' b c) : Fr S S'' a c :=
  ⟨k.os.trans h.os, k.tape.trans h.tape, k.output.trans h.output, Nat.le_trans h.size k.size, fun i hi hn =>
    (k.block i (Nat.lt_of_lt_of_le hi h.size) (fun hs => (h.new i hs).elim hn (fun h' => by omega))).trans (h.block i hi hn),
   fun i hi => (k.new i hi).elim (fun h' => h.new i h') (fun h' => .inr (Nat.le_trans h.size h'))⟩
theorem Fr.drewN {S S' : Nat → Prop} {a w : World} (h : Fr S S' a w) (n : Nat) : Fr S S' a (w.drewN n) := ⟨h.os, h.tape, h.output, h.size, h.block, h.new⟩
theorem Fr.below {S S' : Nat → Prop} {w w' : World} (h : Fr S S' w w') {B : Nat} (h1 : ∀ k, S k → B ≤ k) (h2 : B ≤ w.heap.size) : Below B w w' :=
  ⟨h.os, h.tape, h.output, h.size, fun k hk => h.block k (by omega) (fun hs => by have := h1 k hs; omega)⟩

theorem link_set (n : Nat) (v : Nat → Value) (off : Nat → Bool) (j : Nat) (b : Bool) : (linkCells n v off).setIfInBounds (j * 2 + 1) (.bool b) = linkCells n v (fun k => if k = j then b else off k) := by
  induction n with
  | zero => rfl
  | succ n ih =>
    have e1 : ∀ f, linkCells (n + 1) v f = linkCells n v f ++ #[v n, .bool (f n)] := fun f => by simp [linkCells, List.range_succ]
    have hl := link_len n v off
    rw [e1, e1, ← ih]
    apply Array.ext_getElem?
    intro k
    simp only [Array.getElem?_setIfInBounds, Array.getElem?_append, Array.size_append, Array.size_setIfInBounds, hl]
    by_cases h1 : k < 2 * n
    · simp only [if_pos h1]
      by_cases h2 : j * 2 + 1 = k
      · subst h2
        rw [if_pos rfl, if_pos rfl, if_pos (by simp; omega), if_pos (by omega)]
      · rw [if_neg h2, if_neg h2]
    · simp only [if_neg h1]
      by_cases h2 : j * 2 + 1 = k
      · by_cases h3 : j = n
        · subst h3
          have : k = 2 * j + 1 := by omega
          subst this
          simp [h2]
        · rw [if_pos h2]
          have h4 : ¬ n = j := fun e => h3 e.symm
          have h5 : 2 ≤ k - 2 * n := by omega
          rw [if_neg (by simp; omega)]
          simp [h5]
      · rw [if_neg h2]
        by_cases h3 : k - 2 * n = 1
        · have : ¬ n = j := by omega
          simp [h3, this]
        · by_cases h4 : k - 2 * n = 0
          · simp [h4]
          · have : 2 ≤ k - 2 * n := by omega
            simp [this]

def Nx.cut (X : Nx) (a b : Int) (o : Bool) : Nx := if isLink X.n a b = true then { X with off := fun i j => if i = a.toNat ∧ j = b.toNat then o else X.off i j } else X
def NetAt (w : World) (S : Nat → Prop) (x : Nat) (X : Nx) : Prop := ∃ rb rr qv, NetIn w S x rb rr qv X

theorem own_block {w : World} {v : Value} {n : Nat} {xs : List Value} (h : w.ownsRow 0 42 34 v n xs) {g : Nat} (hg : v.ownBlock = some g) : ∃ cur, w.heap[g]? = some (.cells cur 42 (0, 0)) := by
  rcases h.2 with ⟨rfl, _⟩ | ⟨g', cap, cur, rfl, _, hh, _⟩
  · simp [Value.ownBlock] at hg
  · simp only [Value.ownBlock, Option.some.injEq] at hg
    subst hg; exact ⟨cur, hh⟩
theorem own_of_heap {w w' : World} {v : Value} {n : Nat} {xs : List Value} (h : w.ownsRow 0 42 34 v n xs) (hh : ∀ g, v.ownBlock = some g → w'.heap[g]? = w.heap[g]?) : w'.ownsRow 0 42 34 v n xs := by
  refine ⟨h.1, ?_⟩
  rcases h.2 with ⟨rfl, h0⟩ | ⟨g', cap, cur, rfl, h1, h2, h3⟩
  · exact .inl ⟨rfl, h0⟩
  · exact .inr ⟨g', cap, cur, rfl, h1, (hh g' rfl).trans h2, h3⟩

theorem cut_net {w : World} {S : Nat → Prop} {x rb : Nat} {rr : Nat → Nat} {qv : Nat → Nat → Value} {X : Nx} (h : NetIn w S x rb rr qv X) {i j : Nat} (hi : i < X.n) (hj : j < X.n) (o : Bool) :
    NetIn (w.setCell ⟨rr i, j * 2 + 1, none⟩ (.bool o)) S x rb rr qv { X with off := fun i' j' => if i' = i ∧ j' = j then o else X.off i' j' } := by
  have hli := h.hl i hi
  have hne : ∀ (k : Nat) {cs : Array Value} {t : TypeId}, w.heap[k]? = some (Obj.cells cs t (0, 0)) → t ≠ 77 → (w.setCell ⟨rr i, j * 2 + 1, none⟩ (.bool o)).heap[k]? = w.heap[k]? := fun k cs t hk ht =>
    Below.heap_setCell _ _ _ _ (fun e => by
      have e' : k = rr i := e
      rw [e', hli] at hk
      simp at hk
      exact ht hk.2.symm)
  exact {
    hx := (hne _ h.hx (by decide)).trans h.hx
    hr := (hne _ h.hr (by decide)).trans h.hr
    hl := fun i' hi' => by
      by_cases e : i' = i
      · subst e
        rw [setCell_block hli, link_set]
        simp
      · have : rr i' ≠ rr i := fun e2 => e (h.inj _ _ hi' hi e2)
        rw [Below.heap_setCell _ _ _ _ this, h.hl i' hi']
        simp [e]
    hq := fun a b ha hb => own_of_heap (h.hq a b ha hb) (fun g hg => by
      obtain ⟨cur, hc⟩ := own_block (h.hq a b ha hb) hg
      exact hne _ hc (by decide))
    ok := h.ok, sx := h.sx, sr := h.sr, sl := h.sl, sq := h.sq, inj := h.inj, apart := h.apart }

def CutPost (w : World) (S : Nat → Prop) (x rb : Nat) (rr : Nat → Nat) (qv : Nat → Nat → Value) (X : Nx) (a b : Int) (o : Bool) : Ending → World → Prop := fun e w' =>
  e = .returned (.bool (isLink X.n a b)) ∧ NetIn w' S x rb rr qv (X.cut a b o) ∧ Fr S S w w'

set_option maxRecDepth 100000 in
theorem cut_any {w : World} {S : Nat → Prop} {x rb : Nat} {rr : Nat → Nat} {qv : Nat → Nat → Value} {X : Nx} (h : NetIn w S x rb rr qv X) (a b : Int) (o : Bool) :
    Calls Try.prog 21 #[.pointer (some ⟨x, 0, none⟩), .int .i64 a, .int .i64 b, .bool o] w (CutPost w S x rb rr qv X a b o) := by
  have hlk := link_any h a b
  by_cases hl : isLink X.n a b = true
  · obtain ⟨i, j, rfl, rfl, hi, hj, hne⟩ := isLink_nat hl
    obtain ⟨q, c, e, c1, c2⟩ := link_cells h hi hj
    have hset := cut_net h hi hj o
    have hcut : X.cut i j o = { X with off := fun i' j' => if i' = i ∧ j' = j then o else X.off i' j' } := by unfold Nx.cut; rw [if_pos hl]; simp
    have hfz : w.frozen? ⟨rr i, j * 2 + 1, none⟩ = false := frozen_of_block (h.hl i hi) _
    have hsi := h.sl i hi
    rw [← hcut] at hset
    rw [if_pos hl] at hlk
    simp only [Int.toNat_natCast] at hlk
    have HLK := Lib.hid hlk
    have HL := Lib.hid hl
    have HSET := Lib.hid hset
    have HS := Lib.hid hsi
    clear hlk h e hl hset hcut hsi
    go_enter Try.func21, Try.ntmps21
    go_wp2_with fail
    refine HLK.out.mono ?_
    rintro e w' ⟨rfl, rfl⟩
    go_wp2
    go_ret
    exact ⟨by rw [HL.out]; rfl, HSET.out, ⟨rfl, rfl, rfl, by simp, fun k _ hk => Below.heap_setCell _ _ _ _ (fun e => hk (by have e' : k = rr i := e; rw [e']; exact HS.out)), fun k hk => .inl hk⟩⟩
  · have hcut : X.cut a b o = X := by unfold Nx.cut; rw [if_neg hl]
    rw [if_neg hl] at hlk
    have hl' : isLink X.n a b = false := by simpa using hl
    have HLK := Lib.hid hlk
    have HL := Lib.hid hl'
    have HC := Lib.hid hcut
    have H := Lib.hid h
    clear hlk h hl hl' hcut
    go_enter Try.func21, Try.ntmps21
    go_wp2_with fail
    refine HLK.out.mono ?_
    rintro e w' ⟨rfl, rfl⟩
    go_wp2
    go_ret
    exact ⟨by rw [HL.out]; rfl, by rw [HC.out]; exact H.out, Fr.refl _ _⟩
end Go.Proofs.Ytdkpgjhjdnfieaa
