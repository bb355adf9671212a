/- The net in memory, and the contract of link: the address of the link, or nil. Condition: the net lies in memory as stated. -/
import Derived.Test.YtdkpgjhjdnfieaaC
set_option linter.unusedVariables false
set_option linter.unusedSimpArgs false
namespace Go.Proofs.Ytdkpgjhjdnfieaa
open Go.RowKit Go.Mf

/-- a net: its number of servers, what is on each link, which links are cut -/
structure Nx where
  n : Nat
  q : Nat → Nat → List (List Value)
  off : Nat → Nat → Bool

def rowCells (n : Nat) (rr : Nat → Nat) : Array Value := ((List.range n).map fun i => Value.slice (some ⟨rr i, 0, none⟩) n n).toArray
def linkCells (n : Nat) (v : Nat → Value) (off : Nat → Bool) : Array Value := ((List.range n).flatMap fun j => [v j, Value.bool (off j)]).toArray

theorem rowCells_get {n i : Nat} (rr : Nat → Nat) (h : i < n) : (rowCells n rr)[i]? = some (.slice (some ⟨rr i, 0, none⟩) n n) := by
  simp [rowCells, h]
theorem link_len (n : Nat) (v : Nat → Value) (off : Nat → Bool) : (linkCells n v off).size = 2 * n := by
  unfold linkCells
  induction n with
  | zero => rfl
  | succ n ih => simp only [List.range_succ, List.flatMap_append, List.size_toArray, List.length_append] at ih ⊢; rw [ih]; simp; omega
theorem link_get {n : Nat} (v : Nat → Value) (off : Nat → Bool) : ∀ {j : Nat}, j < n → (linkCells n v off)[2 * j]? = some (v j) ∧ (linkCells n v off)[2 * j + 1]? = some (.bool (off j)) := by
  induction n with
  | zero => intro j h; omega
  | succ n ih =>
    intro j h
    have hl := link_len n v off
    have e : linkCells (n + 1) v off = linkCells n v off ++ #[v n, .bool (off n)] := by simp [linkCells, List.range_succ]
    rw [e]
    by_cases hj : j < n
    · rw [Array.getElem?_append_left (by omega), Array.getElem?_append_left (by omega)]; exact ih hj
    · have : j = n := by omega
      subst this
      rw [Array.getElem?_append_right (by omega), Array.getElem?_append_right (by omega), hl]
      simp

structure NetIn (w : World) (S : Nat → Prop) (x rb : Nat) (rr : Nat → Nat) (qv : Nat → Nat → Value) (X : Nx) : Prop where
  hx : w.heap[x]? = some (.cells #[.slice (some ⟨rb, 0, none⟩) X.n X.n] 66)
  hr : w.heap[rb]? = some (.cells (rowCells X.n rr) 67)
  hl : ∀ i, i < X.n → w.heap[rr i]? = some (.cells (linkCells X.n (qv i) (X.off i)) 77)
  hq : ∀ i j, i < X.n → j < X.n → w.ownsRow 0 42 34 (qv i j) (X.q i j).length (X.q i j).flatten
  ok : ∀ i j, MsgsOk (X.q i j)
  sx : S x
  sr : S rb
  sl : ∀ i, i < X.n → S (rr i)
  sq : ∀ i j g, i < X.n → j < X.n → (qv i j).ownBlock = some g → S g
  inj : ∀ i i', i < X.n → i' < X.n → rr i = rr i' → i = i'
  apart : ∀ i j i' j' g, i < X.n → j < X.n → i' < X.n → j' < X.n → (qv i j).ownBlock = some g → (qv i' j').ownBlock = some g → i = i' ∧ j = j'

def isLink (n : Nat) (a b : Int) : Bool := decide (0 ≤ a) && decide (a < n) && decide (0 ≤ b) && decide (b < n) && (a != b)

set_option maxRecDepth 100000 in
theorem link_no (w : World) (x rb n : Nat) (a b : Int) (hx : w.cell? ⟨x, 0, none⟩ = some (.slice (some ⟨rb, 0, none⟩) n n)) (h : isLink n a b = false) :
    Calls Try.prog 35 #[.pointer (some ⟨x, 0, none⟩), .int .i64 a, .int .i64 b] w fun e w' => e = .returned (.pointer none) ∧ w' = w := by
  go_enter Try.func35, Try.ntmps35
  by_cases a0 : a < 0
  · have a0' : decide (a < 0) = true := by simpa using a0
    go_wp2
    go_ret
    exact ⟨rfl, rfl⟩
  · have a0' : decide (a < 0) = false := by simpa using a0
    by_cases a1 : (n : Int) ≤ a
    · have a1' : decide ((n : Int) ≤ a) = true := by simpa using a1
      go_wp2
      go_ret
      exact ⟨rfl, rfl⟩
    · have a1' : decide ((n : Int) ≤ a) = false := by simpa using a1
      by_cases b0 : b < 0
      · have b0' : decide (b < 0) = true := by simpa using b0
        go_wp2
        go_ret
        exact ⟨rfl, rfl⟩
      · have b0' : decide (b < 0) = false := by simpa using b0
        by_cases b1 : (n : Int) ≤ b
        · have b1' : decide ((n : Int) ≤ b) = true := by simpa using b1
          go_wp2
          go_ret
          exact ⟨rfl, rfl⟩
        · have b1' : decide ((n : Int) ≤ b) = false := by simpa using b1
          have he : a = b := by
            simp only [isLink, Bool.and_eq_false_iff, decide_eq_false_iff_not, bne_eq_false_iff_eq] at h
            omega
          have he' : (a == b) = true := by simpa using he
          clear he
          go_wp2
          go_ret
          exact ⟨rfl, rfl⟩

set_option maxRecDepth 100000 in
theorem link_yes (w : World) (x rb r n i j : Nat) (hx : w.cell? ⟨x, 0, none⟩ = some (.slice (some ⟨rb, 0, none⟩) n n)) (hr : w.cell? ⟨rb, i, none⟩ = some (.slice (some ⟨r, 0, none⟩) n n)) (hi : i < n) (hj : j < n) (hne : i ≠ j) :
    Calls Try.prog 35 #[.pointer (some ⟨x, 0, none⟩), .int .i64 i, .int .i64 j] w fun e w' => e = .returned (.pointer (some ⟨r, j * 2, none⟩)) ∧ w' = w := by
  have a0 : decide ((i : Int) < 0) = false := by simp only [decide_eq_false_iff_not]; omega
  have b0 : decide ((j : Int) < 0) = false := by simp only [decide_eq_false_iff_not]; omega
  have a1 : decide ((n : Int) ≤ (i : Int)) = false := by simp; omega
  have b1 : decide ((n : Int) ≤ (j : Int)) = false := by simp; omega
  have a1' : decide (n ≤ i) = false := by simp; omega
  have b1' : decide (n ≤ j) = false := by simp; omega
  have he : ((i : Int) == (j : Int)) = false := by simp; omega
  have he' : (i == j) = false := by simp; omega
  have hjn : ¬ n = j := by omega
  go_enter Try.func35, Try.ntmps35
  go_wp2
  go_ret
  exact ⟨rfl, rfl⟩

/-- the contract of link, in one form -/
theorem link_any {w : World} {S : Nat → Prop} {x rb : Nat} {rr : Nat → Nat} {qv : Nat → Nat → Value} {X : Nx} (h : NetIn w S x rb rr qv X) (a b : Int) :
    Calls Try.prog 35 #[.pointer (some ⟨x, 0, none⟩), .int .i64 a, .int .i64 b] w fun e w' => e = .returned (.pointer (if isLink X.n a b = true then some ⟨rr a.toNat, b.toNat * 2, none⟩ else none)) ∧ w' = w := by
  have hx : w.cell? ⟨x, 0, none⟩ = some (.slice (some ⟨rb, 0, none⟩) X.n X.n) := by rw [cell_of_block h.hx]; rfl
  by_cases hl : isLink X.n a b = true
  · rw [if_pos hl]
    simp only [isLink, Bool.and_eq_true, decide_eq_true_eq, bne_iff_ne, ne_eq] at hl
    obtain ⟨i, hi⟩ : ∃ i : Nat, a = i := ⟨a.toNat, by omega⟩
    obtain ⟨j, hj⟩ : ∃ j : Nat, b = j := ⟨b.toNat, by omega⟩
    subst hi hj
    exact link_yes w x rb (rr i) X.n i j hx (by rw [cell_of_block h.hr]; exact rowCells_get rr (by omega)) (by omega) (by omega) (by omega)
  · rw [if_neg hl]
    exact link_no w x rb X.n a b hx (by simpa using hl)
end Go.Proofs.Ytdkpgjhjdnfieaa
