/- Plain facts for NetApart: what one step turns, and the sum of the lengths. No program is run. No condition. -/
import Derived.Test.YtdkpgjhjdnfieaaAg
set_option linter.unusedVariables false
set_option linter.unusedSimpArgs false
namespace Go.Proofs.Ytdkpgjhjdnfieaa
open Go.RowKit Go.Mf
set_option maxRecDepth 100000

/-- where there is no link there is nothing -/
def Diag (X : Nx) : Prop := ∀ i j : Nat, isLink X.n (i : Int) (j : Int) = false → X.q i j = [] ∧ X.off i j = false
theorem Moved.n {X X' : Nx} {a b : Int} (h : Moved X X' a b) : X'.n = X.n := by
  rcases h with rfl | ⟨_, l, o, rfl, _⟩ <;> rfl
theorem isLink_nat' {n : Nat} {a b : Int} (h : isLink n a b = true) : isLink n ((a.toNat : Nat) : Int) ((b.toNat : Nat) : Int) = true := by
  simp only [isLink, Bool.and_eq_true, decide_eq_true_eq, bne_iff_ne, ne_eq] at h ⊢
  omega
theorem Moved.diag {X X' : Nx} {a b : Int} (h : Moved X X' a b) (hd : Diag X) : Diag X' := by
  rcases h with rfl | ⟨hl, l, o, rfl, _⟩
  · exact hd
  · intro i j hij
    have hne : ¬ (i = a.toNat ∧ j = b.toNat) := fun e => by
      have := isLink_nat' hl
      rw [← e.1, ← e.2] at this
      exact absurd this (by rw [show isLink X.n (i : Int) (j : Int) = false from hij]; decide)
    have h2 := hd i j hij
    exact ⟨by simp only [Nx.set, if_neg hne]; exact h2.1, by simp only [if_neg hne]; exact h2.2⟩
theorem Moved.lens {X X' : Nx} {a b : Int} (h : Moved X X' a b) {k : Nat} (hk : ∀ i j, (X.q i j).length ≤ k) : ∀ i j, (X'.q i j).length ≤ k + 1 := by
  rcases h with rfl | ⟨hl, l, o, rfl, h1, _⟩
  · intro i j; have := hk i j; omega
  · intro i j
    by_cases e : i = a.toNat ∧ j = b.toNat
    · simp only [Nx.set, if_pos e]; have := hk a.toNat b.toNat; omega
    · simp only [Nx.set, if_neg e]; have := hk i j; omega
theorem Moved.other {X X' : Nx} {a b : Int} (h : Moved X X' a b) {c d : Int} (hne : ¬ (c = a ∧ d = b)) : X'.len c d = X.len c d ∧ X'.cutOf c d = X.cutOf c d := by
  rcases h with rfl | ⟨hl, l, o, rfl, _⟩
  · exact ⟨rfl, rfl⟩
  · unfold Nx.len Nx.cutOf
    by_cases hcd : isLink X.n c d = true
    · have hne2 : ¬ (c.toNat = a.toNat ∧ d.toNat = b.toNat) := by
        simp only [isLink, Bool.and_eq_true, decide_eq_true_eq, bne_iff_ne, ne_eq] at hl hcd
        omega
      simp only [Nx.set, if_neg hne2]
      exact ⟨trivial, trivial⟩
    · have : isLink X.n c d = false := by simpa using hcd
      simp [Nx.set, this]
theorem Moved.total {X X' : Nx} {a b : Int} (h : Moved X X' a b) : X'.total ≤ X.total + 1 ∧ X.total ≤ X'.total + 1 := by
  rcases h with rfl | ⟨hl, l, o, rfl, h1, h2⟩
  · omega
  · simp only [isLink, Bool.and_eq_true, decide_eq_true_eq, bne_iff_ne, ne_eq] at hl
    have ht := total_set X (i := a.toNat) (j := b.toNat) l (by omega) (by omega)
    have e : Nx.total { (X.set a.toNat b.toNat l) with off := fun i j => if i = a.toNat ∧ j = b.toNat then o else X.off i j } = (X.set a.toNat b.toNat l).total := rfl
    rw [e]
    omega
def lenAt (X : Nx) (k : Nat) : Nat := X.len ((k : Int) / 5) ((k : Int) % 5)
def offAt (X : Nx) (k : Nat) : Bool := X.cutOf ((k : Int) / 5) ((k : Int) % 5)
theorem total_len {X : Nx} (hn : X.n = 5) (hd : Diag X) : X.total = sumTo (lenAt X) 25 := by
  have hl : ∀ i j : Nat, X.len (i : Int) (j : Int) = (X.q i j).length := fun i j => by
    unfold Nx.len
    by_cases h : isLink X.n (i : Int) (j : Int) = true
    · rw [if_pos h]; simp
    · have h' : isLink X.n (i : Int) (j : Int) = false := by simpa using h
      rw [if_neg h, (hd i j h').1]; rfl
  have e : ∀ k : Nat, lenAt X k = (X.q (k / 5) (k % 5)).length := fun k => by
    unfold lenAt
    rw [← hl (k / 5) (k % 5)]
    simp
  unfold Nx.total
  rw [hn]
  have : sumTo (lenAt X) 25 = sumTo (fun k => (X.q (k / 5) (k % 5)).length) 25 := sumTo_congr _ (fun k _ => e k)
  rw [this]
  simp only [sumTo, Nat.reduceDiv, Nat.reduceMod]
  omega
theorem lenAt_diag {X : Nx} {k : Nat} (h : (k : Int) / 5 = (k : Int) % 5) : lenAt X k = 0 ∧ offAt X k = false := by
  unfold lenAt offAt Nx.len Nx.cutOf
  have : isLink X.n ((k : Int) / 5) ((k : Int) % 5) = false := by
    unfold isLink
    rw [h]
    simp
  simp [this]

theorem Moved.zero (n : Nat) : Diag ⟨n, fun _ _ => [], fun _ _ => false⟩ := fun _ _ _ => ⟨rfl, rfl⟩

/-- the sum of what each link gained -/
def gain (X X' : Nx) (k : Nat) : Int := (sumTo (lenAt X') k : Int) - (sumTo (lenAt X) k : Int)
theorem gain_succ (X X' : Nx) (k : Nat) : gain X X' (k + 1) = gain X X' k + lenAt X' k - lenAt X k := by
  unfold gain; rw [sumTo, sumTo]; omega
theorem gain_end {X X' : Nx} {a b : Int} (h : Moved X X' a b) (hn : X.n = 5) (hd : Diag X) : (X'.total : Int) = X.total + gain X X' 25 ∧ -1 ≤ gain X X' 25 ∧ gain X X' 25 ≤ 1 := by
  have h1 := total_len hn hd
  have h2 := total_len (h.n.trans hn) (h.diag hd)
  have h3 := h.total
  unfold gain
  rw [← h1, ← h2]
  omega
theorem lenAt_le {X : Nx} {b : Nat} (h : ∀ i j, (X.q i j).length ≤ b) (k : Nat) : lenAt X k ≤ b := by
  unfold lenAt Nx.len
  split
  · exact h _ _
  · omega
theorem gain_bound {X X' : Nx} {b b' : Nat} (h : ∀ i j, (X.q i j).length ≤ b) (h' : ∀ i j, (X'.q i j).length ≤ b') (k : Nat) : -((k * b : Nat) : Int) ≤ gain X X' k ∧ gain X X' k ≤ ((k * b' : Nat) : Int) := by
  have h1 := sumTo_le (lenAt_le h) k
  have h2 := sumTo_le (lenAt_le h') k
  unfold gain
  omega

theorem own_type {w : World} {base : Nat} {e : TypeId} {sz : Nat} {v : Value} {n : Nat} {xs : List Value} (h : w.ownsRow base e sz v n xs) {g : Nat} (hg : v.ownBlock = some g) : ∃ cur, w.heap[g]? = some (.cells cur e (0, 0)) := by
  rcases h.2 with ⟨rfl, _⟩ | ⟨g', cap, cur, rfl, _, hh, _⟩
  · simp [Value.ownBlock] at hg
  · simp only [Value.ownBlock, Option.some.injEq] at hg
    subst hg; exact ⟨cur, hh⟩
/-- a write to one row leaves a row of another type -/
theorem own_other {a b : World} {base base' : Nat} {e e' : TypeId} {sz sz' n n' : Nat} {v v' : Value} {vs vs' : List Value} (h : a.ownsRow base e sz v n vs) (h' : a.ownsRow base' e' sz' v' n' vs') (hne : e ≠ e') (hg : a.grownBy b v'.ownBlock) : b.ownsRow base e sz v n vs := by
  refine own_heap h (fun g hgo hl => hg.block g hl (fun e2 => ?_))
  obtain ⟨c1, h1⟩ := own_type h hgo
  obtain ⟨c2, h2⟩ := own_type h' e2.symm
  rw [h1] at h2
  simp at h2
  exact hne h2.2
theorem own_get {a : World} {base : Nat} {e : TypeId} {ov : Option Addr} {oc n : Nat} {vs : List Value} {p : Nat} {u : Value} (h : a.ownsRow base e 1 (.slice ov n oc) n vs) (hp : vs[p]? = some u) :
    ∃ g, ov = some ⟨g, 0, none⟩ ∧ a.cell? ⟨g, p, none⟩ = some u := by
  have hl := (List.getElem?_eq_some_iff.1 hp).1
  have hlen := h.1
  rcases h.2 with ⟨h1, h2⟩ | ⟨g, cap, cur, h1, _⟩
  · omega
  · simp only [Value.slice.injEq] at h1
    obtain ⟨rfl, _⟩ := h1
    have := h.cells (g := g) rfl p u hp
    rw [Addr.add_lit, Nat.zero_add] at this
    exact ⟨g, rfl, this⟩
def wasL (X : Nx) (k : Nat) : List Value := (List.range k).map fun q => .int .i64 (lenAt X q : Nat)
def offL (X : Nx) (k : Nat) : List Value := (List.range k).map fun q => .bool (offAt X q)
theorem wasL_succ (X : Nx) (k : Nat) : wasL X (k + 1) = wasL X k ++ [.int .i64 (lenAt X k : Nat)] := by simp [wasL, List.range_succ]
theorem offL_succ (X : Nx) (k : Nat) : offL X (k + 1) = offL X k ++ [.bool (offAt X k)] := by simp [offL, List.range_succ]
theorem wasL_get (X : Nx) {k n : Nat} (h : k < n) : (wasL X n)[k]? = some (.int .i64 (lenAt X k : Nat)) := by simp [wasL, h]
theorem offL_get (X : Nx) {k n : Nat} (h : k < n) : (offL X n)[k]? = some (.bool (offAt X k)) := by simp [offL, h]
theorem cell_new_one (w : World) (u : Value) (e : TypeId) : ∀ j v, [u][j]? = some v → (w.alloc (.cells #[u] e)).cell? ((⟨w.heap.size, 0, none⟩ : Addr).add j) = some v := fun j v hv => by
  rw [Addr.add_lit, cell_of_block (heap_alloc_new w _)]
  simpa using hv
end Go.Proofs.Ytdkpgjhjdnfieaa
