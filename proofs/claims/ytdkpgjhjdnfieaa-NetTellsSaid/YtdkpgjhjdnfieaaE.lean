/- The contracts of Len, Off and Cut. Condition: the net lies in memory as stated. -/
import Derived.Test.YtdkpgjhjdnfieaaD
set_option linter.unusedVariables false
set_option linter.unusedSimpArgs false
namespace Go.Proofs.Ytdkpgjhjdnfieaa
open Go.RowKit Go.Mf

theorem ownsRow_shape {w : World} {base : Nat} {e : TypeId} {size : Nat} {v : Value} {n : Nat} {xs : List Value} (h : w.ownsRow base e size v n xs) : ∃ a c, v = .slice a n c := by
  rcases h.2 with ⟨rfl, rfl⟩ | ⟨g, cap, cur, rfl, _⟩
  · exact ⟨_, _, rfl⟩
  · exact ⟨_, _, rfl⟩

theorem link_cells {w : World} {S : Nat → Prop} {x rb : Nat} {rr : Nat → Nat} {qv : Nat → Nat → Value} {X : Nx} (h : NetIn w S x rb rr qv X) {i j : Nat} (hi : i < X.n) (hj : j < X.n) :
    ∃ a c, qv i j = .slice a (X.q i j).length c ∧ w.cell? ⟨rr i, j * 2, none⟩ = some (.slice a (X.q i j).length c) ∧ w.cell? ⟨rr i, j * 2 + 1, none⟩ = some (.bool (X.off i j)) := by
  obtain ⟨a, c, e⟩ := ownsRow_shape (h.hq i j hi hj)
  have hg := link_get (n := X.n) (qv i) (X.off i) hj
  refine ⟨a, c, e, ?_, ?_⟩
  · rw [cell_of_block (h.hl i hi), Nat.mul_comm, hg.1, e]
  · rw [cell_of_block (h.hl i hi), Nat.mul_comm, hg.2]

def Nx.len (X : Nx) (a b : Int) : Nat := if isLink X.n a b = true then (X.q a.toNat b.toNat).length else 0
def Nx.cutOf (X : Nx) (a b : Int) : Bool := isLink X.n a b && X.off a.toNat b.toNat

theorem isLink_nat {n : Nat} {a b : Int} (h : isLink n a b = true) : ∃ i j : Nat, a = i ∧ b = j ∧ i < n ∧ j < n ∧ i ≠ j := by
  simp only [isLink, Bool.and_eq_true, decide_eq_true_eq, bne_iff_ne, ne_eq] at h
  exact ⟨a.toNat, b.toNat, by omega, by omega, by omega, by omega, by omega⟩

set_option maxRecDepth 100000 in
theorem len_any {w : World} {S : Nat → Prop} {x rb : Nat} {rr : Nat → Nat} {qv : Nat → Nat → Value} {X : Nx} (h : NetIn w S x rb rr qv X) (a b : Int) :
    Calls Try.prog 24 #[.pointer (some ⟨x, 0, none⟩), .int .i64 a, .int .i64 b] w fun e w' => e = .returned (.int .i64 (X.len a b : Nat)) ∧ w' = w := by
  have hlk := link_any h a b
  unfold Nx.len
  by_cases hl : isLink X.n a b = true
  · obtain ⟨i, j, rfl, rfl, hi, hj, hne⟩ := isLink_nat hl
    obtain ⟨q, c, e, c1, c2⟩ := link_cells h hi hj
    rw [if_pos hl] at hlk ⊢
    simp only [Int.toNat_natCast] at hlk ⊢
    have HLK := Lib.hid hlk
    clear hlk h e hl
    go_enter Try.func24, Try.ntmps24
    go_wp2_with fail
    refine HLK.out.mono ?_
    rintro e w' ⟨rfl, rfl⟩
    go_wp2
    go_ret
    exact ⟨rfl, rfl⟩
  · rw [if_neg hl] at hlk ⊢
    have HLK := Lib.hid hlk
    clear hlk h hl
    go_enter Try.func24, Try.ntmps24
    go_wp2_with fail
    refine HLK.out.mono ?_
    rintro e w' ⟨rfl, rfl⟩
    go_wp2
    go_ret
    exact ⟨rfl, rfl⟩

set_option maxRecDepth 100000 in
theorem off_any {w : World} {S : Nat → Prop} {x rb : Nat} {rr : Nat → Nat} {qv : Nat → Nat → Value} {X : Nx} (h : NetIn w S x rb rr qv X) (a b : Int) :
    Calls Try.prog 26 #[.pointer (some ⟨x, 0, none⟩), .int .i64 a, .int .i64 b] w fun e w' => e = .returned (.bool (X.cutOf a b)) ∧ w' = w := by
  have hlk := link_any h a b
  unfold Nx.cutOf
  by_cases hl : isLink X.n a b = true
  · obtain ⟨i, j, rfl, rfl, hi, hj, hne⟩ := isLink_nat hl
    obtain ⟨q, c, e, c1, c2⟩ := link_cells h hi hj
    rw [if_pos hl] at hlk
    rw [hl, Bool.true_and]
    simp only [Int.toNat_natCast] at hlk ⊢
    have HLK := Lib.hid hlk
    clear hlk h e hl
    go_enter Try.func26, Try.ntmps26
    go_wp2_with fail
    refine HLK.out.mono ?_
    rintro e w' ⟨rfl, rfl⟩
    go_wp2
    go_ret
    exact ⟨rfl, rfl⟩
  · rw [if_neg hl] at hlk
    have hl' : isLink X.n a b = false := by simpa using hl
    rw [hl', Bool.false_and]
    have HLK := Lib.hid hlk
    clear hlk h hl hl'
    go_enter Try.func26, Try.ntmps26
    go_wp2_with fail
    refine HLK.out.mono ?_
    rintro e w' ⟨rfl, rfl⟩
    go_wp2
    go_ret
    exact ⟨rfl, rfl⟩
end Go.Proofs.Ytdkpgjhjdnfieaa
