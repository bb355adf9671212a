/- What the fixed example finds: plain laws. No condition. -/
import Derived.Test.YtokfiikpfckahaaJ
import Derived.Test.YtokfiikpfckahaaK
set_option linter.unusedVariables false
set_option linter.unusedSimpArgs false
namespace Go.Proofs.Ytokfiikpfckahaa
open Go.RowKit Go.Lib Go.Ix Go.Sort Go.Mf

abbrev sA : Str := [97]
abbrev sB : Str := [98]
abbrev sGreen : Str := [103, 114, 101, 101, 110]
abbrev sRed : Str := [114, 101, 100]
abbrev tA : Str := [114, 101, 100, 32, 103, 114, 101, 101, 110]
abbrev tB : Str := [71, 114, 101, 101, 110]

theorem hasOf_set (W : Str → Option (List Str)) (id : Str) (ws : List Str) (k i : Str) : hasOf (fun j => if j = id then some ws else W j) k i = if i = id then decide (k ∈ ws) else hasOf W k i := by
  unfold hasOf
  by_cases e : i = id <;> simp [e]
theorem hasOf_rm (W : Str → Option (List Str)) (id : Str) (k i : Str) : hasOf (fun j => if j = id then none else W j) k i = if i = id then false else hasOf W k i := by
  unfold hasOf
  by_cases e : i = id <;> simp [e]

theorem tok_A : tok tA [] = [sRed, sGreen] := by decide
theorem tok_B : tok tB [] = [sGreen] := by decide

def ex1 : Str → Option (List Str) := fun j => if j = sA then some (wordsOf tA) else none
def ex2 : Str → Option (List Str) := fun j => if j = sB then some (wordsOf tB) else ex1 j
def ex3 : Str → Option (List Str) := fun j => if j = sA then none else ex2 j

theorem mA (k : Str) : k ∈ wordsOf tA ↔ k = sRed ∨ k = sGreen := by rw [wordsOf_mem, tok_A]; simp
theorem mB (k : Str) : k ∈ wordsOf tB ↔ k = sGreen := by rw [wordsOf_mem, tok_B]; simp

theorem has2 (k i : Str) : hasOf ex2 k i = true ↔ (i = sB ∧ k = sGreen) ∨ (i = sA ∧ (k = sRed ∨ k = sGreen)) := by
  unfold ex2
  rw [hasOf_set]
  by_cases e : i = sB
  · subst e
    rw [if_pos rfl, decide_eq_true_eq, mB]
    simp
  · rw [if_neg e]
    unfold ex1
    rw [hasOf_set]
    by_cases e' : i = sA
    · subst e'
      rw [if_pos rfl, decide_eq_true_eq, mA]
      simp
    · rw [if_neg e']
      simp [hasOf, e, e']
theorem has3 (k i : Str) : hasOf ex3 k i = true ↔ i = sB ∧ k = sGreen := by
  unfold ex3
  rw [hasOf_rm]
  by_cases e : i = sA
  · subst e; simp
  · rw [if_neg e, has2]
    simp [e]

theorem found1 {l : List Str} (h : Found ex2 [sGreen] l) : l = [sA, sB] := by
  refine Asc.ext h.1 (by unfold Asc; decide) (fun i => ?_)
  rw [h.2 i]
  simp [has2]
  exact Or.comm
theorem found2 {l : List Str} (h : Found ex2 [sGreen, sRed] l) : l = [sA] := by
  refine Asc.ext h.1 (by unfold Asc; decide) (fun i => ?_)
  rw [h.2 i]
  simp [has2]
  exact Or.inr
theorem found3 {l : List Str} (h : Found ex3 [sGreen] l) : l = [sB] := by
  refine Asc.ext h.1 (by unfold Asc; decide) (fun i => ?_)
  rw [h.2 i]
  simp [has3]
theorem found4 {W : Str → Option (List Str)} {l : List Str} (h : Found W [] l) : l = [] := by
  refine Asc.ext h.1 List.Pairwise.nil (fun i => ?_)
  rw [h.2 i]
  simp
end Go.Proofs.Ytokfiikpfckahaa
