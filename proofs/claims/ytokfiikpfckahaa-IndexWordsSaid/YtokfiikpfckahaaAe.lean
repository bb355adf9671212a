/- Words joined by a byte of no word: plain. No condition. -/
import Derived.Test.YtokfiikpfckahaaAd
set_option linter.unusedVariables false
set_option linter.unusedSimpArgs false
namespace Go.Ix

/-- a word in small letters -/
def good (x : Str) : Prop := ∀ c ∈ x, partB c = true ∧ lowB c = c
theorem low_good {c : UInt8} (h : partB c = true) : partB (lowB c) = true ∧ lowB (lowB c) = lowB c := by
  unfold partB at h
  rw [decide_eq_true_eq] at h
  have hl : (lowB c).toNat = if 65 ≤ c.toNat ∧ c.toNat ≤ 90 then c.toNat + 32 else c.toNat := by
    unfold lowB
    split
    · rw [UInt8.toNat_add]
      show (c.toNat + 32) % 256 = _
      omega
    · rfl
  constructor
  · unfold partB
    rw [decide_eq_true_eq, hl]
    split <;> omega
  · generalize lowB c = d at hl
    unfold lowB
    rw [if_neg]
    rw [hl]
    split <;> omega
theorem tok_good : ∀ (s : List UInt8) (cur : Str), good cur → ∀ x ∈ tok s cur, x ≠ [] ∧ good x
  | [], cur, h, x, hx => by
    unfold tok one at hx
    split at hx
    · cases hx
    · rename_i hne
      rw [List.mem_singleton] at hx
      subst hx
      exact ⟨hne, h⟩
  | c :: l, cur, h, x, hx => by
    unfold tok at hx
    split at hx
    · rename_i hp
      refine tok_good l _ ?_ x hx
      intro d hd
      rcases List.mem_append.1 hd with h1 | h1
      · exact h d h1
      · rw [List.mem_singleton] at h1
        subst h1
        exact low_good hp
    · rcases List.mem_append.1 hx with h1 | h1
      · unfold one at h1
        split at h1
        · cases h1
        · rename_i hne
          rw [List.mem_singleton] at h1
          subst h1
          exact ⟨hne, h⟩
      · exact tok_good l [] (fun d hd => by cases hd) x h1
theorem words_good (s : List UInt8) : ∀ x ∈ wordsOf s, x ≠ [] ∧ good x := fun x hx => tok_good s [] (fun d hd => by cases hd) x ((wordsOf_mem s x).1 hx)

def joinL (c : UInt8) (ws : List Str) : List UInt8 := ws.flatMap (fun w => c :: w)
theorem joinL_nil (c : UInt8) : joinL c [] = [] := rfl
theorem joinL_snoc (c : UInt8) (ws : List Str) (w : Str) : joinL c (ws ++ [w]) = joinL c ws ++ [c] ++ w := by simp [joinL]
theorem good_low {x : Str} (h : good x) : x.map lowB = x := by
  conv => rhs; rw [← List.map_id x]
  exact List.map_congr_left (fun c hc => (h c hc).2)
theorem tok_join {c : UInt8} (hc : partB c = false) : ∀ (ws : List Str), (∀ x ∈ ws, x ≠ [] ∧ good x) → ∀ cur, tok (joinL c ws) cur = one cur ++ ws
  | [], _, cur => by simp [joinL, tok]
  | x :: ws, h, cur => by
    have hx := h x (by simp)
    have ih := tok_join hc ws (fun y hy => h y (List.mem_cons_of_mem _ hy)) x
    have e : joinL c (x :: ws) = c :: (x ++ joinL c ws) := by simp [joinL]
    rw [e]
    unfold tok
    simp only [hc, Bool.false_eq_true, if_false]
    rw [tok_run x (joinL c ws) [] (fun d hd => (hx.2 d hd).1), List.nil_append, good_low hx.2, ih]
    simp [one, hx.1]
theorem words_join {c : UInt8} (hc : partB c = false) (s : List UInt8) : wordsOf (joinL c (wordsOf s)) = wordsOf s := by
  refine Asc.ext (wordsOf_asc _) (wordsOf_asc s) (fun x => ?_)
  rw [wordsOf_mem, tok_join hc _ (words_good s)]
  simp [one]

theorem sum_sub {l l' : List Str} (h : l.Sublist l') : (l.map List.length).sum ≤ (l'.map List.length).sum := by
  induction h with
  | slnil => exact Nat.le_refl _
  | cons a _ ih => simp; omega
  | cons_cons a _ ih => simp; omega
theorem compact_sub (zs : List Str) : (Lib.compact zs).Sublist zs := by
  unfold Lib.compact Lib.compactUpTo
  have h : ((List.range zs.length).map fun i => zs.toArray[i]!) = zs := by
    apply List.ext_getElem
    · simp
    · intro i h1 h2
      simp [getElem!_pos, h2]
  conv => rhs; rw [← h]
  refine List.Sublist.map _ ?_
  simp
theorem sum_sort (l : List Str) : ((sortS l).map List.length).sum = (l.map List.length).sum := by
  have h : (sortS l).Perm l := List.mergeSort_perm l _
  exact (h.map _).sum_nat
theorem words_sum (s : List UInt8) : ((wordsOf s).map List.length).sum ≤ s.length := by
  unfold wordsOf
  refine Nat.le_trans (sum_sub (compact_sub _)) ?_
  rw [sum_sort]
  exact tok_sum s []
theorem join_len (c : UInt8) (ws : List Str) : (joinL c ws).length = (ws.map List.length).sum + ws.length := by
  induction ws with
  | nil => rfl
  | cons x ws ih =>
    have e : joinL c (x :: ws) = c :: (x ++ joinL c ws) := by simp [joinL]
    rw [e]
    simp [ih]
    omega
theorem join_words_len (c : UInt8) (s : List UInt8) : (joinL c (wordsOf s)).length ≤ 2 * s.length + 1 := by
  rw [join_len]
  have := words_sum s
  have := wordsOf_len s
  have := tok_len s []
  omega
theorem join_take (c : UInt8) (ws : List Str) (j : Nat) : (joinL c (ws.take j)).length ≤ (joinL c ws).length := by
  rw [join_len, join_len]
  have h1 := sum_sub (List.take_sublist j ws)
  have h2 : (ws.take j).length ≤ ws.length := by rw [List.length_take]; omega
  omega
end Go.Ix
