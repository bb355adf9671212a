/- Plain laws: words of a text; a sorted and compacted list is strictly ascending; strictly ascending lists with the same members are one. No program in sight. No condition. -/
import Derived.Sort.Walk0
import Derived.Lib.SlicesCompact
import Derived.Sort.EncStr
import Derived.Lib.RowBridge
set_option linter.unusedVariables false
set_option linter.unusedSimpArgs false
namespace Go.Ix
abbrev Str := List UInt8

theorem le_tot (x y : Str) : x ≤ y ∨ y ≤ x := List.le_total x y
theorem le_tr {x y z : Str} (h : x ≤ y) (k : y ≤ z) : x ≤ z := List.le_trans h k
theorem le_anti {x y : Str} (h : x ≤ y) (k : y ≤ x) : x = y := List.le_antisymm h k
theorem lt_irr (x : Str) : ¬ x < x := List.lt_irrefl x
theorem lt_tr {x y z : Str} (h : x < y) (k : y < z) : x < z := List.lt_trans h k
theorem lt_le {x y : Str} (h : x < y) : x ≤ y := fun k => lt_irr _ (lt_tr h k)
theorem lt_of {x y : Str} (h : x ≤ y) (k : x ≠ y) : x < y := by
  by_cases h' : x < y
  · exact h'
  · exact absurd (le_anti h h') k
theorem lt_tri (x y : Str) : x < y ∨ x = y ∨ y < x := by
  by_cases h : x = y
  · exact Or.inr (Or.inl h)
  · rcases le_tot x y with h1 | h1
    · exact Or.inl (lt_of h1 h)
    · exact Or.inr (Or.inr (lt_of h1 (Ne.symm h)))

/-- strictly ascending -/
def Asc (l : List Str) : Prop := l.Pairwise (· < ·)

theorem Asc.ext : ∀ {l l' : List Str}, Asc l → Asc l' → (∀ x, x ∈ l ↔ x ∈ l') → l = l'
  | [], [], _, _, _ => rfl
  | [], b :: l', _, _, h => by have := (h b).2 (by simp); simp at this
  | a :: l, [], _, _, h => by have := (h a).1 (by simp); simp at this
  | a :: l, b :: l', h1, h2, h => by
    have p1 := List.pairwise_cons.1 h1
    have p2 := List.pairwise_cons.1 h2
    have hab : a = b := by
      rcases List.mem_cons.1 ((h a).1 (by simp)) with e | e
      · exact e
      · rcases List.mem_cons.1 ((h b).2 (by simp)) with e' | e'
        · exact e'.symm
        · exact absurd (lt_tr (p1.1 b e') (p2.1 a e)) (lt_irr _)
    subst hab
    rw [Asc.ext p1.2 p2.2 (fun x => ?_)]
    constructor
    · intro hx
      rcases List.mem_cons.1 ((h x).1 (List.mem_cons_of_mem _ hx)) with e | e
      · subst e; exact absurd (p1.1 x hx) (lt_irr _)
      · exact e
    · intro hx
      rcases List.mem_cons.1 ((h x).2 (List.mem_cons_of_mem _ hx)) with e | e
      · subst e; exact absurd (p2.1 x hx) (lt_irr _)
      · exact e

theorem Asc.nodup {l : List Str} (h : Asc l) : l.Nodup := by
  unfold List.Nodup
  exact List.Pairwise.imp (by intro a b h e; subst e; exact lt_irr _ h) h

def sortS (l : List Str) : List Str := l.mergeSort fun x y => decide (x ≤ y)

theorem sortS_sorted (l : List Str) : (sortS l).Pairwise (· ≤ ·) := by
  have := List.pairwise_mergeSort (le := fun x y : Str => decide (x ≤ y)) (fun a b c h1 h2 => by simp at h1 h2 ⊢; exact le_tr h1 h2) (fun a b => by simp; exact le_tot a b) l
  exact List.Pairwise.imp (by intro a b h; simpa using h) this

theorem sortS_mem (l : List Str) (x : Str) : x ∈ sortS l ↔ x ∈ l := (List.mergeSort_perm l _).mem_iff
theorem sortS_len (l : List Str) : (sortS l).length = l.length := List.length_mergeSort l

theorem sortS_asc {l : List Str} (h : l.Nodup) : Asc (sortS l) := by
  have hn : (sortS l).Nodup := (List.mergeSort_perm l _).nodup_iff.2 h
  have := (sortS_sorted l).and hn
  exact List.Pairwise.imp (by intro a b h; exact lt_of h.1 h.2) this

theorem compact_mem {zs : List Str} {x : Str} : x ∈ Lib.compact zs ↔ x ∈ zs := by
  unfold Lib.compact Lib.compactUpTo
  constructor
  · intro h
    obtain ⟨i, hi, rfl⟩ := List.mem_map.1 h
    have hi' : i < zs.length := List.mem_range.1 (List.mem_filter.1 hi).1
    simp [getElem!_pos, hi']
  · intro h
    obtain ⟨j, hj, rfl⟩ := List.getElem_of_mem h
    clear h
    have : ∀ j (hj : j < zs.length), zs[j] ∈ ((List.range zs.length).filter (Lib.keeps zs.toArray)).map (zs.toArray[·]!) := by
      intro j
      induction j with
      | zero => intro hj; exact List.mem_map.2 ⟨0, List.mem_filter.2 ⟨List.mem_range.2 hj, by simp [Lib.keeps]⟩, by simp [getElem!_pos, hj]⟩
      | succ j ih =>
        intro hj
        by_cases e : zs[j+1] = zs[j]
        · rw [e]; exact ih (by omega)
        · refine List.mem_map.2 ⟨j+1, List.mem_filter.2 ⟨List.mem_range.2 hj, ?_⟩, by simp [getElem!_pos, hj]⟩
          simp [Lib.keeps, getElem!_pos, hj, show j < zs.length by omega, e]
    exact this j hj

theorem compact_asc {zs : List Str} (h : zs.Pairwise (· ≤ ·)) : Asc (Lib.compact zs) := by
  unfold Lib.compact Lib.compactUpTo Asc
  rw [List.pairwise_map]
  refine List.Pairwise.imp_of_mem ?_ (List.Pairwise.filter _ List.pairwise_lt_range)
  intro i j hi hj hij
  have hj' := List.mem_filter.1 hj
  have hjl := List.mem_range.1 hj'.1
  have hk := hj'.2
  simp only [Lib.keeps, decide_eq_true_eq] at hk
  have hne : zs[j] ≠ zs[j-1] := by
    rcases hk with hk | hk
    · omega
    · simpa [getElem!_pos, hjl, show j - 1 < zs.length by omega] using hk
  have hle : ∀ a b (ha : a < zs.length) (hb : b < zs.length), a ≤ b → zs[a] ≤ zs[b] := by
    intro a b ha hb hab
    rcases Nat.lt_or_eq_of_le hab with h1 | h1
    · exact List.pairwise_iff_getElem.1 h a b ha hb h1
    · subst h1; exact List.le_refl _
  show zs.toArray[i]! < zs.toArray[j]!
  rw [getElem!_pos _ _ (by simpa using (by omega : i < zs.length)), getElem!_pos _ _ (by simpa using hjl)]
  simp only [List.getElem_toArray]
  have h1 := hle i (j-1) (by omega) (by omega) (by omega)
  have h2 := hle (j-1) j (by omega) hjl (by omega)
  refine lt_of (le_tr h1 h2) (fun e => hne (le_anti ?_ h2))
  rw [← e]; exact h1

/-! ### words -/

def partB (c : UInt8) : Bool := decide (97 ≤ c.toNat ∧ c.toNat ≤ 122 ∨ 65 ≤ c.toNat ∧ c.toNat ≤ 90 ∨ 48 ≤ c.toNat ∧ c.toNat ≤ 57)
def lowB (c : UInt8) : UInt8 := if 65 ≤ c.toNat ∧ c.toNat ≤ 90 then c + 32 else c

def one (cur : Str) : List Str := if cur = [] then [] else [cur]

/-- the words of a text in their order, a word begun -/
def tok : List UInt8 → Str → List Str
  | [], cur => one cur
  | c :: l, cur => if partB c then tok l (cur ++ [lowB c]) else one cur ++ tok l []

theorem tok_run (run rest : List UInt8) : ∀ cur, (∀ c ∈ run, partB c = true) → tok (run ++ rest) cur = tok rest (cur ++ run.map lowB) := by
  induction run with
  | nil => intro cur _; simp
  | cons c run ih =>
    intro cur h
    simp only [List.cons_append, tok, h c (by simp), if_true]
    rw [ih _ (fun d hd => h d (List.mem_cons_of_mem _ hd))]
    simp

/-- one round of Words: from f to i a run, then a byte of no word or the end -/
theorem tok_round (s : List UInt8) (f i : Nat) (hfi : f ≤ i) (hi : i ≤ s.length) (hrun : ∀ c ∈ (s.take i).drop f, partB c = true) (hend : ∀ h : i < s.length, partB s[i] = false) :
    tok (s.drop f) [] = one (((s.take i).drop f).map lowB) ++ tok (s.drop (i + 1)) [] := by
  have hsplit : s.drop f = (s.take i).drop f ++ s.drop i := by
    have h0 : s.drop f = (s.take i ++ s.drop i).drop f := by rw [List.take_append_drop]
    rw [h0, List.drop_append_of_le_length (by simp; omega)]
  rw [hsplit, tok_run _ _ _ hrun, List.nil_append]
  by_cases h : i < s.length
  · rw [List.drop_eq_getElem_cons h]
    simp only [tok, hend h, Bool.false_eq_true, if_false]
  · have e1 : s.drop i = [] := List.drop_eq_nil_of_le (by omega)
    have e2 : s.drop (i + 1) = [] := List.drop_eq_nil_of_le (by omega)
    rw [e1, e2]
    simp [tok, one]

def wordsOf (s : List UInt8) : List Str := Lib.compact (sortS (tok s []))

theorem wordsOf_asc (s : List UInt8) : Asc (wordsOf s) := compact_asc (sortS_sorted _)
theorem wordsOf_mem (s : List UInt8) (x : Str) : x ∈ wordsOf s ↔ x ∈ tok s [] := by rw [wordsOf, compact_mem, sortS_mem]
theorem wordsOf_len (s : List UInt8) : (wordsOf s).length ≤ (tok s []).length := by
  unfold wordsOf
  exact Nat.le_trans (Lib.compact_length_le _) (by rw [sortS_len]; exact Nat.le_refl _)

theorem tok_len : ∀ (s : List UInt8) (cur : Str), (tok s cur).length ≤ s.length + 1
  | [], cur => by unfold tok one; split <;> simp
  | c :: l, cur => by
    unfold tok
    split
    · have := tok_len l (cur ++ [lowB c]); simp; omega
    · have := tok_len l []
      have h1 : (one cur).length ≤ 1 := by unfold one; split <;> simp
      simp; omega

/-- all words of a text together are no longer than the text -/
theorem tok_sum : ∀ (s : List UInt8) (cur : Str), ((tok s cur).map List.length).sum ≤ s.length + cur.length
  | [], cur => by unfold tok one; split <;> simp
  | c :: l, cur => by
    unfold tok
    split
    · have := tok_sum l (cur ++ [lowB c]); simp at this ⊢; omega
    · have := tok_sum l []
      have h1 : ((one cur).map List.length).sum ≤ cur.length := by unfold one; split <;> simp
      simp at this ⊢; omega
end Go.Ix
