/- What kind each cell of a plain type has: ints, strings, slices. No program is run. No condition. -/
import Derived.Test.YtdkpgjhjdnfieaaAd
set_option linter.unusedVariables false
set_option linter.unusedSimpArgs false
namespace Go.Proofs.Ytdkpgjhjdnfieaa
open Go.RowKit Go.Mf
set_option maxRecDepth 100000

inductive CK where
  | int (k : IntKind) | str | sl
  deriving DecidableEq
def CK.ok : CK → Value → Prop
  | .int k, u => ∃ n, u = .int k n
  | .str, u => ∃ s, u = .string s
  | .sl, u => ∃ a n c, u = .slice a n c
def All2 : List CK → List Value → Prop
  | [], cs => cs = []
  | k :: ks, cs => ∃ u r, cs = u :: r ∧ k.ok u ∧ All2 ks r
theorem All2.mk : ∀ {ks : List CK} {cs : List Value}, cs.length = ks.length → (∀ (j : Nat) (K : CK), ks[j]? = some K → ∃ u, cs[j]? = some u ∧ K.ok u) → All2 ks cs
  | [], cs, h, _ => List.length_eq_zero_iff.1 h
  | k :: ks, [], h, _ => by simp at h
  | k :: ks, c :: cs, h, hp => by
    obtain ⟨u, hu, ho⟩ := hp 0 k rfl
    simp only [List.getElem?_cons_zero, Option.some.injEq] at hu
    subst hu
    exact ⟨c, cs, rfl, ho, All2.mk (by simpa using h) (fun j K hj => by simpa using hp (j + 1) K (by simpa using hj))⟩
theorem All2.len : ∀ {ks : List CK} {cs : List Value}, All2 ks cs → cs.length = ks.length
  | [], cs, h => by subst h; rfl
  | k :: ks, cs, h => by
    obtain ⟨u, r, rfl, _, h2⟩ := h
    simp [h2.len]
theorem All2.get : ∀ {ks : List CK} {cs : List Value}, All2 ks cs → ∀ (j : Nat) (K : CK), ks[j]? = some K → ∃ u, cs[j]? = some u ∧ K.ok u
  | [], cs, h, j, K, hj => by simp at hj
  | k :: ks, cs, h, j, K, hj => by
    obtain ⟨u, r, rfl, ho, h2⟩ := h
    cases j with
    | zero => simp only [List.getElem?_cons_zero, Option.some.injEq] at hj; subst hj; exact ⟨u, rfl, ho⟩
    | succ j => simpa using h2.get j K (by simpa using hj)
/-- a slice for a slice -/
theorem All2.set {ks : List CK} {cs : List Value} (h : All2 ks cs) {i : Nat} (hi : ks[i]? = some .sl) {v : Value} (hv : CK.sl.ok v) : All2 ks (cs.set i v) :=
  All2.mk (by rw [List.length_set]; exact h.len) (fun j K hj => by
    by_cases e : i = j
    · subst e
      rw [hi] at hj
      cases hj
      obtain ⟨u, hu, _⟩ := h.get i _ hi
      have hl := (List.getElem?_eq_some_iff.1 hu).1
      exact ⟨v, by rw [List.getElem?_set_self hl], hv⟩
    · obtain ⟨u, hu, ho⟩ := h.get j K hj
      exact ⟨u, by rw [List.getElem?_set_ne e]; exact hu, ho⟩)

section
variable {H : Type} {enc : TypeId × Value → H} {w : World}
def kindAt (P : Program) : Nat → TypeId → Nat → Option CK
  | 0, _, _ => none
  | n + 1, t, j => match P.underlying t with
    | some (.int k) => if j = 0 then some (.int k) else none
    | some .string => if j = 0 then some .str else none
    | some (.slice _) => if j = 0 then some .sl else none
    | some (.struct fs) => fs.toList.findSome? fun f => if inF P j f then kindAt P n f.type (j - f.offset) else none
    | _ => none
theorem Reads.kind : ∀ {n : Nat} {t : TypeId} {cs : List Value} {j : Nat} {K : CK}, kindAt Try.prog n t j = some K → Reads enc w t cs → ∃ u, cs[j]? = some u ∧ K.ok u
  | 0, _, _, _, _, h, _ => by cases h
  | n + 1, t, cs, j, K, h, hr => by
    unfold kindAt at h
    split at h
    · rename_i k hk
      obtain ⟨q, rfl, _⟩ := hr.int hk
      split at h
      · rename_i hj; subst hj; cases h; exact ⟨_, rfl, q, rfl⟩
      · cases h
    · rename_i hk
      obtain ⟨m, x, h1, _⟩ := hr
      obtain ⟨s, rfl, _⟩ := DataW.trod_string hk h1
      split at h
      · rename_i hj; subst hj; cases h; exact ⟨_, rfl, s, rfl⟩
      · cases h
    · rename_i e hk
      split at h
      · rename_i hj; subst hj; cases h
        rcases hr.slice hk with rfl | ⟨a, len, cap, rfl, _⟩
        · exact ⟨_, rfl, _, _, _, rfl⟩
        · exact ⟨_, rfl, _, _, _, rfl⟩
      · cases h
    · rename_i fs hk
      obtain ⟨hl, hf⟩ := hr.field hk
      obtain ⟨f, hfm, hfk⟩ := List.exists_of_findSome?_eq_some h
      split at hfk
      · rename_i hin
        simp only [inF, decide_eq_true_eq] at hin
        obtain ⟨i, hi, he⟩ := List.getElem_of_mem hfm
        have hfi : fs[i]? = some f := by rw [← Array.getElem?_toList, List.getElem?_eq_getElem hi, he]
        obtain ⟨u, hu, ho⟩ := Reads.kind hfk (hf i f hfi)
        rw [List.getElem?_take, if_pos (by omega), List.getElem?_drop, show f.offset + (j - f.offset) = j by omega] at hu
        exact ⟨u, hu, ho⟩
      · cases hfk
    · cases h
def kindsB (P : Program) (n : Nat) (t : TypeId) (ks : List CK) : Bool := (List.range ks.length).all fun j => decide (kindAt P n t j = ks[j]?)
theorem Reads.kinds {n : Nat} {t : TypeId} {cs : List Value} {ks : List CK} (hk : kindsB Try.prog n t ks = true) (hc : cs.length = ks.length) (h : Reads enc w t cs) : All2 ks cs :=
  All2.mk hc (fun j K hj => by
    have := List.all_eq_true.1 hk j (List.mem_range.2 (List.getElem?_eq_some_iff.1 hj).1)
    exact h.kind ((of_decide_eq_true this).trans hj))
end
end Go.Proofs.Ytdkpgjhjdnfieaa
