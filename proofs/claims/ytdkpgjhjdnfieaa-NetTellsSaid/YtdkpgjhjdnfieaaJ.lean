/- What a message in memory says, and the state of the loop of copied; no program is run. No condition. -/
import Derived.Test.YtdkpgjhjdnfieaaI
set_option linter.unusedVariables false
set_option linter.unusedSimpArgs false
namespace Go.Proofs.Ytdkpgjhjdnfieaa
open Go.RowKit Go.Mf
set_option maxRecDepth 100000

theorem ActIn.keep {w w' : World} {S S' : Nat → Prop} {cs : List Value} {A : ActD} (h : ActIn w S cs A) (hS : ∀ k, S k → k < w.heap.size → S' k) (hw : ∀ k, S k → k < w.heap.size → w'.heap[k]? = w.heap[k]?) : ActIn w' S' cs A := by
  obtain ⟨h0, h1, h2, v1, v2, h3, h4, h5, h6⟩ := h
  exact ⟨h0, h1, h2, v1, v2, h3, h4, RowsIn.keep' h5 (by omega) hS hw, RowsIn.keep' h6 (by omega) hS hw⟩

structure EntD where
  sc : List Value
  act : ActD
  nd : Nat
  dto : List Value

def EntIn (w : World) (S : Nat → Prop) (cs : List Value) (E : EntD) : Prop :=
  cs.length = 50 ∧ (∀ u ∈ cs, u.oneCell' = true) ∧ ((cs.set 11 nilS).set 17 nilS).set 44 nilS = E.sc ∧ ActIn w S ((cs.drop 2).take 20) E.act ∧ ∃ v3, cs[44]? = some v3 ∧ RowsIn w S 1 16 v3 E.nd E.dto
theorem EntIn.keep {w w' : World} {S S' : Nat → Prop} {cs : List Value} {E : EntD} (h : EntIn w S cs E) (hS : ∀ k, S k → k < w.heap.size → S' k) (hw : ∀ k, S k → k < w.heap.size → w'.heap[k]? = w.heap[k]?) : EntIn w' S' cs E := by
  obtain ⟨h0, h1, h2, h3, v3, h4, h5⟩ := h
  exact ⟨h0, h1, h2, h3.keep hS hw, v3, h4, RowsIn.keep' h5 (by omega) hS hw⟩

def EntsIn (w : World) (S : Nat → Prop) (v : Value) (L : List EntD) : Prop :=
  ∃ (a : Option Addr) (c : Nat) (css : List (List Value)), v = .slice a L.length c ∧ L.length * 576 ≤ 140737488355328 ∧ css.length = L.length ∧ (∀ (j : Nat) (cs : List Value) (E : EntD), css[j]? = some cs → L[j]? = some E → EntIn w S cs E) ∧
    (0 < L.length → ∃ b o, a = some ⟨b, o, none⟩ ∧ S b ∧ ∀ j u, css.flatten[j]? = some u → w.cell? ⟨b, o + j, none⟩ = some u)
theorem EntsIn.keep {w w' : World} {S S' : Nat → Prop} {v : Value} {L : List EntD} (h : EntsIn w S v L) (hS : ∀ k, S k → k < w.heap.size → S' k) (hw : ∀ k, S k → k < w.heap.size → w'.heap[k]? = w.heap[k]?) : EntsIn w' S' v L := by
  obtain ⟨a, c, css, h1, h2, h3, h4, h5⟩ := h
  refine ⟨a, c, css, h1, h2, h3, fun j cs E h6 h7 => (h4 j cs E h6 h7).keep hS hw, fun hn => ?_⟩
  obtain ⟨b, o, h8, h9, h10⟩ := h5 hn
  have hb : b < w.heap.size := by
    cases hc : css with
    | nil => rw [hc] at h3; simp at h3; omega
    | cons cs css' =>
      cases hL : L with
      | nil => rw [hL] at hn; simp at hn
      | cons E L' =>
        have hE := h4 0 cs E (by rw [hc]; rfl) (by rw [hL]; rfl)
        have hl := hE.1
        have := h10 0 (cs[0]'(by omega)) (by rw [hc]; simp [List.flatten_cons, List.getElem?_append, hl])
        exact World.block_lt_of_cell? _ _ this
  refine ⟨b, o, h8, hS b h9 hb, fun j u hu => ?_⟩
  rw [← h10 j u hu]
  exact World.cell?_of_block (hw b h9 hb)

structure MsgD where
  sc : List Value
  ents : List EntD
  nl : Nat
  link : List Value
def MsgIn (w : World) (S : Nat → Prop) (cs : List Value) (M : MsgD) : Prop :=
  cs.length = 34 ∧ (∀ u ∈ cs, u.oneCell' = true) ∧ (cs.set 10 nilS).set 33 nilS = M.sc ∧ ∃ v1 v2, cs[10]? = some v1 ∧ cs[33]? = some v2 ∧ EntsIn w S v1 M.ents ∧ RowsIn w S 1 16 v2 M.nl M.link
theorem MsgIn.keep {w w' : World} {S S' : Nat → Prop} {cs : List Value} {M : MsgD} (h : MsgIn w S cs M) (hS : ∀ k, S k → k < w.heap.size → S' k) (hw : ∀ k, S k → k < w.heap.size → w'.heap[k]? = w.heap[k]?) : MsgIn w' S' cs M := by
  obtain ⟨h0, h1, h2, v1, v2, h3, h4, h5, h6⟩ := h
  exact ⟨h0, h1, h2, v1, v2, h3, h4, h5.keep hS hw, RowsIn.keep' h6 (by omega) hS hw⟩

/-- as EntsIn, but all may be written, and no entry's list lies in the block of the entries -/
def EntsW (w : World) (S : Nat → Prop) (v : Value) (L : List EntD) : Prop :=
  ∃ (a : Option Addr) (c : Nat) (css : List (List Value)), v = .slice a L.length c ∧ L.length * 576 ≤ 140737488355328 ∧ css.length = L.length ∧ (∀ (j : Nat) (cs : List Value) (E : EntD), css[j]? = some cs → L[j]? = some E → EntIn w (fun q => S q ∧ Thaw w q ∧ v.ownBlock ≠ some q) cs E) ∧
    (0 < L.length → ∃ b o, a = some ⟨b, o, none⟩ ∧ (S b ∧ Thaw w b) ∧ ∀ j u, css.flatten[j]? = some u → w.cell? ⟨b, o + j, none⟩ = some u)
theorem EntsW.to {w : World} {S : Nat → Prop} {v : Value} {L : List EntD} (h : EntsW w S v L) : EntsIn w S v L := by
  obtain ⟨a, c, css, h1, h2, h3, h4, h5⟩ := h
  refine ⟨a, c, css, h1, h2, h3, fun j cs E h6 h7 => (h4 j cs E h6 h7).keep (fun _ h _ => h.1) (fun _ _ _ => rfl), fun hn => ?_⟩
  obtain ⟨b, o, h8, h9, h10⟩ := h5 hn
  exact ⟨b, o, h8, h9.1, h10⟩
theorem EntsW.keep {w w' : World} {S S' : Nat → Prop} {v : Value} {L : List EntD} (h : EntsW w S v L) (hS : ∀ k, S k → k < w.heap.size → S' k) (hw : ∀ k, S k → k < w.heap.size → w'.heap[k]? = w.heap[k]?) : EntsW w' S' v L := by
  obtain ⟨a, c, css, h1, h2, h3, h4, h5⟩ := h
  refine ⟨a, c, css, h1, h2, h3, fun j cs E h6 h7 => (h4 j cs E h6 h7).keep (fun k hk hl => ⟨hS k hk.1 hl, Thaw.of (hw k hk.1 hl) hk.2.1, hk.2.2⟩) (fun k hk hl => hw k hk.1 hl), fun hn => ?_⟩
  obtain ⟨b, o, h8, h9, h10⟩ := h5 hn
  have hb : b < w.heap.size := by
    cases hc : css with
    | nil => rw [hc] at h3; simp at h3; omega
    | cons cs css' =>
      cases hL : L with
      | nil => rw [hL] at hn; simp at hn
      | cons E L' =>
        have hE := h4 0 cs E (by rw [hc]; rfl) (by rw [hL]; rfl)
        have hl := hE.1
        have := h10 0 (cs[0]'(by omega)) (by rw [hc]; simp [List.flatten_cons, List.getElem?_append, hl])
        exact World.block_lt_of_cell? _ _ this
  refine ⟨b, o, h8, ⟨hS b h9.1 hb, Thaw.of (hw b h9.1 hb) h9.2⟩, fun j u hu => ?_⟩
  rw [← h10 j u hu]
  exact World.cell?_of_block (hw b h9.1 hb)
def MsgW (w : World) (S : Nat → Prop) (cs : List Value) (M : MsgD) : Prop :=
  cs.length = 34 ∧ (∀ u ∈ cs, u.oneCell' = true) ∧ (cs.set 10 nilS).set 33 nilS = M.sc ∧ ∃ v1 v2, cs[10]? = some v1 ∧ cs[33]? = some v2 ∧ EntsW w S v1 M.ents ∧ RowsIn w (fun q => S q ∧ Thaw w q) 1 16 v2 M.nl M.link
theorem MsgW.to {w : World} {S : Nat → Prop} {cs : List Value} {M : MsgD} (h : MsgW w S cs M) : MsgIn w S cs M := by
  obtain ⟨h0, h1, h2, v1, v2, h3, h4, h5, h6⟩ := h
  exact ⟨h0, h1, h2, v1, v2, h3, h4, h5.to, RowsIn.keep' h6 (by omega) (fun _ h _ => h.1) (fun _ _ _ => rfl)⟩
theorem MsgW.keep {w w' : World} {S S' : Nat → Prop} {cs : List Value} {M : MsgD} (h : MsgW w S cs M) (hS : ∀ k, S k → k < w.heap.size → S' k) (hw : ∀ k, S k → k < w.heap.size → w'.heap[k]? = w.heap[k]?) : MsgW w' S' cs M := by
  obtain ⟨h0, h1, h2, v1, v2, h3, h4, h5, h6⟩ := h
  exact ⟨h0, h1, h2, v1, v2, h3, h4, h5.keep hS hw, RowsIn.keep' h6 (by omega) (fun k hk hl => ⟨hS k hk.1 hl, Thaw.of (hw k hk.1 hl) hk.2⟩) (fun k hk hl => hw k hk.1 hl)⟩

theorem flat_len_n {l : List (List Value)} {m : Nat} : (∀ x ∈ l, x.length = m) → l.flatten.length = l.length * m := by
  induction l with
  | nil => intro; simp
  | cons x l ih =>
    intro h
    have h1 := h x (by simp)
    have h2 := ih (fun y hy => h y (by simp [hy]))
    simp only [List.flatten_cons, List.length_append, List.length_cons, h1, h2]
    rw [Nat.succ_mul]; omega

theorem flat_split {l : List (List Value)} {k : Nat} {c : List Value} (hk : l[k]? = some c) : l.flatten = (l.take k).flatten ++ (c ++ (l.drop (k + 1)).flatten) := by
  obtain ⟨hlt, e⟩ := List.getElem?_eq_some_iff.1 hk
  have h2 : l.drop k = c :: l.drop (k + 1) := by rw [← e]; exact List.drop_eq_getElem_cons hlt
  have e2 : l = l.take k ++ c :: l.drop (k + 1) := by rw [← h2, List.take_append_drop]
  have := congrArg List.flatten e2
  rw [List.flatten_append, List.flatten_cons] at this
  exact this

theorem flat_put {l : List (List Value)} {m k i : Nat} {c vs : List Value} (hm : ∀ x ∈ l, x.length = m) (hk : l[k]? = some c) (hi : i + vs.length ≤ m) :
    l.flatten.take (k * m + i) ++ vs ++ l.flatten.drop (k * m + i + vs.length) = (l.set k (c.take i ++ vs ++ c.drop (i + vs.length))).flatten := by
  obtain ⟨hlt, e⟩ := List.getElem?_eq_some_iff.1 hk
  have hcm : c.length = m := hm c (List.mem_of_getElem? hk)
  have ht : (l.take k).flatten.length = k * m := by
    rw [flat_len_n (m := m) (fun x hx => hm x (List.mem_of_mem_take hx)), List.length_take, Nat.min_eq_left (by omega)]
  have hs := flat_split (l := l.set k (c.take i ++ vs ++ c.drop (i + vs.length))) (k := k) (c := c.take i ++ vs ++ c.drop (i + vs.length)) (by simp [hlt])
  rw [List.take_set_of_le (Nat.le_refl _), List.drop_set_of_lt (by omega)] at hs
  rw [hs, flat_split hk]
  rw [List.take_append, ht, List.take_of_length_le (by omega), show k * m + i - k * m = i by omega, List.take_append_of_le_length (by omega)]
  rw [List.drop_append, ht, List.drop_eq_nil_of_le (by rw [ht]; omega), List.nil_append, show k * m + i + vs.length - k * m = i + vs.length by omega, List.drop_append_of_le_length (by omega)]
  simp [List.append_assoc]

theorem own_setCells {w : World} {base : Nat} {e : TypeId} {sz G n cap : Nat} {xs : List Value} (h : w.ownsRow base e sz (.slice (some ⟨G, 0, none⟩) n cap) n xs) {o : Nat} {vs : List Value} (ho : o + vs.length ≤ n * sz) :
    (w.setCells G o vs).ownsRow base e sz (.slice (some ⟨G, 0, none⟩) n cap) n (xs.take o ++ vs ++ xs.drop (o + vs.length)) := by
  obtain ⟨hl, h⟩ := h
  rcases h with ⟨h1, _⟩ | ⟨g, cap', cur, h1, h2, h3, h4, h5, h6, h7⟩
  · cases h1
  · simp only [Value.slice.injEq, Option.some.injEq, Addr.mk.injEq] at h1
    obtain ⟨⟨rfl, _⟩, _, rfl⟩ := h1
    have hle : n * sz ≤ cap * sz := Nat.mul_le_mul_right _ h4
    refine ⟨by simp; omega, .inr ⟨G, cap, putL cur o vs, rfl, h2, setCells_heap _ _ h3, h4, h5, by rw [putL_size, h6], ?_⟩⟩
    rw [putL_list _ _ _ (by omega), ← h7, List.take_append, List.take_append]
    simp only [List.length_take, List.length_append, Array.length_toList]
    rw [List.take_take, List.take_take, Nat.min_eq_right (by omega), Nat.min_eq_left (by omega), List.drop_take, List.take_of_length_le (l := vs) (by omega)]
    rw [Nat.min_eq_left (by omega)]
end Go.Proofs.Ytdkpgjhjdnfieaa
