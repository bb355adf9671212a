/- One round of the loop of own, as a fact on memory; no program is run. No condition. -/
import Derived.Test.YtdkpgjhjdnfieaaK
set_option linter.unusedVariables false
set_option linter.unusedSimpArgs false
namespace Go.Proofs.Ytdkpgjhjdnfieaa
open Go.RowKit Go.Mf
set_option maxRecDepth 100000

def CopI (w : World) (S : Nat → Prop) (L : List EntD) (ms1 : List Value) (G cap k : Nat) (css : List (List Value)) (wr : World) : Prop :=
  Below w.heap.size w wr ∧ wr.heap[w.heap.size]? = some (.cells ms1.toArray 42 (0, 0)) ∧ wr.heap[w.heap.size + 1]? = some (.cells zMsg.toArray 42 (0, 0)) ∧ css.length = L.length ∧ wr.ownsRow (w.heap.size + 2) 96 50 (.slice (some ⟨G, 0, none⟩) L.length cap) L.length css.flatten ∧
   ∀ (j : Nat) (cs : List Value) (E : EntD), css[j]? = some cs → L[j]? = some E → EntIn wr (if j < k then (fun q => w.heap.size + 2 ≤ q ∧ q ≠ G ∧ Thaw wr q) else S) cs E
theorem CopInv.css {w : World} {S : Nat → Prop} {L : List EntD} {ms1 : List Value} {G cap k : Nat} {wr : World} (h : CopInv w S L ms1 G cap k wr) : ∃ css, CopI w S L ms1 G cap k css wr := by
  obtain ⟨h1, h2, h3, css, h4, h5, h6⟩ := h
  exact ⟨css, h1, h2, h3, h4, h5, h6⟩
theorem CopI.inv {w : World} {S : Nat → Prop} {L : List EntD} {ms1 : List Value} {G cap k : Nat} {css : List (List Value)} {wr : World} (h : CopI w S L ms1 G cap k css wr) : CopInv w S L ms1 G cap k wr := by
  obtain ⟨h1, h2, h3, h4, h5, h6⟩ := h
  exact ⟨h1, h2, h3, css, h4, h5, h6⟩
theorem CopI.len {w : World} {S : Nat → Prop} {L : List EntD} {ms1 : List Value} {G cap k : Nat} {css : List (List Value)} {wr : World} (h : CopI w S L ms1 G cap k css wr) : ∀ x ∈ css, x.length = 50 := fun x hx => by
  obtain ⟨h1, h2, h3, h4, h5, h6⟩ := h
  obtain ⟨j, hj, e⟩ := List.getElem_of_mem hx
  exact (h6 j x (L[j]'(by omega)) (by rw [← e]; exact List.getElem?_eq_getElem _) (List.getElem?_eq_getElem _)).1
/-- the element at place k has turned, and nothing else that was there -/
theorem cop_next {w : World} {S : Nat → Prop} {L : List EntD} {ms1 : List Value} {G cap k : Nat} {css : List (List Value)} {wr F : World} {cs' : List Value} {E : EntD} (h : CopI w S L ms1 G cap k css wr) (hk : L[k]? = some E) (hS : ∀ q, S q → q < w.heap.size)
    (hos : F.os = wr.os) (htp : F.tape = wr.tape) (hou : F.output = wr.output) (hsz : wr.heap.size ≤ F.heap.size) (hF : ∀ q, q ≠ G → q < wr.heap.size → F.heap[q]? = wr.heap[q]?)
    (hown : F.ownsRow (w.heap.size + 2) 96 50 (.slice (some ⟨G, 0, none⟩) L.length cap) L.length (css.set k cs').flatten) (hE : EntIn F (fun q => w.heap.size + 2 ≤ q ∧ q ≠ G ∧ Thaw F q) cs' E) : CopI w S L ms1 G cap (k + 1) (css.set k cs') F := by
  obtain ⟨hb, hB0, hB1, hcl, hown0, hent⟩ := h
  have hkl := (List.getElem?_eq_some_iff.1 hk).1
  have hG := (hown0.lt G rfl).1
  have hb0 := hb.size
  refine ⟨⟨hos.trans hb.os, htp.trans hb.tape, hou.trans hb.output, by omega, fun q hq => (hF q (by omega) (by omega)).trans (hb.block q hq)⟩, ?_, ?_, by simpa using hcl, hown, fun j x E' hx hE' => ?_⟩
  · rw [hF _ (by omega) ((Array.getElem?_eq_some_iff.1 hB0).1)]; exact hB0
  · rw [hF _ (by omega) ((Array.getElem?_eq_some_iff.1 hB1).1)]; exact hB1
  · by_cases e : j = k
    · subst e
      rw [List.getElem?_set_self (by omega)] at hx
      rw [hk] at hE'
      cases hx
      cases hE'
      rw [if_pos (Nat.lt_succ_self j)]
      exact hE
    · rw [List.getElem?_set_ne (by omega)] at hx
      have hEj := hent j x E' hx hE'
      by_cases hjk : j < k
      · rw [if_pos hjk] at hEj
        rw [if_pos (by omega)]
        exact hEj.keep (fun q h hlt => ⟨h.1, h.2.1, Thaw.of (hF q h.2.1 hlt) h.2.2⟩) (fun q hq hlt => hF q hq.2.1 hlt)
      · rw [if_neg hjk] at hEj
        rw [if_neg (by omega)]
        exact hEj.keep (fun _ h _ => h) (fun q hq hlt => hF q (by have := hS q hq; omega) hlt)
/-- one cell of the element at place k is written -/
theorem own_put {b : World} {B G n cap k i : Nat} {css : List (List Value)} {c : List Value} {v' : Value} (hown : b.ownsRow B 96 50 (.slice (some ⟨G, 0, none⟩) n cap) n css.flatten) (hn : css.length = n) (hm : ∀ x ∈ css, x.length = 50) (hk : css[k]? = some c) (hi : i < 50) :
    (b.setCell ⟨G, k * 50 + i, none⟩ v').ownsRow B 96 50 (.slice (some ⟨G, 0, none⟩) n cap) n (css.set k (c.set i v')).flatten ∧ (∀ q, q ≠ G → (b.setCell ⟨G, k * 50 + i, none⟩ v').heap[q]? = b.heap[q]?) ∧ (b.setCell ⟨G, k * 50 + i, none⟩ v').heap.size = b.heap.size := by
  have hkl := (List.getElem?_eq_some_iff.1 hk).1
  have hcm := hm c (List.mem_of_getElem? hk)
  have hX := own_setCells hown (o := k * 50 + i) (vs := [v']) (by simp only [List.length_cons, List.length_nil]; omega)
  rw [flat_put hm hk (by simp; omega), show ([v'] : List Value).length = 1 from rfl] at hX
  have hset : c.take i ++ [v'] ++ c.drop (i + 1) = c.set i v' := by rw [List.set_eq_take_append_cons_drop, if_pos (by omega)]; simp
  rw [hset] at hX
  exact ⟨hX, fun q hq => Below.heap_setCell _ _ _ _ hq, by simp⟩
/-- an element whose three lists are other lists of the same content -/
theorem ent_own {w F : World} {S S' : Nat → Prop} {c : List Value} {E : EntD} {r1 r2 r3 : Value} (h : EntIn w S c E) (h1 : RowsIn F S' 1 16 r1 E.act.nt E.act.tos) (h2 : RowsIn F S' 5 64 r2 E.act.nw E.act.wr) (h3 : RowsIn F S' 1 16 r3 E.nd E.dto) :
    EntIn F S' (((c.set 11 r1).set 17 r2).set 44 r3) E := by
  obtain ⟨l0, o0, m0, ⟨al, ao, am, v1, v2, p1, p2, _, _⟩, v3, p3, _⟩ := h
  have one : ∀ {sz bt n : Nat} {v : Value} {xs : List Value}, RowsIn F S' sz bt v n xs → v.oneCell' = true := fun h => by obtain ⟨a, c, rfl, _⟩ := h; rfl
  have hl : (((c.set 11 r1).set 17 r2).set 44 r3).length = 50 := by simpa using l0
  have hch : ((((c.set 11 r1).set 17 r2).set 44 r3).drop 2).take 20 = (((c.drop 2).take 20).set 9 r1).set 15 r2 := by
    rw [List.drop_set, if_neg (by omega), List.take_set_of_le (by omega), List.drop_set, if_neg (by omega), List.drop_set, if_neg (by omega), List.take_set, List.take_set]
  refine ⟨hl, all_set (all_set (all_set o0 11 (one h1)) 17 (one h2)) 44 (one h3), ?_, ?_, r3, by rw [List.getElem?_set_self (by simp; omega)], h3⟩
  · rw [← m0]
    apply List.ext_getElem
    · simp
    · intro i q1 q2
      simp only [List.getElem_set]
      by_cases e1 : 44 = i
      · simp [e1]
      · by_cases e2 : 17 = i
        · simp [e2]
        · by_cases e3 : 11 = i
          · simp [e3]
          · simp [e1, e2, e3]
  · rw [hch]
    refine ⟨by simpa using al, all_set (all_set ao 9 (one h1)) 15 (one h2), ?_, r1, r2, ?_, ?_, h1, h2⟩
    · rw [← am]
      apply List.ext_getElem
      · simp
      · intro i q1 q2
        simp only [List.getElem_set]
        by_cases e1 : 15 = i
        · simp [e1]
        · by_cases e2 : 9 = i
          · simp [e2]
          · simp [e1, e2]
    · rw [List.getElem?_set_ne (by omega), List.getElem?_set_self (by omega)]
    · rw [List.getElem?_set_self (by rw [List.length_set]; omega)]

/-- in the round k of own: world F, in which the element at place k reads as c1, and nothing that was there in wr has turned beside it -/
def OwnSt (B G n cap k : Nat) (css : List (List Value)) (wr F : World) (c1 : List Value) : Prop :=
  (F.os = wr.os ∧ F.tape = wr.tape ∧ F.output = wr.output ∧ wr.heap.size ≤ F.heap.size) ∧ (∀ q, q ≠ G → q < wr.heap.size → F.heap[q]? = wr.heap[q]?) ∧ c1.length = 50 ∧ G < wr.heap.size ∧ k < n ∧ css.length = n ∧ (∀ x ∈ css, x.length = 50) ∧
    F.ownsRow B 96 50 (.slice (some ⟨G, 0, none⟩) n cap) n (css.set k c1).flatten
theorem own_st0 {B G n cap k : Nat} {css : List (List Value)} {wr : World} {c : List Value} (hown : wr.ownsRow B 96 50 (.slice (some ⟨G, 0, none⟩) n cap) n css.flatten) (hn : css.length = n) (hm : ∀ x ∈ css, x.length = 50) (hk : css[k]? = some c) : OwnSt B G n cap k css wr wr c := by
  have hkl := (List.getElem?_eq_some_iff.1 hk).1
  have hset : css.set k c = css := by
    obtain ⟨h1, h2⟩ := List.getElem?_eq_some_iff.1 hk
    rw [← h2]; exact List.set_getElem_self _
  exact ⟨⟨rfl, rfl, rfl, Nat.le_refl _⟩, fun _ _ _ => rfl, hm c (List.mem_of_getElem? hk), (hown.lt G rfl).2, by omega, hn, hm, by rw [hset]; exact hown⟩
theorem OwnSt.lens {B G n cap k : Nat} {css : List (List Value)} {wr F : World} {c1 : List Value} (h : OwnSt B G n cap k css wr F c1) : ∀ x ∈ css.set k c1, x.length = 50 := fun x hx => by
  obtain ⟨_, _, h3, _, _, _, h7, _⟩ := h
  rcases List.mem_or_eq_of_mem_set hx with h | h
  · exact h7 x h
  · rw [h]; exact h3
/-- a cell of the element at place k, in a later world -/
theorem OwnSt.cell {B G n cap k i : Nat} {css : List (List Value)} {wr F b : World} {c1 : List Value} {u : Value} (h : OwnSt B G n cap k css wr F c1) (hb : Below F.heap.size F b) (hu : c1[i]? = some u) : b.cell? ⟨G, k * 50 + i, none⟩ = some u ∧ b.frozen? ⟨G, k * 50 + i, none⟩ = false := by
  have hl := h.lens
  obtain ⟨h1, h2, h3, h4, h5, h6, h7, h8⟩ := h
  have h9 := own_heap h8 (w' := b) (fun g _ hlt => hb.block g hlt)
  exact ⟨own_cell h9 hl (List.getElem?_set_self (by omega)) hu, own_frozen h9 _⟩
theorem OwnSt.step {B G n cap k i : Nat} {css : List (List Value)} {wr F b : World} {c1 : List Value} {v : Value} (h : OwnSt B G n cap k css wr F c1) (hb : Below F.heap.size F b) (hi : i < 50) : OwnSt B G n cap k css wr (b.setCell ⟨G, k * 50 + i, none⟩ v) (c1.set i v) := by
  have hl := h.lens
  obtain ⟨⟨h0, h1, h2, h3⟩, h4, h5, h6, h7, h8, h9, h10⟩ := h
  have h11 := own_heap h10 (w' := b) (fun g _ hlt => hb.block g hlt)
  have hs := hb.size
  obtain ⟨p1, p2, p3⟩ := own_put (v' := v) h11 (by simpa using h8) hl (List.getElem?_set_self (by omega)) hi
  rw [List.set_set] at p1
  refine ⟨⟨?_, ?_, ?_, by rw [p3]; omega⟩, fun q hq hlt => ?_, by simpa using h5, h6, h7, h8, h9, p1⟩
  · exact hb.os.trans h0
  · exact hb.tape.trans h1
  · exact hb.output.trans h2
  · rw [p2 q hq, hb.block q (by omega), h4 q hq hlt]
/-- the rows of a new list, behind the store of its slice -/
theorem rows_put {F b : World} {e : TypeId} {S : Nat → Prop} {sz bt G o m : Nat} {r v0 : Value} {xs : List Value} (hz : 0 < sz) (h0 : RowsIn F S sz bt v0 m xs) (hb : Below F.heap.size F b) (ho : b.ownsRow F.heap.size e sz r m xs) (hG : G < F.heap.size) : RowsIn (b.setCell ⟨G, o, none⟩ r) (fun q => F.heap.size ≤ q ∧ q < (b.setCell ⟨G, o, none⟩ r).heap.size ∧ Thaw (b.setCell ⟨G, o, none⟩ r) q) sz bt r m xs := by
  have e1 : ∀ q, F.heap.size ≤ q → (b.setCell ⟨G, o, none⟩ r).heap[q]? = b.heap[q]? := fun q hq => Below.heap_setCell _ _ _ _ (show q ≠ G by omega)
  exact RowsIn.keep' (RowsIn.of_own' h0 ho) hz (fun q hq _ => ⟨hq.1, by simpa using hq.2.1, Thaw.of (e1 q hq.1) hq.2.2⟩) (fun q hq _ => e1 q hq.1)
/-- rows that stand in new blocks stay -/
theorem OwnSt.rows {B G n cap k i : Nat} {css : List (List Value)} {wr F b : World} {c1 : List Value} {v r : Value} {sz bt m : Nat} {xs : List Value} (h : OwnSt B G n cap k css wr F c1) (hb : Below F.heap.size F b) (hz : 0 < sz) (hr : RowsIn F (fun q => wr.heap.size ≤ q ∧ q < F.heap.size ∧ Thaw F q) sz bt r m xs) : RowsIn (b.setCell ⟨G, k * 50 + i, none⟩ v) (fun q => wr.heap.size ≤ q ∧ q < (b.setCell ⟨G, k * 50 + i, none⟩ v).heap.size ∧ Thaw (b.setCell ⟨G, k * 50 + i, none⟩ v) q) sz bt r m xs := by
  obtain ⟨_, _, _, h6, _⟩ := h
  have hs := hb.size
  have e1 : ∀ q, wr.heap.size ≤ q → q < F.heap.size → (b.setCell ⟨G, k * 50 + i, none⟩ v).heap[q]? = F.heap[q]? := fun q h1 h2 => by rw [Below.heap_setCell _ _ _ _ (show q ≠ G by omega)]; exact hb.block q h2
  exact RowsIn.keep' hr hz (fun q hq _ => ⟨hq.1, by simp; omega, Thaw.of (e1 q hq.1 hq.2.1) hq.2.2⟩) (fun q hq _ => e1 q hq.1 hq.2.1)
theorem OwnSt.old {B G n cap k : Nat} {css : List (List Value)} {wr F : World} {c1 : List Value} {S : Nat → Prop} {sz bt m : Nat} {v : Value} {xs : List Value} (h : OwnSt B G n cap k css wr F c1) (hr : RowsIn wr S sz bt v m xs) (hS : ∀ q, S q → q ≠ G) : RowsIn F S sz bt v m xs :=
  hr.keep (fun _ h => h) (fun q hq hlt => h.2.1 q (hS q hq) hlt)
theorem ent_get {w : World} {S : Nat → Prop} {c : List Value} {E : EntD} (h : EntIn w S c E) : ∃ v1 v2 v3, c[11]? = some v1 ∧ c[17]? = some v2 ∧ c[44]? = some v3 ∧ RowsIn w S 1 16 v1 E.act.nt E.act.tos ∧ RowsIn w S 5 64 v2 E.act.nw E.act.wr ∧ RowsIn w S 1 16 v3 E.nd E.dto := by
  obtain ⟨l0, o0, m0, ⟨al, ao, am, v1, v2, p1, p2, q1, q2⟩, v3, p3, q3⟩ := h
  refine ⟨v1, v2, v3, ?_, ?_, p3, q1, q2, q3⟩
  · rw [List.getElem?_take_of_lt (by omega), List.getElem?_drop] at p1; exact p1
  · rw [List.getElem?_take_of_lt (by omega), List.getElem?_drop] at p2; exact p2
/-- a slice that reads as rows is nil and empty, or its cells stand in memory -/
theorem rows_own {F : World} {S : Nat → Prop} {sz bt n : Nat} {v : Value} {xs : List Value} (h : RowsIn F S sz bt v n xs) (hz : 0 < sz) (e : TypeId) :
    (∃ c, v = .slice none 0 c ∧ n = 0 ∧ xs = []) ∨ ∃ a c, v = .slice (some a) n c ∧ ∀ b, Below F.heap.size F b → ∀ j u, xs[j]? = some u → b.cell? (a.add j) = some u := by
  obtain ⟨a', c', h1, h2, h3, h4, h5, h6⟩ := h
  subst h1
  have h7 : xs ≠ [] → 0 < n := fun hx => by
    rcases Nat.eq_zero_or_pos n with e | e
    · rw [e] at h2; exact absurd (List.length_eq_zero_iff.1 (h2.trans (Nat.zero_mul _))) hx
    · exact e
  cases a' with
  | none =>
    have : n = 0 := by
      rcases Nat.eq_zero_or_pos n with e | e
      · exact e
      · obtain ⟨b, o, e, _⟩ := h6 e; simp at e
    subst this
    exact .inl ⟨c', rfl, rfl, List.length_eq_zero_iff.1 (by omega)⟩
  | some a =>
    refine .inr ⟨a, c', rfl, fun b hb j u hu => ?_⟩
    obtain ⟨g, o, e, _, h9⟩ := h6 (h7 (fun e => by rw [e] at hu; simp at hu))
    simp only [Option.some.injEq] at e
    subst e
    rw [Addr.add_lit]
    exact cell_later hb (h9 j u hu)
/-- the three lists of the element at place k are copied -/
theorem own_round {w : World} {S : Nat → Prop} {L : List EntD} {ms1 : List Value} {G cap k : Nat} {css : List (List Value)} {wr F : World} {c : List Value} {E : EntD} {r1 r2 r3 : Value} (h : CopI w S L ms1 G cap k css wr) (hE : L[k]? = some E) (hc : css[k]? = some c) (hS : ∀ q, S q → q < w.heap.size)
    (hst : OwnSt (w.heap.size + 2) G L.length cap k css wr F (((c.set 11 r1).set 17 r2).set 44 r3)) (h1 : RowsIn F (fun q => wr.heap.size ≤ q ∧ q < F.heap.size ∧ Thaw F q) 1 16 r1 E.act.nt E.act.tos) (h2 : RowsIn F (fun q => wr.heap.size ≤ q ∧ q < F.heap.size ∧ Thaw F q) 5 64 r2 E.act.nw E.act.wr)
    (h3 : RowsIn F (fun q => wr.heap.size ≤ q ∧ q < F.heap.size ∧ Thaw F q) 1 16 r3 E.nd E.dto) : CopInv w S L ms1 G cap (k + 1) F := by
  have hG := (h.2.2.2.2.1.lt G rfl)
  have hbs := h.1.size
  have hent := h.2.2.2.2.2 k c E hc hE
  obtain ⟨⟨q0, q1, q2, q3⟩, q4, q5, q6, q7, q8, q9, q10⟩ := hst
  refine (cop_next h hE hS q0 q1 q2 q3 q4 q10 ?_).inv
  have hup : ∀ q, (wr.heap.size ≤ q ∧ q < F.heap.size ∧ Thaw F q) → (w.heap.size + 2 ≤ q ∧ q ≠ G ∧ Thaw F q) := fun q hq => ⟨by omega, by omega, hq.2.2⟩
  exact ent_own hent (h1.keep hup (fun _ _ _ => rfl)) (h2.keep hup (fun _ _ _ => rfl)) (h3.keep hup (fun _ _ _ => rfl))
end Go.Proofs.Ytdkpgjhjdnfieaa
