/- One round of the loop of copied, as a fact on memory; no program is run. No condition. -/
import Derived.Test.YtdkpgjhjdnfieaaJ
set_option linter.unusedVariables false
set_option linter.unusedSimpArgs false
namespace Go.Proofs.Ytdkpgjhjdnfieaa
open Go.RowKit Go.Mf
set_option maxRecDepth 100000

def CopInv (w : World) (S : Nat → Prop) (L : List EntD) (ms1 : List Value) (G cap k : Nat) (wr : World) : Prop :=
 Below w.heap.size w wr ∧ wr.heap[w.heap.size]? = some (.cells ms1.toArray 42 (0, 0)) ∧ wr.heap[w.heap.size + 1]? = some (.cells zMsg.toArray 42 (0, 0)) ∧ ∃ css : List (List Value), css.length = L.length ∧ wr.ownsRow (w.heap.size + 2) 96 50 (.slice (some ⟨G, 0, none⟩) L.length cap) L.length css.flatten ∧
   ∀ (j : Nat) (cs : List Value) (E : EntD), css[j]? = some cs → L[j]? = some E → EntIn wr (if j < k then (fun q => w.heap.size + 2 ≤ q ∧ q ≠ G ∧ Thaw wr q) else S) cs E

theorem own_heap {w w' : World} {base : Nat} {e : TypeId} {sz : Nat} {v : Value} {n : Nat} {xs : List Value} (h : w.ownsRow base e sz v n xs) (hh : ∀ g, v.ownBlock = some g → g < w.heap.size → w'.heap[g]? = w.heap[g]?) : w'.ownsRow base e sz v n xs := by
  have hlt := h.lt
  refine ⟨h.1, ?_⟩
  rcases h.2 with ⟨rfl, h0⟩ | ⟨g', cap, cur, rfl, h1, h2, h3⟩
  · exact .inl ⟨rfl, h0⟩
  · exact .inr ⟨g', cap, cur, rfl, h1, (hh g' rfl (hlt g' rfl).2).trans h2, h3⟩

theorem flat_get {l : List (List Value)} {m k i : Nat} {c : List Value} (hm : ∀ x ∈ l, x.length = m) (hk : l[k]? = some c) (hi : i < m) : l.flatten[k * m + i]? = c[i]? := by
  obtain ⟨hlt, e⟩ := List.getElem?_eq_some_iff.1 hk
  have hcm : c.length = m := hm c (List.mem_of_getElem? hk)
  have ht : (l.take k).flatten.length = k * m := by
    rw [flat_len_n (m := m) (fun x hx => hm x (List.mem_of_mem_take hx)), List.length_take, Nat.min_eq_left (by omega)]
  rw [flat_split hk, List.getElem?_append_right (by omega), ht, show k * m + i - k * m = i by omega, List.getElem?_append_left (by omega)]

theorem own_cell {w : World} {base : Nat} {e : TypeId} {sz G n cap : Nat} {css : List (List Value)} (h : w.ownsRow base e sz (.slice (some ⟨G, 0, none⟩) n cap) n css.flatten) (hm : ∀ x ∈ css, x.length = sz) {k i : Nat} {c : List Value} {u : Value} (hk : css[k]? = some c) (hu : c[i]? = some u) :
    w.cell? ⟨G, k * sz + i, none⟩ = some u := by
  have hcm : c.length = sz := hm c (List.mem_of_getElem? hk)
  have hi : i < sz := by rw [← hcm]; exact (List.getElem?_eq_some_iff.1 hu).1
  have := h.cells (g := G) rfl (k * sz + i) u (by rw [flat_get hm hk hi]; exact hu)
  rw [Addr.add_lit] at this
  simpa using this
theorem own_frozen {w : World} {base : Nat} {e : TypeId} {sz G n cap : Nat} {xs : List Value} (h : w.ownsRow base e sz (.slice (some ⟨G, 0, none⟩) n cap) n xs) (o : Nat) : w.frozen? ⟨G, o, none⟩ = false := by
  rcases h.2 with ⟨h1, _⟩ | ⟨g, cap', cur, h1, h2, h3, _⟩
  · cases h1
  · simp only [Value.slice.injEq, Option.some.injEq, Addr.mk.injEq] at h1
    obtain ⟨⟨rfl, _⟩, _⟩ := h1
    exact frozen_of_block h3 _

theorem sc_ent {cs act' : List Value} {sc : List Value} {v3 : Value} (h0 : cs.length = 50) (h2 : ((cs.set 11 nilS).set 17 nilS).set 44 nilS = sc) (ha : act'.length = 20) (hs : (act'.set 9 nilS).set 15 nilS = ((((cs.drop 2).take 20).set 9 nilS).set 15 nilS)) :
    ((((cs.take 2 ++ act' ++ cs.drop 22).set 44 v3).set 11 nilS).set 17 nilS).set 44 nilS = sc := by
  rw [← h2]
  apply List.ext_getElem
  · simp; omega
  · intro i q1 q2
    simp only [List.length_set] at q2
    simp only [List.getElem_set]
    by_cases e1 : 44 = i
    · simp [e1]
    · by_cases e2 : 17 = i
      · simp [e2]
      · by_cases e3 : 11 = i
        · simp [e3]
        · simp only [if_neg e1, if_neg e2, if_neg e3]
          by_cases i1 : i < 2
          · rw [List.getElem_append_left (by simp; omega), List.getElem_append_left (by simp; omega)]; simp
          · by_cases i2 : i < 22
            · rw [List.getElem_append_left (by simp; omega), List.getElem_append_right (by simp; omega)]
              have := congrArg (fun l => l[i - 2]?) hs
              simp only [List.getElem?_set, List.length_set, ha] at this
              have n1 : ¬ 15 = i - 2 := by omega
              have n2 : ¬ 9 = i - 2 := by omega
              simp only [n1, n2, if_false] at this
              have hl : (cs.take 2).length = 2 := by simp; omega
              simp only [hl]
              rw [List.getElem?_eq_getElem (by omega), List.getElem?_eq_getElem (by simp; omega)] at this
              simp only [Option.some.injEq, List.getElem_take, List.getElem_drop] at this
              rw [this]
              congr 1
              omega
            · rw [List.getElem_append_right (by simp; omega)]
              simp
              congr 1
              omega

theorem cop_get {w : World} {S : Nat → Prop} {L : List EntD} {ms1 : List Value} {G cap k : Nat} {wr : World} (h : CopInv w S L ms1 G cap k wr) (hk : k < L.length) (hS : ∀ q, S q → q < w.heap.size) :
    ∃ (cs : List Value) (E : EntD) (v3 : Value), ActIn wr S ((cs.drop 2).take 20) E.act ∧ wr.rangeAt G (k * 50 + 2) ((cs.drop 2).take 20) ∧ (∀ q, S q → q < wr.heap.size) ∧
      ∀ w1 act', Below wr.heap.size wr w1 → ActIn w1 (fun q => wr.heap.size ≤ q ∧ q < w1.heap.size ∧ Thaw w1 q) act' E.act →
        act'.length = 20 ∧ (∀ u ∈ act', u.oneCell' = true) ∧ w1.there G (k * 50 + 2) 20 ∧ ∀ F1, F1 = w1.setCells G (k * 50 + 2) act' →
          F1.cell? ⟨G, k * 50 + 44, none⟩ = some v3 ∧ RowsIn F1 S 1 16 v3 E.nd E.dto ∧
          ∀ w2 a3 c3, Below F1.heap.size F1 w2 → w2.ownsRow F1.heap.size 9 1 (.slice a3 E.nd c3) E.nd E.dto →
            w2.cell? ⟨G, k * 50 + 44, none⟩ = some v3 ∧ w2.frozen? ⟨G, k * 50 + 44, none⟩ = false ∧ CopInv w S L ms1 G cap (k + 1) (w2.setCell ⟨G, k * 50 + 44, none⟩ (.slice a3 E.nd c3)) := by
  obtain ⟨hb, hB0, hB1, css, hcl, hown, hent⟩ := h
  obtain ⟨cs, hcs⟩ : ∃ cs, css[k]? = some cs := ⟨css[k]'(by omega), List.getElem?_eq_getElem _⟩
  obtain ⟨E, hE⟩ : ∃ E, L[k]? = some E := ⟨L[k], List.getElem?_eq_getElem _⟩
  have hEnt := hent k cs E hcs hE
  rw [if_neg (Nat.lt_irrefl k)] at hEnt
  obtain ⟨h0, h1, h2, hact, v3, h44, hrow⟩ := hEnt
  have hm : ∀ x ∈ css, x.length = 50 := fun x hx => by
    obtain ⟨j, hj, e⟩ := List.getElem_of_mem hx
    exact (hent j x (L[j]'(by omega)) (by rw [← e]; exact List.getElem?_eq_getElem _) (List.getElem?_eq_getElem _)).1
  have hG := hown.lt G rfl
  have hSw : ∀ q, S q → q < wr.heap.size := fun q hq => Nat.lt_of_lt_of_le (hS q hq) hb.size
  refine ⟨cs, E, v3, hact, ?_, hSw, ?_⟩
  · intro j u hu
    rw [List.getElem?_take] at hu
    split at hu
    · rw [List.getElem?_drop] at hu
      rw [Nat.add_assoc]
      exact own_cell hown hm hcs hu
    · cases hu
  intro w1 act' hb1 hact'
  obtain ⟨q0, q1, q2, p1, p2, q3, q4, q5, q6⟩ := hact'
  have hs1 := hb1.size
  have hown1 : w1.ownsRow (w.heap.size + 2) 96 50 (.slice (some ⟨G, 0, none⟩) L.length cap) L.length css.flatten := own_heap hown (fun g hg hlt => hb1.block _ hlt)
  have hfl : css.flatten.length = L.length * 50 := hown.1
  have hkb : k * 50 + 50 ≤ L.length * 50 := by omega
  refine ⟨q0, q1, fun j hj => ⟨?_, own_frozen hown1 _⟩, ?_⟩
  · rw [Nat.add_assoc, own_cell hown1 hm hcs (i := 2 + j) (u := cs[2 + j]'(by omega)) (List.getElem?_eq_getElem _)]; rfl
  intro F1 hF1
  obtain ⟨cs1, hcs1⟩ : ∃ cs1, cs1 = cs.take 2 ++ act' ++ cs.drop 22 := ⟨_, rfl⟩
  have hl1 : cs1.length = 50 := by rw [hcs1]; simp; omega
  have hownF := own_setCells hown1 (o := k * 50 + 2) (vs := act') (by omega)
  rw [flat_put hm hcs (by omega), q0, show 2 + 20 = 22 from rfl, ← hcs1, ← hF1] at hownF
  have hcl1 : (css.set k cs1).length = L.length := by simpa using hcl
  have hm1 : ∀ x ∈ css.set k cs1, x.length = 50 := fun x hx => by
    rcases List.mem_or_eq_of_mem_set hx with h | h
    · exact hm x h
    · rw [h, hl1]
  have hk1 : (css.set k cs1)[k]? = some cs1 := List.getElem?_set_self (by omega)
  have h441 : cs1[44]? = some v3 := by
    rw [hcs1, List.getElem?_append_right (by simp; omega), List.getElem?_drop, ← h44]
    congr 1
    simp only [List.length_append, List.length_take]; omega
  have hone := (Only.refl G w1).setCells act' (k * 50 + 2)
  rw [← hF1] at hone
  have hGB : w.heap.size + 2 ≤ G := hG.1
  have hF1s : F1.heap.size = w1.heap.size := hone.size
  refine ⟨own_cell hownF hm1 hk1 h441, RowsIn.keep' hrow (by omega) (fun _ h _ => h) (fun q hq hlt => ?_), ?_⟩
  · rw [hone.block _ (by have := hS q hq; omega), hb1.block _ hlt]
  intro w2 a3 c3 hb2 hown2
  have hs2 := hb2.size
  have hownF2 : w2.ownsRow (w.heap.size + 2) 96 50 (.slice (some ⟨G, 0, none⟩) L.length cap) L.length (css.set k cs1).flatten := own_heap hownF (fun g hg hlt => hb2.block _ hlt)
  obtain ⟨F, hF⟩ : ∃ F, F = w2.setCell ⟨G, k * 50 + 44, none⟩ (.slice a3 E.nd c3) := ⟨_, rfl⟩
  obtain ⟨v', hv'⟩ : ∃ v' : Value, v' = .slice a3 E.nd c3 := ⟨_, rfl⟩
  refine ⟨own_cell hownF2 hm1 hk1 h441, own_frozen hownF2 _, ?_⟩
  have hownX := own_setCells hownF2 (o := k * 50 + 44) (vs := [v']) (by simp only [List.length_cons, List.length_nil]; omega)
  rw [flat_put hm1 hk1 (by simp), show ([v'] : List Value).length = 1 from rfl, List.set_set] at hownX
  have hset : cs1.take 44 ++ [v'] ++ cs1.drop (44 + 1) = cs1.set 44 v' := by rw [List.set_eq_take_append_cons_drop, if_pos (by omega)]; simp
  rw [hset] at hownX
  have hFe : w2.setCells G (k * 50 + 44) [v'] = F := by rw [hF, hv']; rfl
  rw [hFe] at hownX
  rw [← hF]
  have hFb : ∀ q, q ≠ G → F.heap[q]? = w2.heap[q]? := fun q hq => by rw [hF]; exact Below.heap_setCell _ _ _ _ hq
  have hFs : F.heap.size = w2.heap.size := by rw [hF]; simp
  have old : ∀ q, q ≠ G → q < wr.heap.size → F.heap[q]? = wr.heap[q]? := fun q hq hlt => by rw [hFb q hq, hb2.block _ (by omega), hone.block _ hq, hb1.block _ hlt]
  refine ⟨⟨?_, ?_, ?_, ?_, ?_⟩, ?_, ?_, css.set k (cs1.set 44 v'), by simpa using hcl, hownX, ?_⟩
  · rw [hF]; exact (hb2.os.trans hone.os).trans (hb1.os.trans hb.os)
  · rw [hF]; exact (hb2.tape.trans hone.tape).trans (hb1.tape.trans hb.tape)
  · rw [hF]; exact (hb2.output.trans hone.output).trans (hb1.output.trans hb.output)
  · have := hb.size; omega
  · intro q hq; rw [old q (by omega) (by omega)]; exact hb.block q hq
  · rw [old _ (by omega) (by omega)]; exact hB0
  · rw [old _ (by omega) (by omega)]; exact hB1
  intro j x E' hx hE'
  by_cases e : j = k
  · subst e
    rw [List.getElem?_set_self (by omega)] at hx
    rw [hE] at hE'
    cases hx
    cases hE'
    rw [if_pos (Nat.lt_succ_self j)]
    have hactc : ((cs1.set 44 v').drop 2).take 20 = act' := by
      rw [List.drop_set, if_neg (by omega), List.take_set_of_le (by omega), hcs1, List.append_assoc, List.drop_append, List.drop_eq_nil_of_le (by simp; omega), List.nil_append]
      simp [q0, h0]
    refine ⟨by simpa using hl1, all_set (by rw [hcs1]; intro u hu; rcases List.mem_append.1 hu with hu | hu; (rcases List.mem_append.1 hu with hu | hu; exact h1 u (List.mem_of_mem_take hu); exact q1 u hu); exact h1 u (List.mem_of_mem_drop hu)) 44 (by rw [hv']; rfl), ?_, ?_, v', by simp [hl1], ?_⟩
    · rw [hcs1]; exact sc_ent h0 h2 q0 (q2.trans hact.2.2.1.symm)
    · rw [hactc]
      have ha : ActIn w1 (fun q => wr.heap.size ≤ q ∧ q < w1.heap.size ∧ Thaw w1 q) act' E.act := ⟨q0, q1, q2, p1, p2, q3, q4, q5, q6⟩
      have hqq : ∀ q, wr.heap.size ≤ q → q < w1.heap.size → F.heap[q]? = w1.heap[q]? := fun q h1 h2 => by rw [hFb q (by omega), hb2.block _ (by omega), hone.block _ (by omega)]
      exact ha.keep (fun q hq _ => ⟨by omega, by omega, Thaw.of (hqq q hq.1 hq.2.1) hq.2.2⟩) (fun q hq _ => hqq q hq.1 hq.2.1)
    · rw [hv']
      exact RowsIn.keep' (RowsIn.of_own' hrow hown2) (by omega) (fun q hq _ => ⟨by omega, by omega, Thaw.of (hFb q (by omega)) hq.2.2⟩) (fun q hq _ => hFb q (by omega))
  · rw [List.getElem?_set_ne (by omega)] at hx
    have hEj := hent j x E' hx hE'
    by_cases hjk : j < k
    · rw [if_pos hjk] at hEj
      rw [if_pos (by omega)]
      exact hEj.keep (fun q h hlt => ⟨h.1, h.2.1, Thaw.of (old q h.2.1 hlt) h.2.2⟩) (fun q hq hlt => old q hq.2.1 hlt)
    · rw [if_neg hjk] at hEj
      rw [if_neg (by omega)]
      exact hEj.keep (fun _ h _ => h) (fun q hq hlt => old q (by have := hS q hq; omega) hlt)
def MsgPost (w : World) (M : MsgD) : Ending → World → Prop := fun e w' =>
  ∃ cs', e = .returned (.agg cs'.toArray) ∧ MsgW w' (fun k => w.heap.size ≤ k ∧ k < w'.heap.size) cs' M ∧ Below w.heap.size w w'

theorem ents_rows {w : World} {S : Nat → Prop} {v : Value} {L : List EntD} (h : EntsIn w S v L) : ∃ css : List (List Value), css.length = L.length ∧ (∀ (j : Nat) (cs : List Value) (E : EntD), css[j]? = some cs → L[j]? = some E → EntIn w S cs E) ∧ RowsIn w S 50 576 v L.length css.flatten := by
  obtain ⟨a, c, css, h1, h2, h3, h4, h5⟩ := h
  have hm : ∀ x ∈ css, x.length = 50 ∧ ∀ u ∈ x, u.oneCell' = true := fun x hx => by
    obtain ⟨j, hj, e⟩ := List.getElem_of_mem hx
    have := h4 j x (L[j]'(by omega)) (by rw [← e]; exact List.getElem?_eq_getElem _) (List.getElem?_eq_getElem _)
    exact ⟨this.1, this.2.1⟩
  refine ⟨css, h3, h4, a, c, h1, by rw [flat_len_n (m := 50) (fun x hx => (hm x hx).1), h3], by omega, by omega, fun u hu => ?_, h5⟩
  obtain ⟨x, hx, hux⟩ := List.mem_flatten.1 hu
  exact (hm x hx).2 u hux

theorem cop_start {w w1 : World} {S : Nat → Prop} {L : List EntD} {ms1 : List Value} {G cap : Nat} {css : List (List Value)} (hb : Below w.heap.size w w1) (hS : ∀ q, S q → q < w.heap.size) (h0 : w1.heap[w.heap.size]? = some (.cells ms1.toArray 42 (0, 0))) (h1 : w1.heap[w.heap.size + 1]? = some (.cells zMsg.toArray 42 (0, 0)))
    (hl : css.length = L.length) (hown : w1.ownsRow (w.heap.size + 2) 96 50 (.slice (some ⟨G, 0, none⟩) L.length cap) L.length css.flatten) (he : ∀ (j : Nat) (cs : List Value) (E : EntD), css[j]? = some cs → L[j]? = some E → EntIn w S cs E) : CopInv w S L ms1 G cap 0 w1 :=
  ⟨hb, h0, h1, css, hl, hown, fun j cs E h2 h3 => by rw [if_neg (by omega)]; exact (he j cs E h2 h3).keep (fun _ h _ => h) (fun q hq _ => hb.block q (hS q hq))⟩

theorem cop_done {w wr : World} {S : Nat → Prop} {L : List EntD} {ms1 : List Value} {G cap : Nat} (h : CopInv w S L ms1 G cap L.length wr) (hL : L.length * 576 ≤ 140737488355328) : EntsW wr (fun q => w.heap.size + 2 ≤ q) (.slice (some ⟨G, 0, none⟩) L.length cap) L := by
  obtain ⟨hb, hB0, hB1, css, hcl, hown, hent⟩ := h
  have hG := hown.lt G rfl
  refine ⟨_, cap, css, rfl, hL, hcl, fun j cs E h1 h2 => ?_, fun _ => ⟨G, 0, rfl, ⟨hG.1, own_thaw hown G rfl⟩, fun j u hu => ?_⟩⟩
  · have := hent j cs E h1 h2
    rw [if_pos (List.getElem?_eq_some_iff.1 h2).1] at this
    exact this.keep (fun q h _ => ⟨h.1, h.2.2, fun e => h.2.1 (by simpa [Value.ownBlock] using e.symm)⟩) (fun _ _ _ => rfl)
  · have := hown.cells (g := G) rfl j u hu
    rw [Addr.add_lit] at this
    exact this

theorem msg_fin {w wr w4 W5 : World} {S : Nat → Prop} {cs ms1 cs' : List Value} {M : MsgD} {v' v2 : Value} {a4 : Option Addr} {c4 : Nat} (h0 : cs.length = 34) (h1 : ∀ u ∈ cs, u.oneCell' = true) (h2 : (cs.set 10 nilS).set 33 nilS = M.sc) (hv1 : v'.oneCell' = true)
    (hb : Below w.heap.size w wr) (hB1 : wr.heap[w.heap.size + 1]? = some (.cells zMsg.toArray 42 (0, 0))) (hB0 : wr.heap[w.heap.size]? = some (.cells ms1.toArray 42 (0, 0))) (hms : ms1 = cs.set 10 v') (he : EntsW wr (fun q => w.heap.size + 2 ≤ q) v' M.ents) (hr : RowsIn wr S 1 16 v2 M.nl M.link)
    (hb4 : Below wr.heap.size wr w4) (ho4 : w4.ownsRow wr.heap.size 9 1 (.slice a4 M.nl c4) M.nl M.link) (hcs : cs' = ms1.set 33 (.slice a4 M.nl c4)) (hW : W5 = w4.setCell ⟨w.heap.size, 33, none⟩ (.slice a4 M.nl c4)) :
    W5.heap[w.heap.size]? = some (.cells cs'.toArray 42 (0, 0)) ∧ cs'.length = 34 ∧ (∀ u ∈ cs', u.oneCell' = true) ∧ W5.there (w.heap.size + 1) 0 34 ∧ (W5.setCells (w.heap.size + 1) 0 cs').heap[w.heap.size + 1]? = some (.cells cs'.toArray 42 (0, 0)) ∧
      MsgPost w M (.returned (.agg cs'.toArray)) (W5.setCells (w.heap.size + 1) 0 cs') := by
  have hz : zMsg.length = 34 := rfl
  have hln : cs'.length = 34 := by rw [hcs, hms]; simpa using h0
  have hon : ∀ u ∈ cs', u.oneCell' = true := by rw [hcs, hms]; exact all_set (all_set h1 10 hv1) 33 (v := .slice a4 M.nl c4) rfl
  have hs4 := hb4.size
  have hlt1 : w.heap.size + 1 < wr.heap.size := (Array.getElem?_eq_some_iff.1 hB1).1
  have e5 : ∀ k, k ≠ w.heap.size → W5.heap[k]? = w4.heap[k]? := fun k hk => by rw [hW, Below.heap_setCell _ _ _ _ hk]
  have hsz5 : W5.heap.size = w4.heap.size := by rw [hW]; simp
  have g1 : W5.heap[w.heap.size + 1]? = some (.cells zMsg.toArray 42 (0, 0)) := by rw [e5 _ (by omega), hb4.block _ hlt1, hB1]
  have g0 : W5.heap[w.heap.size]? = some (.cells cs'.toArray 42 (0, 0)) := by
    rw [hW, hcs]
    have := setCell_block ((hb4.block _ (by omega)).trans hB0) 33 (.slice a4 M.nl c4)
    simpa using this
  have ho := (Only.refl (w.heap.size + 1) W5).setCells cs' 0
  obtain ⟨F, hF⟩ : ∃ F, F = W5.setCells (w.heap.size + 1) 0 cs' := ⟨_, rfl⟩
  have hg := setCells_heap cs' 0 g1
  rw [putL_all (by rw [hln, hz])] at hg
  rw [← hF] at ho hg ⊢
  have hth := there_block g1
  have hFs : F.heap.size = w4.heap.size := by rw [ho.size, hsz5]
  have hkeep : ∀ k, w.heap.size + 2 ≤ k → F.heap[k]? = w4.heap[k]? := fun k hk => by rw [ho.block _ (by omega), e5 _ (by omega)]
  have r1 := he.keep (w' := F) (S' := fun k => w.heap.size ≤ k ∧ k < F.heap.size) (fun k hk hl => by omega) (fun k hk hl => by rw [hkeep _ hk, hb4.block _ hl])
  have r2 := (RowsIn.of_own' hr ho4).keep (w' := F) (S' := fun k => (w.heap.size ≤ k ∧ k < F.heap.size) ∧ Thaw F k) (fun k hk => ⟨by omega, Thaw.of (by rw [hkeep _ (by omega)]) hk.2.2⟩) (fun k hk _ => by rw [hkeep _ (by omega)])
  refine ⟨g0, hln, hon, hth, hg, cs', rfl, ⟨hln, hon, ?_, v', _, ?_, ?_, r1, r2⟩, ?_⟩
  · rw [hcs, hms, ← h2]
    apply List.ext_getElem
    · simp
    · intro i q1 q2
      simp only [List.getElem_set]
      by_cases e1 : 33 = i <;> by_cases e2 : 10 = i <;> simp [e1, e2]
  · rw [hcs, hms]; simp [h0]
  · rw [hcs, hms]; simp [h0]
  · have hbw2 : Below w.heap.size w w4 := hb.trans (hb4.mono (by omega))
    refine ⟨ho.os.trans ?_, ho.tape.trans ?_, ho.output.trans ?_, by omega, fun k hk => ?_⟩
    · rw [hW]; exact hbw2.os
    · rw [hW]; exact hbw2.tape
    · rw [hW]; exact hbw2.output
    · rw [ho.block _ (by omega), e5 _ (by omega)]; exact hbw2.block _ hk
end Go.Proofs.Ytdkpgjhjdnfieaa
