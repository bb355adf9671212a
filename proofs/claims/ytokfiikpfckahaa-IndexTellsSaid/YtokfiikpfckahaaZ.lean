/- What IndexMeets rests on: plain laws and contracts. Condition: the index and the lists lie as stated. -/
import Derived.Test.YtokfiikpfckahaaX
import Derived.Laws.Cover1
set_option linter.unusedVariables false
set_option linter.unusedSimpArgs false
namespace Go.Ix
theorem asc_filter {l : List Str} (h : Asc l) (p : Str → Bool) : Asc (l.filter p) := List.Pairwise.filter _ h
/-- how many of the first j pass -/
def passed (p : Str → Bool) (l : List Str) (j : Nat) : Nat := ((l.take j).filter p).length
theorem passed_zero (p : Str → Bool) (l : List Str) : passed p l 0 = 0 := rfl
theorem passed_end (p : Str → Bool) (l : List Str) : passed p l l.length = (l.filter p).length := by
  unfold passed; rw [List.take_length]
theorem passed_yes (p : Str → Bool) (l : List Str) {j : Nat} (hj : j < l.length) (h : p l[j] = true) : passed p l (j + 1) = passed p l j + 1 := by
  unfold passed
  rw [List.take_succ_eq_append_getElem hj, List.filter_append, List.length_append]
  simp [h]
theorem passed_no (p : Str → Bool) (l : List Str) {j : Nat} (hj : j < l.length) (h : p l[j] = false) : passed p l (j + 1) = passed p l j := by
  unfold passed
  rw [List.take_succ_eq_append_getElem hj, List.filter_append, List.length_append]
  simp [h]
theorem passed_here (p : Str → Bool) (l : List Str) {j : Nat} (hj : j < l.length) (h : p l[j] = true) : ∃ hk : passed p l j < (l.filter p).length, (l.filter p)[passed p l j] = l[j] := by
  have e : l.filter p = (l.take j).filter p ++ l[j] :: (l.drop (j + 1)).filter p := by
    conv => lhs; rw [← List.take_append_drop j l, List.filter_append, List.drop_eq_getElem_cons hj, List.filter_cons_of_pos h]
  have hk : passed p l j < (l.filter p).length := by
    rw [e, List.length_append]
    unfold passed
    simp
  refine ⟨hk, ?_⟩
  have : (l.filter p)[passed p l j]? = some l[j] := by
    rw [e]
    unfold passed
    rw [List.getElem?_append_right (Nat.le_refl _)]
    simp
  rw [List.getElem?_eq_getElem hk] at this
  exact Option.some.inj this
theorem asc_step {l : List Str} (h : Asc l) {j : Nat} (hj : j + 1 < l.length) : l[j] < l[j + 1] :=
  List.pairwise_iff_getElem.1 h j (j + 1) (by omega) hj (Nat.lt_succ_self _)
end Go.Ix
namespace Go.Proofs.Ytokfiikpfckahaa
open Go.RowKit Go.Lib Go.Ix Go.Sort Go.Mf

theorem found_both {W : Str → Option (List Str)} {vs ws l1 l2 l3 : List Str} (hv : vs ≠ []) (hw : ws ≠ []) (h1 : Found W vs l1) (h2 : Found W ws l2) (h3 : Found W (vs ++ ws) l3) : l3 = l1.filter (fun i => decide (i ∈ l2)) := by
  refine Asc.ext h3.1 (asc_filter h1.1 _) (fun i => ?_)
  rw [h3.2 i, List.mem_filter, h1.2 i, decide_eq_true_eq, h2.2 i]
  constructor
  · rintro ⟨_, h⟩
    exact ⟨⟨hv, fun k hk => h k (List.mem_append_left _ hk)⟩, ⟨hw, fun k hk => h k (List.mem_append_right _ hk)⟩⟩
  · rintro ⟨⟨_, h⟩, ⟨_, h'⟩⟩
    refine ⟨by simp [hv], fun k hk => ?_⟩
    rcases List.mem_append.1 hk with h4 | h4
    · exact h k h4
    · exact h' k h4

/-- an index in use behind w -/
def MSt (w wr : World) (x : Nat) (W : Str → Option (List Str)) : Prop := (∃ T, IxAt wr T x W) ∧ Below w.heap.size w wr
theorem MSt.up {w wr w' : World} {x : Nat} {W : Str → Option (List Str)} (h : MSt w wr x W) (hb : Below wr.heap.size wr w') : MSt w w' x W := by
  obtain ⟨⟨T, h1⟩, h3⟩ := h
  exact ⟨⟨T, h1.up hb⟩, h3.trans (hb.mono h3.size)⟩

theorem ms_set {w wr : World} {s x : Nat} {v : Value} {l : List StepD} (h : x = s + 2 ∧ w.heap.size ≤ s ∧ IxNew wr s ∧ Below w.heap.size w wr) (hl : StepsAt w v l) (hf : okF l = true) :
    Calls Try.prog 22 #[.pointer (some ⟨x, 0, none⟩), v] wr fun e w' => e = .returned (.tuple #[]) ∧ Hid (MSt w w' x (runW (fun _ => none) l)) := by
  obtain ⟨rfl, h1, h2, h3⟩ := h
  have hlt : s + 2 < wr.heap.size := (Array.getElem?_eq_some_iff.1 h2.2.2).1
  have hy := h2.ix (up s) (up_ok (Nat.le_refl _)) (up_ok (Nat.le_succ _))
  refine (steps_any hl hf hy h3 (up_fresh (by omega)) h1).mono ?_
  rintro e w' ⟨rfl, g1, g2⟩
  exact ⟨rfl, Lib.hid ⟨⟨_, g1⟩, h3.trans (g2.below.mono h1)⟩⟩

theorem MSt.find {w wr w0 : World} {x : Nat} {W : Str → Option (List Str)} {v : Value} {ws U : List Str} (h : MSt w wr x W) (hr : RowAt wr v ws) (hlen : ws.length ≤ 1000000) (hU : ∀ i, (W i).isSome = true → i ∈ U) (hUl : U.length ≤ 1000000) :
    Calls Try.prog 19 #[.pointer (some ⟨x, 0, none⟩), v] wr fun e w' => ∃ v1 l1, e = .returned v1 ∧ Hid (RowAt w' v1 l1 ∧ Found W ws l1 ∧ MSt w w' x W ∧ l1.length ≤ 1000000 ∧ Below wr.heap.size wr w') := by
  obtain ⟨T, h1⟩ := h.1
  refine (find_any h1 hr hlen hU hUl).mono ?_
  rintro e w' ⟨v1, l1, rfl, g1, g2, g3⟩
  exact ⟨v1, l1, rfl, Lib.hid ⟨own_row g1, g2, h.up g3, Nat.le_trans (found_len g2 hU) hUl, g3⟩⟩

theorem grown_below {W a b : World} {base : Nat} {e : TypeId} {sz : Nat} {v : Value} {n : Nat} {xs : List Value} (h : Below base W a) (hb : base ≤ a.heap.size) (hr : a.ownsRow base e sz v n xs) (hg : a.grownBy b v.ownBlock) : Below base W b :=
  h.grown hg hb (fun k hk => (hr.lt k hk).1)

theorem run_geq (s t : Str) (w : World) : (binOp .geq 9 (encStr s) (encStr t)).run Try.prog w = .ok (.bool !(decide (s < t))) w := by
  simp [encStr, binOp_string_geq, bytesLess_eq]
theorem run_lss (s t : Str) (w : World) : (binOp .lss 9 (encStr s) (encStr t)).run Try.prog w = .ok (.bool (decide (s < t))) w := by
  simp [encStr, binOp_string_lss, bytesLess_eq]

theorem row_news {w : World} {b o n c : Nat} {vs : List Str} (h : RowAt w (.slice (some ⟨b, o, none⟩) n c) vs) : ∀ wr, Below w.heap.size w wr → ∀ j u, (vs.map encStr)[j]? = some u → wr.cell? ((⟨b, o, none⟩ : Addr).add j) = some u := by
  intro wr hb j u hu
  obtain ⟨p, cap, hv, hc⟩ := h.up hb
  cases hv
  have hj : j < vs.length := by
    have := (List.getElem?_eq_some_iff.1 hu).1
    simpa using this
  obtain ⟨b', o', he, _, hcell⟩ := hc j hj
  cases he
  rw [List.getElem?_map, List.getElem?_eq_getElem hj, Option.map_some, Option.some.injEq] at hu
  subst hu
  rw [Addr.add_lit]
  exact hcell

theorem news_one (vs : List Str) : ∀ u ∈ vs.map encStr, u.oneCell' = true := by
  intro u hu
  obtain ⟨s, _, rfl⟩ := List.mem_map.1 hu
  rfl

/-- behind the two appends -/
theorem own_two {w6 wa wb : World} {v v' : Value} {n m : Nat} {vs ws : List Str} (hn : n = vs.length) (hm : m = ws.length)
    (h1 : wa.ownsRow w6.heap.size 9 1 v (0 + n) ([] ++ vs.map encStr)) (g1 : (w6.alloc (.cells #[] 9)).grownBy wa (Value.slice (some ⟨w6.heap.size, 0, none⟩) 0 0).ownBlock)
    (h2 : wb.ownsRow w6.heap.size 9 1 v' (0 + n + m) ([] ++ vs.map encStr ++ ws.map encStr)) (g2 : wa.grownBy wb v.ownBlock) :
    RowAt wb v' (vs ++ ws) ∧ Below w6.heap.size w6 wb := by
  have hb1 : Below w6.heap.size w6 wa := ((Below.refl _ _).alloc (Nat.le_refl _) _).grown g1 (by simp) (fun k hk => by cases hk; exact Nat.le_refl _)
  refine ⟨own_row (B := w6.heap.size) ?_, grown_below hb1 hb1.size h1 g2⟩
  subst hn hm
  have e : (vs ++ ws).length = 0 + vs.length + ws.length := by simp
  show wb.ownsRow w6.heap.size 9 1 v' (vs ++ ws).length ((vs ++ ws).map encStr)
  rw [e, List.map_append]
  simpa using h2

theorem wa_below {w6 wa : World} (g1 : (w6.alloc (.cells #[] 9)).grownBy wa (Value.slice (some ⟨w6.heap.size, 0, none⟩) 0 0).ownBlock) : Below w6.heap.size w6 wa :=
  ((Below.refl _ _).alloc (Nat.le_refl _) _).grown g1 (by simp) (fun k hk => by cases hk; exact Nat.le_refl _)

theorem own_empty (w : World) : (w.alloc (.cells #[] 9)).ownsRow w.heap.size 9 1 (.slice (some ⟨w.heap.size, 0, none⟩) 0 0) 0 [] := by
  refine ⟨rfl, Or.inr ⟨w.heap.size, 0, #[], rfl, Nat.le_refl _, heap_alloc_new w _, ?_⟩⟩
  simp
end Go.Proofs.Ytokfiikpfckahaa
