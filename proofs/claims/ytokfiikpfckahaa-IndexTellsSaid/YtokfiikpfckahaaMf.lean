/- A library of lemmas: Go maps read as partial functions, and frames of memory that keep all but a range of blocks; no program in sight. No condition. -/
import Derived.WalkKit
import Derived.WalkSpells
import Derived.Deep.QuietTactic
import Derived.BigQuiet
import Derived.MapKept
set_option linter.unusedVariables false
set_option linter.unusedSimpArgs false
namespace Go.Mf
open Go Go.RowKit

structure KeyEnc {κ : Type} [DecidableEq κ] (P : Program) (kt : TypeId) (enc : κ → Value) : Prop where
  und : ∃ d, P.underlying kt = some d
  now : ∀ d k k' b, P.underlying kt = some d → Instr.sameNow d (enc k) (enc k') = some b → b = decide (k = k')
  eq : ∀ k k' w, (Op.equal kt (enc k) (enc k')).run P w = .ok (decide (k = k')) w
  check : ∀ e k w, (Instr.checkKey e 10000 kt (enc k)).run P w = .ok () w
  bits : ∀ k, Instr.sameBits 10000 (enc k) (enc k) = true

theorem KeyEnc.inj {κ : Type} [DecidableEq κ] {P : Program} {kt : TypeId} {enc : κ → Value} (K : KeyEnc P kt enc) {k k' : κ} (h : enc k = enc k') : k = k' := by
  have w : World := default
  have h1 := K.eq k k' w
  rw [← h, K.eq k k w] at h1
  simpa using h1

section
variable {κ : Type} [DecidableEq κ]

/-- the first entry at a key, with its place -/
def idx (k : κ) : List (κ × Value) → Nat → Option (Nat × Value)
  | [], _ => none
  | (k', v) :: l, i => if k = k' then some (i, v) else idx k l (i + 1)

def val (k : κ) : List (κ × Value) → Option Value
  | [] => none
  | (k', v) :: l => if k = k' then some v else val k l

theorem idx_val (k : κ) (l : List (κ × Value)) : ∀ i, (idx k l i).map (·.2) = val k l := by
  induction l with
  | nil => intro i; rfl
  | cons p l ih =>
    intro i
    obtain ⟨k', v⟩ := p
    unfold idx val
    split
    · rfl
    · exact ih _

theorem idx_some {k : κ} {l : List (κ × Value)} : ∀ {i j v}, idx k l i = some (j, v) → i ≤ j ∧ l[j - i]? = some (k, v) := by
  induction l with
  | nil => intro i j v h; cases h
  | cons p l ih =>
    intro i j v h
    obtain ⟨k', v'⟩ := p
    unfold idx at h
    split at h
    · rename_i hk
      simp only [Option.some.injEq, Prod.mk.injEq] at h
      obtain ⟨rfl, rfl⟩ := h
      simp [hk]
    · obtain ⟨h1, h2⟩ := ih h
      refine ⟨by omega, ?_⟩
      rw [show j - i = (j - (i + 1)) + 1 by omega]
      simpa using h2

def Entries (enc : κ → Value) (es : List MapEntry) (l : List (κ × Value)) : Prop :=
  es.map (fun e => (e.key, e.val)) = l.map (fun p => (enc p.1, p.2))

omit [DecidableEq κ] in
theorem Entries.nil_iff {enc : κ → Value} {l : List (κ × Value)} (h : Entries enc [] l) : l = [] := by
  unfold Entries at h; simpa using h

theorem findNow_spec {P : Program} {kt : TypeId} {enc : κ → Value} (K : KeyEnc P kt enc) {d : TypeDesc} (hd : P.underlying kt = some d) (k : κ) :
    ∀ (es : List MapEntry) (l : List (κ × Value)) (i : Nat), Entries enc es l → ∀ r, Instr.findNow d (enc k) es i = some r → r = idx k l i := by
  intro es
  induction es with
  | nil => intro l i h r hr; rw [h.nil_iff]; simp [Instr.findNow] at hr; simp [idx, hr]
  | cons e es ih =>
    intro l i h r hr
    cases l with
    | nil => unfold Entries at h; simp at h
    | cons p l =>
      obtain ⟨k', v⟩ := p
      unfold Entries at h
      simp only [List.map_cons, List.cons.injEq, Prod.mk.injEq] at h
      obtain ⟨⟨h1, h2⟩, h3⟩ := h
      unfold Instr.findNow at hr
      rw [h1] at hr
      cases hs : Instr.sameNow d (enc k) (enc k') with
      | none => simp [hs] at hr
      | some b =>
        have hb := K.now d k k' b hd hs
        cases b with
        | true =>
          simp only [hs, Option.some.injEq] at hr
          have : k = k' := by simpa using hb.symm
          simp [idx, this, ← hr, h2]
        | false =>
          simp only [hs] at hr
          have : ¬ k = k' := by simpa using hb.symm
          simp only [idx, this, if_false]
          exact ih l (i + 1) h3 r hr

theorem findAsking_spec {P : Program} {kt : TypeId} {enc : κ → Value} (K : KeyEnc P kt enc) (k : κ) (w : World) :
    ∀ (es : List MapEntry) (l : List (κ × Value)) (i : Nat), Entries enc es l → (Instr.findAsking kt (enc k) es i).run P w = .ok (idx k l i) w := by
  intro es
  induction es with
  | nil => intro l i h; rw [h.nil_iff]; simp [Instr.findAsking, idx]
  | cons e es ih =>
    intro l i h
    cases l with
    | nil => unfold Entries at h; simp at h
    | cons p l =>
      obtain ⟨k', v⟩ := p
      unfold Entries at h
      simp only [List.map_cons, List.cons.injEq, Prod.mk.injEq] at h
      obtain ⟨⟨h1, h2⟩, h3⟩ := h
      unfold Instr.findAsking
      rw [h1]
      simp only [Sem.run_bind, K.eq, Result.andThen_ok, idx]
      by_cases hk : k = k'
      · simp [hk, h2]
      · simp only [hk, decide_false, Bool.false_eq_true, if_false]
        exact ih l (i + 1) h3

theorem run_findKey {P : Program} {kt : TypeId} {enc : κ → Value} (K : KeyEnc P kt enc) (k : κ) (w : World) (es : List MapEntry) (l : List (κ × Value)) (h : Entries enc es l) :
    (Instr.findKey kt (enc k) es).run P w = .ok (idx k l 0) w := by
  obtain ⟨d, hd⟩ := K.und
  unfold Instr.findKey
  simp only [Sem.run_bind, run_underlying hd, Result.andThen_ok]
  cases hf : Instr.findNow d (enc k) es 0 with
  | some r => simp only [Sem.run_pure]; rw [findNow_spec K hd k es l 0 h r hf]
  | none => simp only []; exact findAsking_spec K k w es l 0 h

/-- BLOCK b IS A MAP THAT IS THE PARTIAL FUNCTION f. -/
def MapFn (w : World) (b : Nat) (enc : κ → Value) (f : κ → Option Value) : Prop :=
  ∃ es clock l, w.heap[b]? = some (.map es clock) ∧ Entries enc es.toList l ∧ (l.map (·.1)).Nodup ∧ MapKept.Stamped es clock ∧ f = fun k => val k l

theorem MapFn.lt {w : World} {b : Nat} {enc : κ → Value} {f : κ → Option Value} (h : MapFn w b enc f) : b < w.heap.size := by
  obtain ⟨es, clock, l, hb, _⟩ := h
  exact (Array.getElem?_eq_some_iff.1 hb).1

theorem MapFn.of_heap {w w' : World} {b : Nat} {enc : κ → Value} {f : κ → Option Value} (h : MapFn w b enc f) (hb : w'.heap[b]? = w.heap[b]?) : MapFn w' b enc f := by
  obtain ⟨es, clock, l, h1, h2⟩ := h
  exact ⟨es, clock, l, hb.trans h1, h2⟩

theorem MapFn.alloc {w : World} {b : Nat} {enc : κ → Value} {f : κ → Option Value} (h : MapFn w b enc f) (o : Obj) : MapFn (w.alloc o) b enc f :=
  h.of_heap (Below.heap_alloc w o b h.lt)
theorem MapFn.drew {w : World} {b : Nat} {enc : κ → Value} {f : κ → Option Value} (h : MapFn w b enc f) : MapFn w.drew b enc f := h.of_heap rfl
theorem MapFn.drewN {w : World} {b : Nat} {enc : κ → Value} {f : κ → Option Value} (h : MapFn w b enc f) (n : Nat) : MapFn (w.drewN n) b enc f := h.of_heap rfl

theorem MapFn.made (w : World) (enc : κ → Value) : MapFn (w.alloc (.map #[] 0)) w.heap.size enc (fun _ => none) :=
  ⟨#[], 0, [], heap_alloc_new w _, rfl, by simp, MapKept.stamped_empty 0, by funext k; rfl⟩

section laws
variable {P : Program} {kt et t : TypeId} {enc : κ → Value} {w : World} {b : Nat} {f : κ → Option Value}

theorem MapFn.lookup (h : MapFn w b enc f) (K : KeyEnc P kt enc) (ht : P.underlying t = some (.map kt et)) {z : Value} (hz : (zeroValue et).run P w = .ok z w) (k : κ) :
    (Instr.lookup t (.map (some b)) (enc k) false).run P w = .ok ((f k).getD z) w := by
  obtain ⟨es, clock, l, hb, he, _, _, rfl⟩ := h
  have hg : (Sem.getObj b Sem.pure).run P w = .ok (.map es clock) w := by simp [Sem.run, hb]
  unfold Instr.lookup
  simp only [Sem.run_bind, run_underlying ht, Result.andThen_ok]
  have hg' : (getObj b).run P w = .ok (.map es clock) w := hg
  simp only [hg', Result.andThen_ok, Sem.run_bind, Sem.run_pure, K.check, run_findKey K k w _ l he]
  have hv := idx_val k l 0
  cases hi : idx k l 0 with
  | none => rw [hi] at hv; simp [hz, ← hv]
  | some p => rw [hi] at hv; simp [← hv]

theorem MapFn.lookup_ok (h : MapFn w b enc f) (K : KeyEnc P kt enc) (ht : P.underlying t = some (.map kt et)) {z : Value} (hz : (zeroValue et).run P w = .ok z w) (k : κ) :
    (Instr.lookup t (.map (some b)) (enc k) true).run P w = .ok (.tuple #[(f k).getD z, .bool (f k).isSome]) w := by
  obtain ⟨es, clock, l, hb, he, _, _, rfl⟩ := h
  have hg' : (getObj b).run P w = .ok (.map es clock) w := by show (Sem.getObj b Sem.pure).run P w = _; simp [Sem.run, hb]
  unfold Instr.lookup
  simp only [Sem.run_bind, run_underlying ht, Result.andThen_ok]
  simp only [hg', Result.andThen_ok, Sem.run_bind, Sem.run_pure, K.check, run_findKey K k w _ l he]
  have hv := idx_val k l 0
  cases hi : idx k l 0 with
  | none => rw [hi] at hv; simp [hz, ← hv]
  | some p => rw [hi] at hv; simp [← hv]

theorem val_append (k : κ) (l l' : List (κ × Value)) : val k (l ++ l') = (val k l).or (val k l') := by
  induction l with
  | nil => rfl
  | cons p l ih => obtain ⟨k', v⟩ := p; simp only [List.cons_append, val]; split <;> simp_all

theorem val_none {k : κ} {l : List (κ × Value)} : val k l = none ↔ k ∉ l.map (·.1) := by
  induction l with
  | nil => simp [val]
  | cons p l ih => obtain ⟨k', v⟩ := p; simp only [val]; split <;> simp_all

theorem val_modify {l : List (κ × Value)} (hn : (l.map (·.1)).Nodup) {k : κ} {i : Nat} {v0 : Value} (hi : l[i]? = some (k, v0)) (v : Value) (j : κ) :
    val j (l.modify i fun p => (p.1, v)) = if j = k then some v else val j l := by
  induction l generalizing i with
  | nil => simp at hi
  | cons p l ih =>
    obtain ⟨k', v'⟩ := p
    simp only [List.map_cons, List.nodup_cons] at hn
    cases i with
    | zero =>
      simp only [List.getElem?_cons_zero, Option.some.injEq, Prod.mk.injEq] at hi
      obtain ⟨rfl, rfl⟩ := hi
      simp only [List.modify_zero_cons, val]
      split <;> simp_all
    | succ i =>
      simp only [List.getElem?_cons_succ] at hi
      simp only [List.modify_succ_cons, val, ih hn.2 hi]
      have hkl : k ∈ l.map (·.1) := List.mem_map.2 ⟨_, List.mem_of_getElem? hi, rfl⟩
      by_cases hj : j = k'
      · subst hj
        have : ¬ j = k := fun e => hn.1 (e ▸ hkl)
        simp [this]
      · simp [hj]

omit [DecidableEq κ] in
theorem modify_fst (l : List (κ × Value)) (i : Nat) (v : Value) : (l.modify i fun p => (p.1, v)).map (·.1) = l.map (·.1) := by
  induction l generalizing i with
  | nil => simp
  | cons p l ih => cases i <;> simp [ih]

theorem MapFn.update (h : MapFn w b enc f) (K : KeyEnc P kt enc) (ht : P.underlying t = some (.map kt et)) (k : κ) (v : Value) :
    ∃ w', (Instr.mapUpdate t (.map (some b)) (enc k) v).run P w = .ok () w' ∧ MapFn w' b enc (fun j => if j = k then some v else f j) ∧ w.grownBy w' (some b) ∧ w'.heap.size = w.heap.size ∧ w'.drawn = w.drawn := by
  obtain ⟨es, clock, l, hb, he, hn, hst, rfl⟩ := h
  have hlt : b < w.heap.size := (Array.getElem?_eq_some_iff.1 hb).1
  have hg' : (getObj b).run P w = .ok (.map es clock) w := by show (Sem.getObj b Sem.pure).run P w = _; simp [Sem.run, hb]
  have hs : ∀ o, (setObj b o).run P w = .ok () { w with heap := w.heap.setIfInBounds b o } := by intro o; show (Sem.setObj b o (Sem.pure ())).run P w = _; simp [Sem.run, hb]
  have hgrow : ∀ o, w.grownBy { w with heap := w.heap.setIfInBounds b o } (some b) := fun o => ⟨rfl, rfl, rfl, by simp, fun i _ hi => by
    show (w.heap.setIfInBounds b o)[i]? = _
    rw [Array.getElem?_setIfInBounds_ne (fun e => hi (by rw [e]))]⟩
  have hnew : ∀ o, ({ w with heap := w.heap.setIfInBounds b o } : World).heap[b]? = some o := fun o => by
    show (w.heap.setIfInBounds b o)[b]? = _
    rw [Array.getElem?_setIfInBounds_self_of_lt hlt]
  unfold Instr.mapUpdate
  simp only [Sem.run_bind, run_underlying ht, Result.andThen_ok]
  simp only [hg', Result.andThen_ok, Sem.run_bind, K.check, run_findKey K k w _ l he]
  cases hi : idx k l 0 with
  | none =>
    simp only [hs]
    refine ⟨_, rfl, ⟨_, _, l ++ [(k, v)], hnew _, ?_, ?_, MapKept.stamped_push hst ?_, ?_⟩, hgrow _, by simp, rfl⟩
    · unfold Entries at he ⊢; simp [he]
    · have hv := idx_val k l 0
      rw [hi] at hv
      have := val_none.1 hv.symm
      rw [List.map_append, List.nodup_append]
      refine ⟨hn, by simp, ?_⟩
      intro x hx y hy
      simp at hy
      subst hy
      exact fun e => this (e ▸ hx)
    · intro x hx e
      have hm : (x.key, x.val) ∈ es.toList.map (fun e => (e.key, e.val)) := List.mem_map.2 ⟨x, hx, rfl⟩
      rw [he] at hm
      obtain ⟨p, hp, hpe⟩ := List.mem_map.1 hm
      simp only [Prod.mk.injEq] at hpe
      have hpk : p.1 = k := K.inj (hpe.1.trans e)
      have hv := idx_val k l 0
      rw [hi] at hv
      exact val_none.1 hv.symm (List.mem_map.2 ⟨p, hp, hpk⟩)
    · funext j
      rw [val_append]
      have hv := idx_val k l 0
      rw [hi] at hv
      by_cases hj : j = k
      · subst hj; simp [← hv, val]
      · simp [hj, val]
  | some p =>
    obtain ⟨i, v0⟩ := p
    obtain ⟨_, hli⟩ := idx_some hi
    simp only [Nat.sub_zero] at hli
    have hkey : ((es[i]?).map (·.key)).getD (enc k) = enc k := by
      have h1 : (es.toList.map (fun e => (e.key, e.val)))[i]? = some (enc k, v0) := by rw [he]; simp [hli]
      simp only [List.getElem?_map, Array.getElem?_toList] at h1
      cases hx : es[i]? with
      | none => rfl
      | some e => rw [hx] at h1; simp at h1; simp [h1.1]
    have hstay : (Instr.keyThatStays (enc k) (enc k)).run P w = .ok (enc k) w := by simp [Instr.keyThatStays, K.bits]
    simp only [hkey, hstay, Result.andThen_ok, Sem.run_bind, hs]
    refine ⟨_, rfl, ⟨_, _, l.modify i fun p => (p.1, v), hnew _, ?_, ?_, MapKept.stamped_modify hst _ _ (fun _ _ => rfl) ?_, ?_⟩, hgrow _, by simp, rfl⟩
    · unfold Entries at he ⊢
      apply List.ext_getElem?
      intro n
      have h2 := congrArg (fun x => x[n]?) he
      simp only [List.getElem?_map, Array.getElem?_toList, Array.getElem?_modify, List.getElem?_modify] at h2 ⊢
      by_cases hni : i = n
      · subst hni
        rw [hli] at h2 ⊢
        cases hx : es[i]? with
        | none => rw [hx] at h2; simp at h2
        | some e => simp
      · simp only [hni, if_false]
        rw [h2]
        cases l[n]? <;> simp
    · rw [modify_fst]; exact hn
    · intro x hx hxi
      have h1 : (es.toList.map (fun e => (e.key, e.val)))[i]? = some (enc k, v0) := by rw [he]; simp [hli]
      simp [hxi] at h1
      exact h1.1.symm
    · funext j
      rw [val_modify hn hli]

omit [DecidableEq κ] in
theorem eraseIdx_fst (l : List (κ × Value)) (i : Nat) : (l.eraseIdx i).map (·.1) = (l.map (·.1)).eraseIdx i := by
  induction l generalizing i with
  | nil => simp
  | cons p l ih => cases i <;> simp [ih]

theorem val_eraseIdx {l : List (κ × Value)} (hn : (l.map (·.1)).Nodup) {k : κ} {i : Nat} {v0 : Value} (hi : l[i]? = some (k, v0)) (j : κ) :
    val j (l.eraseIdx i) = if j = k then none else val j l := by
  induction l generalizing i with
  | nil => simp at hi
  | cons p l ih =>
    obtain ⟨k', v'⟩ := p
    simp only [List.map_cons, List.nodup_cons] at hn
    cases i with
    | zero =>
      simp only [List.getElem?_cons_zero, Option.some.injEq, Prod.mk.injEq] at hi
      obtain ⟨rfl, rfl⟩ := hi
      simp only [List.eraseIdx_cons_zero, val]
      by_cases hj : j = k'
      · subst hj; simp only [if_true]; exact val_none.2 hn.1
      · simp [hj]
    | succ i =>
      simp only [List.getElem?_cons_succ] at hi
      simp only [List.eraseIdx_cons_succ, val, ih hn.2 hi]
      have hkl : k ∈ l.map (·.1) := List.mem_map.2 ⟨_, List.mem_of_getElem? hi, rfl⟩
      by_cases hj : j = k'
      · subst hj
        have : ¬ j = k := fun e => hn.1 (e ▸ hkl)
        simp [this]
      · simp [hj]

theorem MapFn.delete (h : MapFn w b enc f) (K : KeyEnc P kt enc) (ht : P.underlying t = some (.map kt et)) (k : κ) (ty kt' : TypeId) :
    ∃ w', (Builtin.delete_ #[t, kt'] ty #[.map (some b), enc k]).run P w = .ok (.tuple #[]) w' ∧ MapFn w' b enc (fun j => if j = k then none else f j) ∧ w.grownBy w' (some b) ∧ w'.heap.size = w.heap.size ∧ w'.drawn = w.drawn := by
  obtain ⟨es, clock, l, hb, he, hn, hst, rfl⟩ := h
  have hlt : b < w.heap.size := (Array.getElem?_eq_some_iff.1 hb).1
  have hg' : (getObj b).run P w = .ok (.map es clock) w := by show (Sem.getObj b Sem.pure).run P w = _; simp [Sem.run, hb]
  have hs : ∀ o, (setObj b o).run P w = .ok () { w with heap := w.heap.setIfInBounds b o } := by intro o; show (Sem.setObj b o (Sem.pure ())).run P w = _; simp [Sem.run, hb]
  have hgrow : ∀ o, w.grownBy { w with heap := w.heap.setIfInBounds b o } (some b) := fun o => ⟨rfl, rfl, rfl, by simp, fun i _ hi => by
    show (w.heap.setIfInBounds b o)[i]? = _
    rw [Array.getElem?_setIfInBounds_ne (fun e => hi (by rw [e]))]⟩
  have hnew : ∀ o, ({ w with heap := w.heap.setIfInBounds b o } : World).heap[b]? = some o := fun o => by
    show (w.heap.setIfInBounds b o)[b]? = _
    rw [Array.getElem?_setIfInBounds_self_of_lt hlt]
  unfold Builtin.delete_
  simp only [List.getElem?_toArray, List.getElem?_cons_zero, List.getElem?_cons_succ, Sem.run_bind, run_underlying ht, Result.andThen_ok]
  simp only [hg', Result.andThen_ok, Sem.run_bind, K.check, run_findKey K k w _ l he]
  cases hi : idx k l 0 with
  | none =>
    simp only [Sem.run_bind, hs, Result.andThen_ok, Sem.run_pure]
    refine ⟨_, rfl, ⟨_, _, l, hnew _, he, hn, hst, ?_⟩, hgrow _, by simp, rfl⟩
    funext j
    have hv := idx_val k l 0
    rw [hi] at hv
    by_cases hj : j = k
    · subst hj; simp [← hv]
    · simp [hj]
  | some p =>
    obtain ⟨i, v0⟩ := p
    obtain ⟨_, hli⟩ := idx_some hi
    simp only [Nat.sub_zero] at hli
    simp only [Sem.run_bind, hs, Result.andThen_ok, Sem.run_pure]
    refine ⟨_, rfl, ⟨_, _, l.eraseIdx i, hnew _, ?_, ?_, MapKept.stamped_erase hst i, ?_⟩, hgrow _, by simp, rfl⟩
    · have hlen : i < es.size := by
        have h3 := congrArg List.length he
        simp at h3
        have := (List.getElem?_eq_some_iff.1 hli).1
        omega
      unfold Entries at he ⊢
      rw [Array.eraseIdxIfInBounds, dif_pos hlen, Array.toList_eraseIdx]
      have e1 : ∀ (es : List MapEntry) i, (es.eraseIdx i).map (fun e => (e.key, e.val)) = (es.map (fun e => (e.key, e.val))).eraseIdx i := by
        intro es; induction es with
        | nil => simp
        | cons e es ih => intro i; cases i <;> simp [ih]
      have e2 : ∀ (l : List (κ × Value)) i, (l.eraseIdx i).map (fun p => (enc p.1, p.2)) = (l.map (fun p => (enc p.1, p.2))).eraseIdx i := by
        intro es; induction es with
        | nil => simp
        | cons e es ih => intro i; cases i <;> simp [ih]
      rw [e1, e2, he]
    · rw [eraseIdx_fst]; exact hn.sublist (List.eraseIdx_sublist ..)
    · funext j
      rw [val_eraseIdx hn hli]
end laws

/-- keys of an integer kind -/
def encInt (q : IntKind) (k : Int) : Value := .int q k

theorem keyEnc_int {P : Program} {kt : TypeId} {q : IntKind} (h : P.underlying kt = some (.int q)) : KeyEnc P kt (encInt q) where
  und := ⟨_, h⟩
  now := by
    intro d k k' b hd hs
    rw [h] at hd; cases hd
    simp only [encInt, Instr.sameNow, if_true, Option.some.injEq] at hs
    rw [← hs]; rfl
  eq := by
    intro k k' w
    have := run_equalIn_int (P := P) w 9999 kt q q k k' h
    simp only [Op.equal, Op.maxDepth, encInt]; exact this
  check := by
    intro e k w
    show (Instr.checkKey e (9999 + 1) kt (.int q k)).run P w = _
    unfold Instr.checkKey
    simp only [Sem.run_bind, run_underlying h, Result.andThen_ok, Sem.run_pure]
  bits := by intro k; show Instr.sameBits (9999+1) _ _ = true; simp [encInt, Instr.sameBits]
end
end Go.Mf

namespace Go.Mf
open Go Go.RowKit
section
variable {κ : Type} [DecidableEq κ]

theorem wpList_mapUpdate_fn {P : Program} {kt et t : TypeId} {enc : κ → Value} {w : World} {b : Nat} {f : κ → Option Value} {ops : Array Oper} {rest : List Oper} {o : Oper} {a : Act} {Q : Exit → Act → World → Prop}
    (hg : o.guard = none) (m x v : Operand) (hop : o.op = Op.mapUpdate t m x v) (K : KeyEnc P kt enc) (ht : P.underlying t = some (.map kt et))
    (hm : a.eval m = .map (some b)) (h : MapFn w b enc f) (k : κ) (hx : a.eval x = enc k)
    (hK : ∀ w', MapFn w' b enc (fun j => if j = k then some (a.eval v) else f j) → w.grownBy w' (some b) → w'.heap.size = w.heap.size → w'.drawn = w.drawn → wpList P ops Q rest (a.put o.dst undef) w') :
    wpList P ops Q (o :: rest) a w := by
  refine wpList_plain hg fun K' hK' => ?_
  obtain ⟨w', hrun, h1, h2, h3, h4⟩ := h.update K ht k (a.eval v)
  unfold Oper.wp
  simp only [execOp, hop, hm, hx, Sem.run_bind, hrun, Result.andThen_ok, Sem.run_pure]
  exact hK' _ _ (hK w' h1 h2 h3 h4)

theorem wpList_delete_fn {P : Program} {kt kt' et t : TypeId} {enc : κ → Value} {w : World} {b : Nat} {f : κ → Option Value} {ops : Array Oper} {rest : List Oper} {o : Oper} {a : Act} {Q : Exit → Act → World → Prop}
    (hg : o.guard = none) (m x : Operand) (hop : o.op = .call { callee := .builtin .delete, args := #[m, x], argTypes := #[t, kt'] }) (K : KeyEnc P kt enc) (ht : P.underlying t = some (.map kt et))
    (hm : a.eval m = .map (some b)) (h : MapFn w b enc f) (k : κ) (hx : a.eval x = enc k)
    (hK : ∀ w', MapFn w' b enc (fun j => if j = k then none else f j) → w.grownBy w' (some b) → w'.heap.size = w.heap.size → w'.drawn = w.drawn → wpList P ops Q rest (a.put o.dst (.tuple #[])) w') :
    wpList P ops Q (o :: rest) a w := by
  refine wpList_plain hg fun K' hK' => ?_
  obtain ⟨w', hrun, h1, h2, h3, h4⟩ := h.delete K ht k o.type kt'
  unfold Oper.wp
  simp only [execOp, hop, resolve, invoke, builtin, Sem.run_bind, Sem.run_pure, Result.andThen_ok, List.map_toArray, List.map_cons, List.map_nil, hm, hx, hrun]
  exact hK' _ _ (hK w' h1 h2 h3 h4)

/-- Outside [lo, hi) the blocks that were there are as they were. -/
structure Upd (lo hi : Nat) (w w' : World) : Prop where
  os : w'.os = w.os
  tape : w'.tape = w.tape
  output : w'.output = w.output
  size : w.heap.size ≤ w'.heap.size
  block : ∀ k, k < w.heap.size → ¬ (lo ≤ k ∧ k < hi) → w'.heap[k]? = w.heap[k]?

theorem Upd.refl (lo hi : Nat) (w : World) : Upd lo hi w w := ⟨rfl, rfl, rfl, Nat.le_refl _, fun _ _ _ => rfl⟩
theorem Upd.trans {lo hi : Nat} {a b c : World} (h : Upd lo hi a b) (k : Upd lo hi b c) : Upd lo hi a c :=
  ⟨k.os.trans h.os, k.tape.trans h.tape, k.output.trans h.output, Nat.le_trans h.size k.size, fun i hi' hn => (k.block i (Nat.lt_of_lt_of_le hi' h.size) hn).trans (h.block i hi' hn)⟩
theorem Upd.drewN {lo hi : Nat} {a w : World} (h : Upd lo hi a w) (n : Nat) : Upd lo hi a (w.drewN n) := ⟨h.os, h.tape, h.output, h.size, h.block⟩
theorem Upd.drew {lo hi : Nat} {a w : World} (h : Upd lo hi a w) : Upd lo hi a w.drew := ⟨h.os, h.tape, h.output, h.size, h.block⟩
theorem Upd.alloc {lo hi : Nat} {a w : World} (h : Upd lo hi a w) (o : Obj) : Upd lo hi a (w.alloc o) :=
  h.trans ⟨rfl, rfl, rfl, by simp, fun k hk _ => Below.heap_alloc w o k hk⟩
theorem Upd.setCell {lo hi : Nat} {a w : World} (h : Upd lo hi a w) {p : Addr} (h1 : lo ≤ p.block) (h2 : p.block < hi ∨ a.heap.size ≤ p.block) (v : Value) : Upd lo hi a (w.setCell p v) :=
  ⟨h.os, h.tape, h.output, by simpa using h.size, fun k hk hn => by
    rw [Below.heap_setCell w p v k (by intro e; subst e; rcases h2 with h2 | h2 <;> omega)]; exact h.block k hk hn⟩
theorem Upd.grown {lo hi : Nat} {a w w' : World} (h : Upd lo hi a w) {row : Option Nat} (hg : w.grownBy w' row) (hr : ∀ k, row = some k → (lo ≤ k ∧ k < hi) ∨ a.heap.size ≤ k) : Upd lo hi a w' :=
  ⟨hg.os.trans h.os, hg.tape.trans h.tape, hg.output.trans h.output, Nat.le_trans h.size hg.size, fun k hk hn => by
    rw [hg.block k (Nat.lt_of_lt_of_le hk h.size) (fun e => by rcases hr k e.symm with h | h; exact hn h; omega)]; exact h.block k hk hn⟩
theorem Upd.below {lo hi : Nat} {w w' : World} (h : Upd lo hi w w') {B : Nat} (h1 : B ≤ lo) (h2 : B ≤ w.heap.size) : Below B w w' :=
  ⟨h.os, h.tape, h.output, h.size, fun k hk => h.block k (by omega) (by omega)⟩
theorem Upd.of_below {B : Nat} {w w' : World} (h : Below B w w') (hs : w.heap.size ≤ B) (lo hi : Nat) : Upd lo hi w w' :=
  ⟨h.os, h.tape, h.output, h.size, fun k hk _ => h.block k (by omega)⟩
theorem Upd.widen {lo hi lo' hi' : Nat} {w w' : World} (h : Upd lo hi w w') (h1 : lo' ≤ lo) (h2 : hi ≤ hi') : Upd lo' hi' w w' :=
  ⟨h.os, h.tape, h.output, h.size, fun k hk hn => h.block k hk (by omega)⟩

theorem cell_of_block {w : World} {b : Nat} {c : Array Value} {t : TypeId} {fr : Nat × Nat} (h : w.heap[b]? = some (.cells c t fr)) (i : Nat) : w.cell? ⟨b, i, none⟩ = c[i]? := by
  simp [World.cell?, h]
theorem frozen_of_block {w : World} {b : Nat} {c : Array Value} {t : TypeId} (h : w.heap[b]? = some (.cells c t (0, 0))) (i : Nat) : w.frozen? ⟨b, i, none⟩ = false := by
  simp [World.frozen?, h]
theorem setCell_block {w : World} {b : Nat} {c : Array Value} {t : TypeId} {fr : Nat × Nat} (h : w.heap[b]? = some (.cells c t fr)) (i : Nat) (v : Value) :
    (w.setCell ⟨b, i, none⟩ v).heap[b]? = some (.cells (c.setIfInBounds i v) t fr) := by
  simp [World.setCell, Array.getElem?_modify, h]
end
end Go.Mf
