/- Go maps read as partial functions: keys that are strings, the number of entries, a range over a map. No program in sight. No condition. -/
import Derived.Test.YtokfiikpfckahaaMf
import Derived.Maps.RangeWalk
import Derived.Sort.EncStr
import Derived.Laws.StructEq
set_option linter.unusedVariables false
set_option linter.unusedSimpArgs false
namespace Go.Mf
open Go Go.RowKit Go.Proofs
open Go.ChangeMaps (setBlock)

theorem encStr_inj {k k' : List UInt8} (h : encStr k = encStr k') : k = k' := by
  simp only [Value.string.injEq, ByteArray.mk.injEq] at h
  have := congrArg Array.toList h
  simpa using this

theorem keyEnc_str {P : Program} {kt : TypeId} (h : P.underlying kt = some .string) : KeyEnc P kt encStr where
  und := ⟨_, h⟩
  now := by
    intro d k k' b hd hs
    rw [h] at hd; cases hd
    obtain ⟨r, h1, h2⟩ := MapKept.sameNow_of_keys (d := .string) (a := encStr k) (b := encStr k') trivial trivial
    rw [h1] at hs
    cases hs
    by_cases e : k = k'
    · simp only [e, decide_true]; exact h2.2 (by rw [e])
    · simp only [e, decide_false]
      cases hb : b with
      | false => rfl
      | true => exact absurd (encStr_inj (h2.1 hb)) e
  eq := by
    intro k k' w
    have := run_equalIn_string (P := P) w 9999 kt ⟨k.toArray⟩ ⟨k'.toArray⟩ h
    simp only [Op.equal, Op.maxDepth, encStr]
    rw [this]
    simp only [ByteArray.toList_mk]
    congr 1
    rw [Bool.eq_iff_iff]; simp
  check := by intro e k w; exact MapKept.run_checkKey (d := .string) h (show MapKept.IsKey .string (encStr k) from trivial) e 9999
  bits := by intro k; exact MapKept.sameBits_self (d := .string) (show MapKept.IsKey .string (encStr k) from trivial) 10000

section
variable {κ : Type} [DecidableEq κ] {P : Program} {kt et t : TypeId} {enc : κ → Value} {w : World} {b : Nat} {f : κ → Option Value}

/-- the number of entries -/
theorem MapFn.len (h : MapFn w b enc f) (ht : P.underlying t = some (.map kt et)) : ∃ n : Nat, (∀ w' : World, w'.heap[b]? = w.heap[b]? → ∀ ty, (Builtin.len_ #[t] ty #[.map (some b)]).run P w' = .ok (goInt n) w') ∧ (n = 0 → ∀ k, f k = none) ∧ ((∀ k, f k = none) → n = 0) := by
  obtain ⟨es, clock, l, hb, he, hn, hst, rfl⟩ := h
  refine ⟨es.size, ?_, ?_, ?_⟩
  · intro w' hw ty
    have hg : (getObj b).run P w' = .ok (.map es clock) w' := by show (Sem.getObj b Sem.pure).run P w' = _; simp [Sem.run, hw, hb]
    simp [Builtin.len_, run_underlying ht, hg]
  · intro h0 k
    have hl : l = [] := by
      have := congrArg List.length he
      simp at this
      exact List.eq_nil_of_length_eq_zero (by omega)
    subst hl; rfl
  · intro h0
    have hl : l = [] := by
      cases l with
      | nil => rfl
      | cons p l => obtain ⟨k, v⟩ := p; have := h0 k; simp [val] at this
    have := congrArg List.length he
    simp [hl] at this
    simp [this]

/-- A RANGE OVER THE MAP f UNDER WAY: 'done' are the keys that came out. -/
def IterAt (w : World) (b r : Nat) (enc : κ → Value) (f : κ → Option Value) (done : List κ) (cnt : Nat) : Prop :=
  ∃ es clock l since seen c0, w.heap[b]? = some (.map es clock) ∧ Entries enc es.toList l ∧ (l.map (·.1)).Nodup ∧ MapKept.Stamped es clock ∧ f = (fun k => val k l) ∧
    w.heap[r]? = some (.mapIter (some b) since seen c0) ∧ (∀ x ∈ es.toList, x.born < since) ∧ since ≤ c0 ∧ since ≤ clock ∧ (leftOf es seen).size = cnt ∧
    (∀ x ∈ es.toList, ∀ k, x.key = enc k → (k ∈ done ↔ seen.contains x.born = true)) ∧ (∀ k ∈ done, (f k).isSome = true) ∧ done.Nodup

theorem IterAt.fn {r cnt : Nat} {done : List κ} (h : IterAt w b r enc f done cnt) : MapFn w b enc f := by
  obtain ⟨es, clock, l, since, seen, c0, h1, h2, h3, h4, h5, _⟩ := h
  exact ⟨es, clock, l, h1, h2, h3, h4, h5⟩
theorem IterAt.lt {r cnt : Nat} {done : List κ} (h : IterAt w b r enc f done cnt) : r < w.heap.size := by
  obtain ⟨es, clock, l, since, seen, c0, h1, h2, h3, h4, h5, h6, _⟩ := h
  exact (Array.getElem?_eq_some_iff.1 h6).1
theorem IterAt.sub {r cnt : Nat} {done : List κ} (h : IterAt w b r enc f done cnt) : ∀ k ∈ done, (f k).isSome = true := by
  obtain ⟨es, clock, l, since, seen, c0, h1, h2, h3, h4, h5, h6, h7, h8, h9, h10, h11, h12, h13⟩ := h
  exact h12
theorem IterAt.nodup {r cnt : Nat} {done : List κ} (h : IterAt w b r enc f done cnt) : done.Nodup := by
  obtain ⟨es, clock, l, since, seen, c0, h1, h2, h3, h4, h5, h6, h7, h8, h9, h10, h11, h12, h13⟩ := h
  exact h13
theorem IterAt.of_heap {r cnt : Nat} {done : List κ} {w' : World} (h : IterAt w b r enc f done cnt) (hb : w'.heap[b]? = w.heap[b]?) (hr : w'.heap[r]? = w.heap[r]?) : IterAt w' b r enc f done cnt := by
  obtain ⟨es, clock, l, since, seen, c0, h1, h2, h3, h4, h5, h6, h7⟩ := h
  exact ⟨es, clock, l, since, seen, c0, hb.trans h1, h2, h3, h4, h5, hr.trans h6, h7⟩
theorem IterAt.iter {r cnt : Nat} {done : List κ} (h : IterAt w b r enc f done cnt) : ∃ a s c, w.heap[r]? = some (.mapIter (some b) a s c) := by
  obtain ⟨es, clock, l, since, seen, c0, h1, h2, h3, h4, h5, h6, _⟩ := h
  exact ⟨_, _, _, h6⟩

theorem MapFn.range (h : MapFn w b enc f) (ht : P.underlying t = some (.map kt et)) :
    ∃ clock cnt, (Instr.range t (.map (some b))).run P w = .ok (.pointer (some ⟨w.heap.size, 0, none⟩)) (w.alloc (.mapIter (some b) clock #[] clock)) ∧ IterAt (w.alloc (.mapIter (some b) clock #[] clock)) b w.heap.size enc f [] cnt := by
  have hlt := h.lt
  obtain ⟨es, clock, l, hb, he, hn, hst, rfl⟩ := h
  exact ⟨clock, _, run_range_map w t kt et b es clock ht hb, es, clock, l, clock, #[], clock, (Below.heap_alloc w _ b hlt).trans hb, he, hn, hst, rfl, heap_alloc_new w _, hst.1, Nat.le_refl _, Nat.le_refl _, rfl, by simp, by simp, by simp⟩

theorem val_of_mem {l : List (κ × Value)} (hn : (l.map (·.1)).Nodup) {k : κ} {v : Value} (h : (k, v) ∈ l) : val k l = some v := by
  induction l with
  | nil => cases h
  | cons p l ih =>
    obtain ⟨k', v'⟩ := p
    simp only [List.map_cons, List.nodup_cons] at hn
    rcases List.mem_cons.1 h with e | e
    · cases e; simp [val]
    · have : k ≠ k' := fun e' => hn.1 (e' ▸ List.mem_map.2 ⟨_, e, rfl⟩)
      simp [val, this, ih hn.2 e]

theorem mem_of_val {l : List (κ × Value)} {k : κ} {v : Value} (h : val k l = some v) : (k, v) ∈ l := by
  induction l with
  | nil => cases h
  | cons p l ih =>
    obtain ⟨k', v'⟩ := p
    unfold val at h
    split at h
    · rename_i e; cases h; rw [e]; simp
    · exact List.mem_cons_of_mem _ (ih h)

theorem IterAt.next {r cnt : Nat} {done : List κ} (h : IterAt w b r enc f done cnt) (K : KeyEnc P kt enc) (ty : TypeId) :
    (cnt = 0 ∧ (∀ k, (f k).isSome = true → k ∈ done) ∧ (Instr.next (.pointer (some ⟨r, 0, none⟩)) false ty).run P w = .ok (.tuple #[.bool false]) w) ∨
    ∃ k v w' cnt', k ∉ done ∧ f k = some v ∧ (Instr.next (.pointer (some ⟨r, 0, none⟩)) false ty).run P w = .ok (.tuple #[.bool true, enc k, v]) w' ∧
      IterAt w' b r enc f (done ++ [k]) cnt' ∧ cnt' < cnt ∧ w.grownBy w' (some r) ∧ w'.heap.size = w.heap.size ∧ (Instr.entry (.pointer (some ⟨r, 0, none⟩))).run P w' = .ok (.tuple #[enc k, v]) w' := by
  obtain ⟨es, clock, l, since, seen, c0, hb, he, hn, hst, rfl, hr, hold, hsc, hsk, rfl, hdone, hsub, hdn⟩ := h
  have hne : r ≠ b := by intro e; rw [e, hb] at hr; cases hr
  have hkeys : ∀ x ∈ es.toList, ∃ p ∈ l, x.key = enc p.1 ∧ x.val = p.2 := by
    intro x hx
    have hm : (x.key, x.val) ∈ es.toList.map (fun e => (e.key, e.val)) := List.mem_map.2 ⟨x, hx, rfl⟩
    rw [he] at hm
    obtain ⟨p, hp, hpe⟩ := List.mem_map.1 hm
    simp only [Prod.mk.injEq] at hpe
    exact ⟨p, hp, hpe.1.symm, hpe.2.symm⟩
  have hents : ∀ p ∈ l, ∃ x ∈ es.toList, x.key = enc p.1 := by
    intro p hp
    have hm : (enc p.1, p.2) ∈ l.map (fun p => (enc p.1, p.2)) := List.mem_map.2 ⟨p, hp, rfl⟩
    rw [← he] at hm
    obtain ⟨x, hx, hxe⟩ := List.mem_map.1 hm
    simp only [Prod.mk.injEq] at hxe
    exact ⟨x, hx, hxe.1⟩
  rcases run_next_at (P := P) w ty r b since c0 seen es clock hr hb hold hsc with ⟨h0, hrun⟩ | ⟨e, he', w1, hal, hrun⟩
  · refine Or.inl ⟨h0, fun k hk => ?_, hrun⟩
    obtain ⟨v, hv⟩ := Option.isSome_iff_exists.1 hk
    obtain ⟨x, hx, hxk⟩ := hents _ (mem_of_val hv)
    exact (hdone x hx k hxk).2 (all_seen es seen h0 x hx)
  · obtain ⟨hem, hes⟩ := mem_left he'
    obtain ⟨p, hp, hpk, hpv⟩ := hkeys e hem
    obtain ⟨k, v⟩ := p
    simp only at hpk hpv
    have hr1 : w1.heap[r]? = some (.mapIter (some b) since seen c0) := by rcases hal with rfl | rfl <;> exact hr
    have hb1 : w1.heap[b]? = some (.map es clock) := by rcases hal with rfl | rfl <;> exact hb
    have hset := MapKept.heap_set (o' := .mapIter (some b) since (seen.push e.born) clock) hr1
    have hb' : (setBlock w1 r (.mapIter (some b) since (seen.push e.born) clock)).heap[b]? = some (.map es clock) := (hset.2 b (fun e1 => hne e1.symm)).trans hb1
    have hnd : k ∉ done := fun hk => by
      have := (hdone e hem k hpk).1 hk
      rw [hes] at this; cases this
    have hst' := (MapKept.stamped_iff es clock).1 hst
    refine Or.inr ⟨k, v, _, _, hnd, val_of_mem hn hp, by rw [← hpk, ← hpv]; exact hrun,
      ⟨es, clock, l, since, seen.push e.born, clock, hb', he, hn, hst, rfl, hset.1, hold, hsk, hsk, rfl, ?_, ?_, ?_⟩, left_shrinks es seen e he', ?_, ?_,
      by rw [← hpk, ← hpv]; exact run_entry_at _ r b since seen es clock e hset.1 hb' hem hst'.2.1⟩
    · intro x hx k' hxk
      rw [contains_push, List.mem_append, hdone x hx k' hxk]
      by_cases hbe : x.born = e.born
      · have : x = e := born_inj hst'.2.1 hx hem hbe
        subst this
        have : k' = k := K.inj (hxk.symm.trans hpk)
        simp [this]
      · have hk' : k' ≠ k := by
          intro e1
          subst e1
          exact hbe (congrArg MapEntry.born (entry_eq_of_key hst'.2.2 hx hem (hxk.trans hpk.symm)))
        simp [hbe, hk']
    · intro k' hk'
      rcases List.mem_append.1 hk' with h | h
      · exact hsub k' h
      · simp at h; subst h; show (val k' l).isSome = true; rw [val_of_mem hn hp]; rfl
    · rw [List.nodup_append]
      refine ⟨hdn, by simp, ?_⟩
      intro a ha c hc
      simp at hc; subst hc
      exact fun e => hnd (e ▸ ha)
    · rcases hal with rfl | rfl <;> exact ⟨rfl, rfl, rfl, by simp [setBlock], fun i _ hi => hset.2 i (fun e1 => hi (by rw [e1]))⟩
    · rcases hal with rfl | rfl <;> simp [setBlock]
end
end Go.Mf
