/- How an index lies in memory. No program is stepped through here. No condition. -/
import Derived.Test.YtokfiikpfckahaaD
import Derived.Test.YtokfiikpfckahaaM
set_option linter.unusedVariables false
set_option linter.unusedSimpArgs false
namespace Go.Proofs.Ytokfiikpfckahaa
open Go.RowKit Go.Lib Go.Ix Go.Sort Go.Mf

def setFn (has : Str → Str → Bool) (k : Str) : Str → Option Value := fun id => if has k id = true then some (.bool true) else none

/-- which blocks of maps an index may turn: from base on, without a hole -/
structure Ter where
  base : Nat
  lo : Nat
  hi : Nat
def Ter.ok (T : Ter) (m : Nat) : Prop := T.base ≤ m ∧ (m < T.lo ∨ T.hi ≤ m)
def Ter.fresh (T : Ter) (n : Nat) : Prop := T.base ≤ n ∧ T.hi ≤ n
theorem Ter.fresh.up {T : Ter} {n m : Nat} (h : T.fresh n) (hm : n ≤ m) : T.fresh m := ⟨Nat.le_trans h.1 hm, Nat.le_trans h.2 hm⟩
theorem Ter.fresh.ok {T : Ter} {n : Nat} (h : T.fresh n) : T.ok n := ⟨h.1, Or.inr h.2⟩

/-- THE INDEX in block x: its two maps in mw, mi; the words of each id; which id a word has. -/
structure IxM (w : World) (B : Ter) (x mw mi : Nat) (fw fi : Str → Option Value) (W : Str → Option (List Str)) (has : Str → Str → Bool) : Prop where
  blk : w.heap[x]? = some (.cells #[.map (some mw), .map (some mi)] 56 (0, 0))
  hmw : B.ok mw
  hmi : B.ok mi
  ne : mw ≠ mi
  words : MapFn w mw encStr fw
  ids : MapFn w mi encStr fi
  rowN : ∀ id, W id = none → fw id = none
  rowS : ∀ id ws, W id = some ws → ∃ v, fw id = some v ∧ OwnS w 0 v ws
  sets : ∀ k, (fi k = none ∧ ∀ id, has k id = false) ∨ ∃ m, fi k = some (.map (some m)) ∧ B.ok m ∧ m ≠ mw ∧ m ≠ mi ∧ MapFn w m encStr (setFn has k)
  inj : ∀ k k' m, fi k = some (.map (some m)) → fi k' = some (.map (some m)) → k = k'

section
variable {w w' : World} {B : Ter} {x mw mi : Nat} {fw fi : Str → Option Value} {W : Str → Option (List Str)} {has : Str → Str → Bool}

theorem map_not_cells {b : Nat} {f : Str → Option Value} (h : MapFn w b encStr f) {c : Array Value} {t : TypeId} {fr : Nat × Nat} {g : Nat} (hg : w.heap[g]? = some (.cells c t fr)) : g ≠ b := by
  intro e
  obtain ⟨es, clock, l, hb, _⟩ := h
  rw [e, hb] at hg
  cases hg

theorem OwnS.map {v : Value} {ws : List Str} {m b : Nat} {f : Str → Option Value} (h : OwnS w b v ws) (hm : MapFn w m encStr f) (hg : w.grownBy w' (some m)) : OwnS w' b v ws := by
  refine h.kept hg ?_
  rcases h.2 with ⟨rfl, _⟩ | ⟨g, cap, cur, rfl, _, hb, _⟩
  · left; rfl
  · right
    show some g ≠ some m
    intro e
    cases e
    exact map_not_cells hm hb rfl

theorem _root_.Go.Mf.MapFn.other {m m' : Nat} {f : Str → Option Value} (h : MapFn w m' encStr f) (hg : w.grownBy w' (some m)) (hne : m' ≠ m) : MapFn w' m' encStr f :=
  h.of_heap (hg.block m' h.lt (fun e => hne (by cases e; rfl)))

theorem IxM.lt (h : IxM w B x mw mi fw fi W has) : x < w.heap.size := (Array.getElem?_eq_some_iff.1 h.blk).1

theorem IxM.up (h : IxM w B x mw mi fw fi W has) (hb : Below w.heap.size w w') : IxM w' B x mw mi fw fi W has where
  blk := (hb.block x h.lt).trans h.blk
  hmw := h.hmw
  hmi := h.hmi
  ne := h.ne
  words := h.words.of_heap (hb.block _ h.words.lt)
  ids := h.ids.of_heap (hb.block _ h.ids.lt)
  rowN := h.rowN
  rowS := fun id ws hw => by obtain ⟨v, h1, h2⟩ := h.rowS id ws hw; exact ⟨v, h1, own_up h2 hb⟩
  sets := fun k => by
    rcases h.sets k with h1 | ⟨m, h1, h2, h3, h4, h5⟩
    · exact Or.inl h1
    · exact Or.inr ⟨m, h1, h2, h3, h4, h5.of_heap (hb.block _ h5.lt)⟩
  inj := h.inj

/-- one inner map is written -/
theorem IxM.inner (h : IxM w B x mw mi fw fi W has) {k : Str} {m : Nat} (hk : fi k = some (.map (some m))) {has' : Str → Str → Bool} (hh : ∀ k' id, k' ≠ k → has' k' id = has k' id)
    (hm' : MapFn w' m encStr (setFn has' k)) (hg : w.grownBy w' (some m)) : IxM w' B x mw mi fw fi W has' := by
  obtain ⟨hB, hn1, hn2, hm⟩ : B.ok m ∧ m ≠ mw ∧ m ≠ mi ∧ MapFn w m encStr (setFn has k) := by
    rcases h.sets k with h1 | ⟨m1, h1, h2, h3, h4, h5⟩
    · rw [h1.1] at hk; cases hk
    · rw [h1] at hk; cases hk; exact ⟨h2, h3, h4, h5⟩
  exact {
    blk := (hg.block x h.lt (fun e => map_not_cells hm h.blk (by cases e; rfl))).trans h.blk
    hmw := h.hmw
    hmi := h.hmi
    ne := h.ne
    words := h.words.other hg (Ne.symm hn1)
    ids := h.ids.other hg (Ne.symm hn2)
    rowN := h.rowN
    rowS := fun id ws hw => by obtain ⟨v, h1, h2⟩ := h.rowS id ws hw; exact ⟨v, h1, OwnS.map h2 hm hg⟩
    sets := fun k' => by
      by_cases e : k' = k
      · subst e
        exact Or.inr ⟨m, hk, hB, hn1, hn2, hm'⟩
      · have hs : setFn has' k' = setFn has k' := by funext id; simp [setFn, hh k' id e]
        rcases h.sets k' with h1 | ⟨m1, h1, h2, h3, h4, h5⟩
        · exact Or.inl ⟨h1.1, fun id => by rw [hh k' id e]; exact h1.2 id⟩
        · refine Or.inr ⟨m1, h1, h2, h3, h4, ?_⟩
          rw [hs]
          exact h5.other hg (fun e2 => e (by subst e2; exact h.inj _ _ _ h1 hk))
    inj := h.inj }

/-- a key without ids is struck from ids -/
theorem IxM.strike (h : IxM w B x mw mi fw fi W has) {k : Str} (hno : ∀ id, has k id = false)
    (hm' : MapFn w' mi encStr (fun j => if j = k then none else fi j)) (hg : w.grownBy w' (some mi)) : IxM w' B x mw mi fw (fun j => if j = k then none else fi j) W has where
  blk := (hg.block x h.lt (fun e => map_not_cells h.ids h.blk (by cases e; rfl))).trans h.blk
  hmw := h.hmw
  hmi := h.hmi
  ne := h.ne
  words := h.words.other hg h.ne
  ids := hm'
  rowN := h.rowN
  rowS := fun id ws hw => by obtain ⟨v, h1, h2⟩ := h.rowS id ws hw; exact ⟨v, h1, OwnS.map h2 h.ids hg⟩
  sets := fun k' => by
    by_cases e : k' = k
    · subst e; exact Or.inl ⟨if_pos rfl, hno⟩
    · rcases h.sets k' with h1 | ⟨m1, h1, h2, h3, h4, h5⟩
      · exact Or.inl ⟨by rw [if_neg e]; exact h1.1, h1.2⟩
      · exact Or.inr ⟨m1, by rw [if_neg e]; exact h1, h2, h3, h4, h5.other hg h4⟩
  inj := fun k1 k2 m h1 h2 => by
    by_cases e1 : k1 = k
    · rw [if_pos e1] at h1; cases h1
    · by_cases e2 : k2 = k
      · rw [if_pos e2] at h2; cases h2
      · rw [if_neg e1] at h1; rw [if_neg e2] at h2; exact h.inj _ _ _ h1 h2

/-- a new empty map of ids for a key -/
theorem IxM.open (h : IxM w B x mw mi fw fi W has) {k : Str} (hk : fi k = none) {m : Nat} (hm : w.heap.size ≤ m) (hB : B.ok m) {w1 : World} (h1 : Below w.heap.size w w1) (hs : w1.heap.size = m + 1) (hnew : MapFn w1 m encStr (fun _ => none))
    (hm' : MapFn w' mi encStr (fun j => if j = k then some (.map (some m)) else fi j)) (hg : w1.grownBy w' (some mi)) : IxM w' B x mw mi fw (fun j => if j = k then some (.map (some m)) else fi j) W has := by
  have h' := h.up h1
  have hold : ∀ k' m', fi k' = some (.map (some m')) → m' < w.heap.size := fun k' m' e => by
    rcases h.sets k' with h2 | ⟨m1, h2, _, _, _, h3⟩
    · rw [h2.1] at e; cases e
    · rw [h2] at e; cases e; exact h3.lt
  have hmi : m ≠ mi := by have := h.ids.lt; omega
  have hmw : m ≠ mw := by have := h.words.lt; omega
  exact {
    blk := (hg.block x h'.lt (fun e => map_not_cells h'.ids h'.blk (by cases e; rfl))).trans h'.blk
    hmw := h.hmw
    hmi := h.hmi
    ne := h.ne
    words := h'.words.other hg h.ne
    ids := hm'
    rowN := h.rowN
    rowS := fun id ws hw => by obtain ⟨v, h1, h2⟩ := h'.rowS id ws hw; exact ⟨v, h1, OwnS.map h2 h'.ids hg⟩
    sets := fun k' => by
      by_cases e : k' = k
      · subst e
        have hno : ∀ id, has k' id = false := by
          rcases h.sets k' with h2 | ⟨m1, h2, _⟩
          · exact h2.2
          · rw [hk] at h2; cases h2
        refine Or.inr ⟨m, if_pos rfl, hB, hmw, hmi, ?_⟩
        have : setFn has k' = fun _ => none := by funext id; simp [setFn, hno id]
        rw [this]
        exact hnew.other hg hmi
      · rcases h'.sets k' with h1 | ⟨m1, h1, h2, h3, h4, h5⟩
        · exact Or.inl ⟨by rw [if_neg e]; exact h1.1, h1.2⟩
        · exact Or.inr ⟨m1, by rw [if_neg e]; exact h1, h2, h3, h4, h5.other hg h4⟩
    inj := fun k1 k2 m' h1 h2 => by
      by_cases e1 : k1 = k
      · by_cases e2 : k2 = k
        · rw [e1, e2]
        · rw [if_pos e1] at h1; rw [if_neg e2] at h2
          cases h1
          have := hold _ _ h2
          omega
      · by_cases e2 : k2 = k
        · rw [if_neg e1] at h1; rw [if_pos e2] at h2
          cases h2
          have := hold _ _ h1
          omega
        · rw [if_neg e1] at h1; rw [if_neg e2] at h2; exact h.inj _ _ _ h1 h2 }

/-- the words of an id are struck -/
theorem IxM.forget (h : IxM w B x mw mi fw fi W has) {i : Str}
    (hm' : MapFn w' mw encStr (fun j => if j = i then none else fw j)) (hg : w.grownBy w' (some mw)) : IxM w' B x mw mi (fun j => if j = i then none else fw j) fi (fun j => if j = i then none else W j) has where
  blk := (hg.block x h.lt (fun e => map_not_cells h.words h.blk (by cases e; rfl))).trans h.blk
  hmw := h.hmw
  hmi := h.hmi
  ne := h.ne
  words := hm'
  ids := h.ids.other hg (Ne.symm h.ne)
  rowN := fun id hw => by
    by_cases e : id = i
    · exact if_pos e
    · rw [if_neg e] at hw; rw [if_neg e]; exact h.rowN id hw
  rowS := fun id ws hw => by
    by_cases e : id = i
    · rw [if_pos e] at hw; cases hw
    · rw [if_neg e] at hw
      obtain ⟨v, h1, h2⟩ := h.rowS id ws hw
      exact ⟨v, by rw [if_neg e]; exact h1, OwnS.map h2 h.words hg⟩
  sets := fun k' => by
    rcases h.sets k' with h1 | ⟨m1, h1, h2, h3, h4, h5⟩
    · exact Or.inl h1
    · exact Or.inr ⟨m1, h1, h2, h3, h4, h5.other hg h3⟩
  inj := h.inj

/-- the words of an id are set -/
theorem IxM.learn (h : IxM w B x mw mi fw fi W has) {i : Str} {v : Value} {ws : List Str} (hv : OwnS w 0 v ws)
    (hm' : MapFn w' mw encStr (fun j => if j = i then some v else fw j)) (hg : w.grownBy w' (some mw)) : IxM w' B x mw mi (fun j => if j = i then some v else fw j) fi (fun j => if j = i then some ws else W j) has where
  blk := (hg.block x h.lt (fun e => map_not_cells h.words h.blk (by cases e; rfl))).trans h.blk
  hmw := h.hmw
  hmi := h.hmi
  ne := h.ne
  words := hm'
  ids := h.ids.other hg (Ne.symm h.ne)
  rowN := fun id hw => by
    by_cases e : id = i
    · rw [if_pos e] at hw; cases hw
    · rw [if_neg e] at hw; rw [if_neg e]; exact h.rowN id hw
  rowS := fun id ws' hw => by
    by_cases e : id = i
    · rw [if_pos e] at hw; cases hw; exact ⟨v, if_pos e, OwnS.map hv h.words hg⟩
    · rw [if_neg e] at hw
      obtain ⟨v, h1, h2⟩ := h.rowS id ws' hw
      exact ⟨v, by rw [if_neg e]; exact h1, OwnS.map h2 h.words hg⟩
  sets := fun k' => by
    rcases h.sets k' with h1 | ⟨m1, h1, h2, h3, h4, h5⟩
    · exact Or.inl h1
    · exact Or.inr ⟨m1, h1, h2, h3, h4, h5.other hg h3⟩
  inj := h.inj

/-- AN INDEX: of each id its words. -/
def hasOf (W : Str → Option (List Str)) : Str → Str → Bool := fun k id => match W id with
  | some ws => decide (k ∈ ws)
  | none => false

def IxAt (w : World) (B : Ter) (x : Nat) (W : Str → Option (List Str)) : Prop :=
  (∃ mw mi fw fi, IxM w B x mw mi fw fi W (hasOf W)) ∧ ∀ id ws, W id = some ws → ws.Nodup ∧ ws.length ≤ 1000001

theorem IxAt.up (h : IxAt w B x W) (hb : Below w.heap.size w w') : IxAt w' B x W := by
  obtain ⟨⟨mw, mi, fw, fi, h1⟩, h2⟩ := h
  exact ⟨⟨mw, mi, fw, fi, h1.up hb⟩, h2⟩

/-- of what lay below B nothing has turned, and no block of cells -/
structure Bk (B : Ter) (w w' : World) : Prop where
  below : Below B.base w w'
  cells : ∀ (k : Nat) (c : Array Value) (t : TypeId) (fr : Nat × Nat), w.heap[k]? = some (Obj.cells c t fr) → w'.heap[k]? = some (Obj.cells c t fr)
  hole : ∀ k, B.lo ≤ k → k < B.hi → w'.heap[k]? = w.heap[k]?

theorem Bk.refl (B : Ter) (w : World) : Bk B w w := ⟨Below.refl _ _, fun _ _ _ _ h => h, fun _ _ _ => rfl⟩
theorem Bk.trans {B : Ter} {a b c : World} (h : Bk B a b) (k : Bk B b c) : Bk B a c := ⟨h.below.trans k.below, fun i c t fr e => k.cells i c t fr (h.cells i c t fr e), fun i h1 h2 => (k.hole i h1 h2).trans (h.hole i h1 h2)⟩
theorem Bk.size {B : Ter} {a b : World} (h : Bk B a b) : a.heap.size ≤ b.heap.size := h.below.size
theorem Bk.up {B : Ter} {a w w' : World} (h : Bk B a w) (hb : Below w.heap.size w w') (hB : B.fresh w.heap.size) : Bk B a w' :=
  ⟨h.below.trans (hb.mono hB.1), fun i c t fr e => by
    have h1 := h.cells i c t fr e
    exact (hb.block i (Array.getElem?_eq_some_iff.1 h1).1).trans h1, fun i h1 h2 => (hb.block i (Nat.lt_of_lt_of_le h2 hB.2)).trans (h.hole i h1 h2)⟩
theorem Bk.grown {B : Ter} {m : Nat} {a w w' : World} {f : Str → Option Value} (h : Bk B a w) (hm : MapFn w m encStr f) (hg : w.grownBy w' (some m)) (hB : B.fresh w.heap.size) (hmB : B.ok m) : Bk B a w' :=
  ⟨h.below.grown hg hB.1 (fun q hq => by cases hq; exact hmB.1), fun i c t fr e => by
    have h1 := h.cells i c t fr e
    exact (hg.block i (Array.getElem?_eq_some_iff.1 h1).1 (fun e2 => map_not_cells hm h1 (by cases e2; rfl))).trans h1, fun i h1 h2 => (hg.block i (Nat.lt_of_lt_of_le h2 hB.2) (fun e2 => by cases e2; have := hmB.2; omega)).trans (h.hole i h1 h2)⟩
theorem Bk.row {B : Ter} {B' : Nat} {a w : World} {v : Value} {l : List Str} (h : Bk B a w) (ho : OwnS a B' v l) : OwnS w B' v l := by
  refine ⟨ho.1, ?_⟩
  rcases ho.2 with h1 | ⟨g, cap, cur, h1, h2, h3, h4⟩
  · exact Or.inl h1
  · exact Or.inr ⟨g, cap, cur, h1, h2, h.cells _ _ _ _ h3, h4⟩
end
end Go.Proofs.Ytokfiikpfckahaa
