/- Plain facts on what a plan for one peer is; slices of numbers and of sends in memory. No program is run. -/
import Derived.Test.YthbnnifkoomokaaF
set_option linter.unusedVariables false
set_option linter.unusedSimpArgs false
namespace Go.Proofs.Ythbnnifkoomokaa
open Go.RowKit Go.Mf

/-- v is a slice of ints that reads as l in w; its block is in S -/
def IntsAt (w : World) (S : Nat → Prop) (v : Value) (l : List Int) : Prop :=
  ∃ a c, v = .slice a l.length c ∧ l.length ≤ 9223372036854775807 ∧ (∀ x ∈ l, -9223372036854775808 ≤ x ∧ x ≤ 9223372036854775807) ∧
    (l ≠ [] → ∃ b off, a = some ⟨b, off, none⟩ ∧ S b ∧ ∀ j, j < l.length → w.cell? ⟨b, off + j, none⟩ = some (.int .i64 (l.getD j 0)))

/-- v is a slice of such slices -/
def RowsAt (w : World) (S : Nat → Prop) (v : Value) (L : List (List Int)) : Prop :=
  ∃ a c, v = .slice a L.length c ∧ L.length ≤ 9223372036854775807 ∧
    (L ≠ [] → ∃ b off, a = some ⟨b, off, none⟩ ∧ S b ∧ ∀ j, j < L.length → ∃ u, w.cell? ⟨b, off + j, none⟩ = some u ∧ IntsAt w S u (L.getD j []))

theorem IntsAt.of_cells {w w' : World} {S : Nat → Prop} {v : Value} {l : List Int} (h : IntsAt w S v l) (hc : ∀ a x, S a.block → w.cell? a = some x → w'.cell? a = some x) : IntsAt w' S v l := by
  obtain ⟨a, c, h1, h2, h3, h4⟩ := h
  refine ⟨a, c, h1, h2, h3, fun hn => ?_⟩
  obtain ⟨b, off, h5, hS, h6⟩ := h4 hn
  exact ⟨b, off, h5, hS, fun j hj => hc _ _ hS (h6 j hj)⟩
theorem RowsAt.of_cells {w w' : World} {S : Nat → Prop} {v : Value} {L : List (List Int)} (h : RowsAt w S v L) (hc : ∀ a x, S a.block → w.cell? a = some x → w'.cell? a = some x) : RowsAt w' S v L := by
  obtain ⟨a, c, h1, h2, h4⟩ := h
  refine ⟨a, c, h1, h2, fun hn => ?_⟩
  obtain ⟨b, off, h5, hS, h6⟩ := h4 hn
  refine ⟨b, off, h5, hS, fun j hj => ?_⟩
  obtain ⟨u, h7, h8⟩ := h6 j hj
  exact ⟨u, hc _ _ hS h7, h8.of_cells hc⟩
theorem cell_upd {lo hi : Nat} {w wr : World} (h : Upd lo hi w wr) {a : Addr} {x : Value} (hS : ¬ (lo ≤ a.block ∧ a.block < hi)) (hx : w.cell? a = some x) : wr.cell? a = some x :=
  (World.cell?_of_block (h.block a.block (World.block_lt_of_cell? _ _ hx) hS)).trans hx

structure Snd where
  peer : Int
  log : Int
  src : Int
  count : Int
  deriving DecidableEq

def sndCells (s : Snd) : List Value := [.int .i64 s.peer, .int .i64 s.log, .int .i64 s.src, .int .i64 s.count]
def flat (l : List Snd) : List Value := l.flatMap sndCells
theorem flat_length (l : List Snd) : (flat l).length = l.length * 4 := by
  induction l with
  | nil => rfl
  | cons s l ih => simp only [flat, List.flatMap_cons, List.length_append, List.length_cons] at ih ⊢; rw [ih]; simp [sndCells]; omega

def bestStep (left src : Int) (c e : Int) : Int := if src < e ∧ e - src ≤ min 64 left then max c (e - src) else c
def best (left src : Int) (es : List Int) : Int := es.foldl (bestStep left src) 0

def logAt (X : Bx) (now : Int) (k : Nat) : Int := (now % X.n + k) % X.n

def lackStep (X : Bx) (p : Int) (L : List (List Int)) (log : Int) (st : List Snd × Int) : List Snd × Int :=
  if log = p ∨ (L.length : Int) ≤ log ∨ st.1.length = 8 then st
  else
    let c := best st.2 (X.sentOf p log) (L.getD log.toNat [])
    if 0 < c then (st.1 ++ [⟨p, log, X.sentOf p log, c⟩], st.2 - c) else st

def lackTo (X : Bx) (p now : Int) (L : List (List Int)) : Nat → List Snd × Int
  | 0 => ([], X.bud)
  | k + 1 => lackStep X p L (logAt X now k) (lackTo X p now L k)

def Bx.lacks (X : Bx) (p now : Int) (L : List (List Int)) : List Snd := (lackTo X p now L X.n.toNat).1

theorem bestStep_bounds {left src c e : Int} (h0 : 0 ≤ c) (h1 : c ≤ max 0 (min 64 left)) : 0 ≤ bestStep left src c e ∧ bestStep left src c e ≤ max 0 (min 64 left) := by
  unfold bestStep; split <;> omega
theorem foldl_bounds {left src : Int} (es : List Int) : ∀ c, 0 ≤ c → c ≤ max 0 (min 64 left) → 0 ≤ es.foldl (bestStep left src) c ∧ es.foldl (bestStep left src) c ≤ max 0 (min 64 left) := by
  induction es with
  | nil => intro c h0 h1; exact ⟨h0, h1⟩
  | cons e es ih => intro c h0 h1; have := bestStep_bounds (src := src) (e := e) h0 h1; exact ih _ this.1 this.2
theorem best_bounds (left src : Int) (es : List Int) : 0 ≤ best left src es ∧ best left src es ≤ max 0 (min 64 left) := foldl_bounds es 0 (by omega) (by omega)

theorem lackStep_left {X : Bx} {p : Int} {L : List (List Int)} {log : Int} {st : List Snd × Int} (h : 0 ≤ st.2) : 0 ≤ (lackStep X p L log st).2 ∧ (lackStep X p L log st).2 ≤ st.2 := by
  unfold lackStep
  split
  · omega
  · have := best_bounds st.2 (X.sentOf p log) (L.getD log.toNat [])
    dsimp only
    split <;> omega
theorem lackTo_left {X : Bx} {p now : Int} {L : List (List Int)} (h : 0 ≤ X.bud) : ∀ k, 0 ≤ (lackTo X p now L k).2 ∧ (lackTo X p now L k).2 ≤ X.bud
  | 0 => ⟨h, Int.le_refl _⟩
  | k + 1 => by
    have := lackTo_left (p := p) (now := now) (L := L) h k
    have h2 := lackStep_left (X := X) (p := p) (L := L) (log := logAt X now k) this.1
    unfold lackTo; omega
theorem lackStep_len {X : Bx} {p : Int} {L : List (List Int)} {log : Int} {st : List Snd × Int} (h : st.1.length ≤ 8) : (lackStep X p L log st).1.length ≤ 8 := by
  unfold lackStep
  split
  · exact h
  · dsimp only
    split
    · simp only [List.length_append, List.length_cons, List.length_nil]; omega
    · exact h
theorem lackTo_len {X : Bx} {p now : Int} {L : List (List Int)} : ∀ k, (lackTo X p now L k).1.length ≤ 8
  | 0 => by simp [lackTo]
  | k + 1 => lackStep_len (lackTo_len k)

theorem logAt_bounds {X : Bx} {now : Int} {k : Nat} (h : 1 ≤ X.n) : 0 ≤ logAt X now k ∧ logAt X now k < X.n := by
  unfold logAt; exact ⟨Int.emod_nonneg _ (by omega), Int.emod_lt_of_pos _ (by omega)⟩

theorem log_walk {n now : Int} {k : Nat} (h : 1 ≤ n) (h2 : n ≤ 20) (h3 : (k : Int) < n) (h0 : 0 ≤ now) : (wrap64 (now % n + ↑k)).tmod n = (now % n + k) % n := by
  have e1 : 0 ≤ now % n := Int.emod_nonneg _ (by omega)
  have e2 : now % n < n := Int.emod_lt_of_pos _ (by omega)
  have e3 : wrap64 (now % n + ↑k) = now % n + k := by simp only [wrap64]; omega
  rw [e3, Int.tmod_eq_emod_of_nonneg (by omega)]

theorem best_take {left src : Int} (es : List Int) (j : Nat) (h : j < es.length) : best left src (es.take (j + 1)) = bestStep left src (best left src (es.take j)) (es.getD j 0) := by
  unfold best
  rw [List.take_succ_eq_append_getElem h, List.foldl_append]
  simp [List.getD, h]

theorem below_drewN {B : Nat} {a w : World} (h : Below B a w) (n : Nat) : Below B a (w.drewN n) := ⟨h.os, h.tape, h.output, h.size, h.block⟩
theorem ownsRow_shape {w : World} {base : Nat} {e : TypeId} {size : Nat} {v : Value} {n : Nat} {xs : List Value} (h : w.ownsRow base e size v n xs) : ∃ a c, v = .slice a n c := by
  rcases h.2 with ⟨rfl, rfl⟩ | ⟨g, cap, cur, rfl, _⟩
  · exact ⟨_, _, rfl⟩
  · exact ⟨_, _, rfl⟩
theorem cell_below {w wr : World} (h : Below w.heap.size w wr) {a : Addr} {x : Value} (hx : w.cell? a = some x) : wr.cell? a = some x :=
  (h.cell (World.block_lt_of_cell? _ _ hx)).trans hx
end Go.Proofs.Ythbnnifkoomokaa
