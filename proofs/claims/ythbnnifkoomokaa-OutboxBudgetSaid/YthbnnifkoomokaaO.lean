/- The contracts of New as one statement each way, and the plain values of the small examples. -/
import Derived.Test.YthbnnifkoomokaaM
set_option linter.unusedVariables false
set_option linter.unusedSimpArgs false
namespace Go.Proofs.Ythbnnifkoomokaa
open Go.RowKit Go.Mf

def newOk (me n : Int) : Prop := 1 ≤ n ∧ n ≤ 20 ∧ 0 ≤ me ∧ me < n
instance (me n : Int) : Decidable (newOk me n) := by unfold newOk; infer_instance
def Bx.new (me n bud : Int) : Bx := newX me n (max bud 64) n

def NewPost (w : World) (me n bud : Int) : Ending → World → Prop := fun e w' => ∃ b, e = .returned (.pointer (some ⟨b, 0, none⟩)) ∧ BoxAt w' w.heap.size w'.heap.size b (Bx.new me n bud) ∧ Below w.heap.size w w'

theorem new_box (me n bud : Int) (w : World) (h : newOk me n) : Calls Try.prog 9 #[.int .i64 me, .int .i64 n, .int .i64 bud] w (NewPost w me n bud) := by
  obtain ⟨h1, h2, h3, h4⟩ := h
  refine (new_raw me n bud (max bud 64) w h1 h2 h3 h4 (by omega)).mono ?_
  rintro e w' ⟨rfl, hr⟩
  exact ⟨_, rfl, ⟨_, _, _, hr.box⟩, hr.below⟩
theorem new_none (me n bud : Int) (w : World) (h : ¬ newOk me n) : Calls Try.prog 9 #[.int .i64 me, .int .i64 n, .int .i64 bud] w fun e w' => e = .returned (.pointer none) ∧ w = w' :=
  new_nil me n bud w (by unfold newOk at h; omega)

theorem new_ok {me n bud : Int} (h : newOk me n) (hb : bud ≤ 9223372036854775807) : (Bx.new me n bud).Ok 0 where
  n1 := h.1
  n2 := h.2.1
  me0 := h.2.2.1
  me1 := h.2.2.2
  b0 := by show 64 ≤ max bud 64; omega
  b1 := by show max bud 64 ≤ _; omega
  s0 := fun k l => by simp [Bx.new, newX, Bx.sentOf]
  u0 := fun k st hk => by
    simp only [Bx.new, newX] at hk
    split at hk
    · cases hk; simp
    · cases hk

theorem ack_ok {X : Bx} {N : Int} (ok : X.Ok N) (hN : 0 ≤ N) (k l size now : Int) : (X.ack k l size now).Ok N := by
  unfold Bx.ack
  split
  · rename_i h
    simp only [Bx.ackOk, Bool.and_eq_true, decide_eq_true_eq] at h
    exact {
      n1 := ok.n1, n2 := ok.n2, me0 := ok.me0, me1 := ok.me1, b0 := ok.b0, b1 := ok.b1
      s0 := fun k' l' => by
        have h1 := ok.s0 k l
        have h2 := ok.s0 k' l'
        have h3 := h.2
        unfold Bx.sentOf Bx.ackYes at *
        dsimp only at *
        split <;> simp <;> omega
      u0 := fun k' st hk => by
        unfold Bx.ackYes at hk
        dsimp only at hk
        split at hk
        · cases hk; have := clamp_bounds now; dsimp only; omega
        · exact ok.u0 k' st hk }
  · exact ok

theorem planTo_ok {X : Bx} {N : Int} (ok : X.Ok N) {t : Int} (h0 : 0 ≤ t) (h1 : t ≤ 1099511627776) (L : List (List Int)) : ∀ k : Nat, (planTo X t L k).2.Ok (N + k)
  | 0 => ok.mono (by omega)
  | k + 1 => (planStep_ok (L := L) (p := (k : Int)) (planTo_ok ok h0 h1 L k) h0 h1).mono (by omega)
theorem plan_ok {X : Bx} {N : Int} (ok : X.Ok N) (now : Int) (L : List (List Int)) : (X.plan now L).2.Ok (N + 20) := by
  have h := clamp_bounds now
  have := planTo_ok ok h.1 h.2 L X.n.toNat
  exact this.mono (by have := ok.n2; omega)
theorem plan_len {X : Bx} {N : Int} (ok : X.Ok N) (now : Int) (L : List (List Int)) : (X.plan now L).1.length ≤ 160 := by
  have := planTo_len X (clamp now 0 1099511627776) L X.n.toNat
  unfold Bx.plan; have := ok.n2; omega

theorem BoxAt.alloc {w : World} {lo hi b : Nat} {X : Bx} (h : BoxAt w lo hi b X) (o : Obj) : BoxAt (w.alloc o) lo hi b X :=
  h.of_heap (fun k _ h2 => Below.heap_alloc w o k (by have := h.top; omega)) (by simp)
theorem SndsAt.alloc {w : World} {v : Value} {l : List Snd} (h : SndsAt w v l) (o : Obj) : SndsAt (w.alloc o) v l :=
  h.of_cells (fun a x hx => (World.cell?_of_block (Below.heap_alloc w o a.block (World.block_lt_of_cell? _ _ hx))).trans hx)
theorem RowsAt.alloc {w : World} {S : Nat → Prop} {v : Value} {L : List (List Int)} (h : RowsAt w S v L) (o : Obj) : RowsAt (w.alloc o) S v L :=
  h.of_cells (fun a x _ hx => (World.cell?_of_block (Below.heap_alloc w o a.block (World.block_lt_of_cell? _ _ hx))).trans hx)
theorem RowsAt.upd {w w' : World} {lo hi : Nat} {v : Value} {L : List (List Int)} (h : RowsAt w (fun j => ¬ (lo ≤ j ∧ j < hi)) v L) (hu : Upd lo hi w w') : RowsAt w' (fun j => ¬ (lo ≤ j ∧ j < hi)) v L :=
  h.of_cells (fun a x hS hx => cell_upd hu hS hx)

def smallEnds : List (List Int) := [[5], [], [70, 40]]

theorem small_rows (w : World) (lo hi : Nat) (h : hi ≤ w.heap.size) : RowsAt (((w.alloc (.cells #[.int .i64 5] 3)).alloc (.cells #[.int .i64 70, .int .i64 40] 3)).alloc (.cells #[.slice (some ⟨w.heap.size, 0, none⟩) 1 1, .slice none 0 0, .slice (some ⟨w.heap.size + 1, 0, none⟩) 2 2] 25))
    (fun j => ¬ (lo ≤ j ∧ j < hi)) (.slice (some ⟨w.heap.size + 1 + 1, 0, none⟩) 3 3) smallEnds := by
  obtain ⟨W, hW⟩ : ∃ W, W = (((w.alloc (.cells #[.int .i64 5] 3)).alloc (.cells #[.int .i64 70, .int .i64 40] 3)).alloc (.cells #[.slice (some ⟨w.heap.size, 0, none⟩) 1 1, .slice none 0 0, .slice (some ⟨w.heap.size + 1, 0, none⟩) 2 2] 25)) := ⟨_, rfl⟩
  have e0 : W.heap[w.heap.size]? = some (.cells #[.int .i64 5] 3 (0, 0)) := by
    rw [hW, Below.heap_alloc _ _ _ (by simp only [World.size_alloc]; omega), Below.heap_alloc _ _ _ (by simp)]; exact heap_alloc_new _ _
  have e1 : W.heap[w.heap.size + 1]? = some (.cells #[.int .i64 70, .int .i64 40] 3 (0, 0)) := by
    rw [hW, Below.heap_alloc _ _ _ (by simp)]
    have := heap_alloc_new (w.alloc (.cells #[.int .i64 5] 3)) (.cells #[.int .i64 70, .int .i64 40] 3)
    simpa using this
  have e2 : W.heap[w.heap.size + 1 + 1]? = some (.cells #[.slice (some ⟨w.heap.size, 0, none⟩) 1 1, .slice none 0 0, .slice (some ⟨w.heap.size + 1, 0, none⟩) 2 2] 25 (0, 0)) := by
    rw [hW]
    have := heap_alloc_new ((w.alloc (.cells #[.int .i64 5] 3)).alloc (.cells #[.int .i64 70, .int .i64 40] 3)) (.cells #[.slice (some ⟨w.heap.size, 0, none⟩) 1 1, .slice none 0 0, .slice (some ⟨w.heap.size + 1, 0, none⟩) 2 2] 25)
    simpa using this
  rw [← hW]
  refine ⟨_, _, rfl, by decide, fun _ => ⟨_, 0, rfl, by omega, fun j hj => ?_⟩⟩
  have hj3 : j = 0 ∨ j = 1 ∨ j = 2 := by have : smallEnds.length = 3 := rfl; omega
  rcases hj3 with rfl | rfl | rfl
  · refine ⟨_, cell_of_block e2 0, _, _, rfl, by decide, by decide +kernel, fun _ => ⟨_, 0, rfl, by omega, fun j hj => ?_⟩⟩
    have : j = 0 := by have : (smallEnds.getD 0 []).length = 1 := rfl; omega
    subst this
    exact cell_of_block e0 0
  · refine ⟨_, cell_of_block e2 1, _, _, rfl, by decide, by decide +kernel, fun h => absurd rfl h⟩
  · refine ⟨_, cell_of_block e2 2, _, _, rfl, by decide, by decide +kernel, fun _ => ⟨_, 0, rfl, by omega, fun j hj => ?_⟩⟩
    have : j = 0 ∨ j = 1 := by have : (smallEnds.getD 2 []).length = 2 := rfl; omega
    rcases this with rfl | rfl
    · exact cell_of_block e1 0
    · exact cell_of_block e1 1

def sX0 : Bx := Bx.new 0 3 10
def sX1 : Bx := (sX0.plan 0 smallEnds).2
def sX2 : Bx := sX1.ack 1 2 40 0
def sL1 : List Snd := [⟨1, 0, 0, 5⟩, ⟨1, 2, 0, 40⟩, ⟨2, 0, 0, 5⟩]
def sL2 : List Snd := [⟨1, 0, 0, 5⟩, ⟨1, 2, 40, 30⟩]
theorem s1 : (sX0.plan 0 smallEnds).1 = sL1 := by decide +kernel
theorem s2 : sX1.due 1 0 = false := by decide +kernel
theorem s3 : sX1.due 1 1 = true := by decide +kernel
theorem s4 : sX1.due 0 5 = false := by decide +kernel
theorem s5 : sX1.ackOk 1 2 40 = true := by decide +kernel
theorem s6 : sX2.due 1 0 = true := by decide +kernel
theorem s7 : sX2.sentOf 1 2 = 40 := by decide +kernel
theorem s8 : (sX2.plan 0 smallEnds).1 = sL2 := by decide +kernel
end Go.Proofs.Ythbnnifkoomokaa
