/- Plain facts for OutboxBudget: what a plan keeps, and what stays true of the box. No program is run. -/
import Derived.Test.YthbnnifkoomokaaAa
set_option linter.unusedVariables false
set_option linter.unusedSimpArgs false
namespace Go.Proofs.Ythbnnifkoomokaa
open Go.RowKit Go.Mf

theorem lackStep_sum (X : Bx) (p : Int) (L : List (List Int)) (log : Int) (st : List Snd × Int) : ((lackStep X p L log st).1.map (·.count)).sum + (lackStep X p L log st).2 = (st.1.map (·.count)).sum + st.2 := by
  unfold lackStep
  split
  · rfl
  · dsimp only
    split
    · simp only [List.map_append, List.sum_append, List.map_cons, List.map_nil, List.sum_cons, List.sum_nil]; omega
    · rfl
theorem lackTo_sum (X : Bx) (p t : Int) (L : List (List Int)) : ∀ k, ((lackTo X p t L k).1.map (·.count)).sum + (lackTo X p t L k).2 = X.bud
  | 0 => by simp [lackTo]
  | k + 1 => by
    have h := lackTo_sum X p t L k
    unfold lackTo; rw [lackStep_sum]; exact h
theorem lacks_sum {X : Bx} (h : 0 ≤ X.bud) (p t : Int) (L : List (List Int)) : ((X.lacks p t L).map (·.count)).sum ≤ X.bud := by
  have h1 := lackTo_sum X p t L X.n.toNat
  have h2 := (lackTo_left (X := X) (p := p) (now := t) (L := L) h X.n.toNat).1
  unfold Bx.lacks; omega

/-- what holds at each call's head -/
structure BInv (me n bud : Int) (gone : Nat → Bool) (X : Bx) : Prop where
  hn : X.n = n
  hb : X.bud = max bud 64
  live : ∀ p, (X.peers p).isSome = true → 0 ≤ p ∧ p < n ∧ p ≠ me
  gone : ∀ p : Nat, gone p = true → X.peers p = none

theorem binv_new {me n : Int} (bud : Int) : BInv me n bud (fun _ => false) (Bx.new me n bud) where
  hn := rfl
  hb := rfl
  live := fun p hp => by
    simp only [Bx.new, newX] at hp
    by_cases h : 0 ≤ p ∧ p < n ∧ p ≠ me
    · exact h
    · rw [if_neg h] at hp; simp at hp
  gone := fun p h => by simp at h
theorem binv_ack {me n bud : Int} {gone : Nat → Bool} {X : Bx} (h : BInv me n bud gone X) (a b c d : Int) : BInv me n bud gone (X.ack a b c d) where
  hn := (ack_n X a b c d).1.trans h.hn
  hb := by
    have : (X.ack a b c d).bud = X.bud := by unfold Bx.ack; split <;> rfl
    rw [this]; exact h.hb
  live := fun p hp => h.live p (by rw [← ack_live X a b c d p]; exact hp)
  gone := fun p hp => by
    have h1 := ack_live X a b c d p
    rw [h.gone p hp] at h1
    cases hh : (X.ack a b c d).peers p with
    | none => rfl
    | some _ => rw [hh] at h1; simp at h1
theorem binv_give {me n bud : Int} {gone : Nat → Bool} {X : Bx} (h : BInv me n bud gone X) (k : Int) : BInv me n bud gone (X.give k) where
  hn := h.hn
  hb := h.hb
  live := fun p hp => by
    simp only [Bx.give] at hp
    by_cases e : p = k
    · rw [if_pos e] at hp; simp at hp
    · rw [if_neg e] at hp; exact h.live p hp
  gone := fun p hp => by
    simp only [Bx.give]
    split
    · rfl
    · exact h.gone p hp
theorem binv_gone {me n bud : Int} {gone : Nat → Bool} {X : Bx} {k : Nat} (h : BInv me n bud gone (X.give k)) : BInv me n bud (fun q => if q = k then true else gone q) (X.give k) where
  hn := h.hn
  hb := h.hb
  live := h.live
  gone := fun p hp => by
    by_cases e : p = k
    · subst e; simp [Bx.give]
    · rw [if_neg e] at hp; exact h.gone p hp

theorem pw_pos (s : Int) : 1 ≤ pw s := by unfold pw; repeat' split <;> omega

theorem binv_plan {me n bud : Int} {gone : Nat → Bool} {X : Bx} (h : BInv me n bud gone X) (hn1 : 1 ≤ n) (now : Int) (L : List (List Int)) : BInv me n bud gone (X.plan now L).2 := by
  have pi := plan_is (X := X) (by rw [h.hn]; exact hn1) (now := now) rfl L
  exact {
    hn := pi.hn.trans h.hn
    hb := pi.hb.trans h.hb
    live := fun p hp => h.live p (by
      rw [pi.peers] at hp
      split at hp
      · simpa using hp
      · exact hp)
    gone := fun p hp => by
      rw [pi.peers, h.gone p hp]
      split <;> rfl }

structure BPlan (X Y : Bx) (me n bud now : Int) (gone : Nat → Bool) (L : List (List Int)) (l : List Snd) : Prop where
  ok : WOk Y me bud L l
  each : ∀ s ∈ l, 0 ≤ s.peer ∧ s.peer < n ∧ X.due s.peer now = true ∧ gone s.peer.toNat = false ∧ Y.due s.peer now = false

theorem bplan {me n bud N : Int} {gone : Nat → Bool} {X : Bx} (h : BInv me n bud gone X) (hn1 : 1 ≤ n) (hok : X.Ok N) (now : Int) (L : List (List Int)) : BPlan X (X.plan now L).2 me n bud now gone L (X.plan now L).1 := by
  obtain ⟨t, ht⟩ : ∃ t, clamp now 0 1099511627776 = t := ⟨_, rfl⟩
  have pi := plan_is (X := X) (by rw [h.hn]; exact hn1) ht L
  have hb0 : 0 ≤ X.bud := by have := hok.b0; omega
  have hsent : ∀ a b, (X.plan now L).2.sentOf a b = X.sentOf a b := fun a b => by unfold Bx.sentOf; rw [pi.hs]
  refine ⟨⟨fun s hs => ?_, pi.asc, fun p => ?_, fun p => ?_⟩, fun s hs => ?_⟩
  · obtain ⟨h1, h2, h3⟩ := pi.each s hs
    obtain ⟨st, hst⟩ := due_isSome h2
    have hl := h.live s.peer (by rw [hst]; rfl)
    refine ⟨hl.2.2, h1.lgp, h1.lg0, h1.lgL, h1.c1, h1.c2, by rw [hsent]; exact h1.src, by rw [h1.src]; exact hok.s0 _ _, h1.mem⟩
  · rw [pi.filt]
    split
    · exact lacks_len _ _ _ _
    · simp
  · rw [pi.filt]
    have hb := h.hb
    split
    · have := lacks_sum hb0 p t L; omega
    · simp only [List.map_nil, List.sum_nil]; omega
  · obtain ⟨h1, h2, h3⟩ := pi.each s hs
    obtain ⟨st, hst⟩ := due_isSome h2
    have hl := h.live s.peer (by rw [hst]; rfl)
    refine ⟨hl.1, hl.2.1, h2, ?_, ?_⟩
    · cases hg : gone s.peer.toNat with
      | false => rfl
      | true =>
        have := h.gone _ hg
        rw [show ((s.peer.toNat : Nat) : Int) = s.peer by omega, hst] at this
        simp at this
    · have hp := pi.peers s.peer
      rw [if_pos ⟨hl.1, by rw [h.hn]; exact hl.2.1, h2, h3⟩, hst] at hp
      unfold Bx.due
      rw [hp, ht]
      simp only [Option.map_some, decide_eq_false_iff_not]
      have := pw_pos st.2; omega
theorem binv_me {me n bud : Int} {gone : Nat → Bool} {X : Bx} (h : BInv me n bud gone X) (now : Int) : X.due me now = false := by
  unfold Bx.due
  cases hp : X.peers me with
  | none => rfl
  | some st => exact absurd rfl (h.live me (by rw [hp]; rfl)).2.2

theorem give_ok {X : Bx} {N : Int} (ok : X.Ok N) (k : Int) : (X.give k).Ok N :=
  { n1 := ok.n1, n2 := ok.n2, me0 := ok.me0, me1 := ok.me1, b0 := ok.b0, b1 := ok.b1, s0 := ok.s0
    u0 := fun j st hj => ok.u0 j st (by
      simp only [Bx.give] at hj
      split at hj
      · simp at hj
      · exact hj) }
end Go.Proofs.Ythbnnifkoomokaa
