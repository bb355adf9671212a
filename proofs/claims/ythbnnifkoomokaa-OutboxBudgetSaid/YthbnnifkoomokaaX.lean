/- Plain facts on one plan, whatever peers are due: which elements it has, for whom, in which order, and what it leaves. No program is run. -/
import Derived.Test.YthbnnifkoomokaaT
set_option linter.unusedVariables false
set_option linter.unusedSimpArgs false
namespace Go.Proofs.Ythbnnifkoomokaa
open Go.RowKit Go.Mf

structure GInv (X : Bx) (t : Int) (L : List (List Int)) (k : Nat) (r : List Snd × Bx) : Prop where
  hn : r.2.n = X.n
  hme : r.2.me = X.me
  hb : r.2.bud = X.bud
  hs : r.2.sentm = X.sentm
  peers : ∀ j, r.2.peers j = if 0 ≤ j ∧ j < (k : Int) ∧ X.due j t = true ∧ X.lacks j t L ≠ [] then (X.peers j).map (fun st => (t + pw st.2, st.2 + 1)) else X.peers j
  filt : ∀ p : Int, r.1.filter (fun s => s.peer == p) = if 0 ≤ p ∧ p < (k : Int) ∧ X.due p t = true then X.lacks p t L else []
  low : ∀ s ∈ r.1, 0 ≤ s.peer ∧ s.peer < (k : Int)
  asc : r.1.Pairwise fun a b => a.peer ≤ b.peer

theorem filter_same {p q : Int} : ∀ l : List Snd, (∀ a ∈ l, a.peer = p) → l.filter (fun s => s.peer == q) = if p = q then l else []
  | [], _ => by simp
  | x :: l, h => by
    have ih := filter_same (p := p) (q := q) l (fun a ha => h a (by simp [ha]))
    have hx := h x (by simp)
    by_cases e : p = q
    · rw [if_pos e] at ih ⊢
      rw [List.filter_cons, if_pos (by simp [hx, e]), ih]
    · rw [if_neg e] at ih ⊢
      rw [List.filter_cons, if_neg (by simp [hx, e]), ih]

theorem due_congr {X Y : Bx} {j : Int} (h : X.peers j = Y.peers j) (now : Int) : X.due j now = Y.due j now := by unfold Bx.due; rw [h]

theorem lacks_peer {X : Bx} (hn : 1 ≤ X.n) {p t : Int} {L : List (List Int)} : ∀ s ∈ X.lacks p t L, SndOk X L p s := fun s hs => (lackTo_mem hn X.n.toNat (by omega) s hs).1

theorem planTo_gen {L : List (List Int)} {t : Int} {X : Bx} (hn1 : 1 ≤ X.n) : ∀ k : Nat, GInv X t L k (planTo X t L k)
  | 0 => ⟨rfl, rfl, rfl, rfl, fun j => by rw [if_neg (by omega)]; rfl, fun p => by rw [if_neg (by omega)]; rfl, by simp [planTo], by simp [planTo]⟩
  | k + 1 => by
    have ih := planTo_gen (L := L) (t := t) hn1 k
    obtain ⟨r, hr⟩ : ∃ r, planTo X t L k = r := ⟨_, rfl⟩
    have e : planTo X t L (k + 1) = planStep t L k (planTo X t L k) := rfl
    rw [e]
    rw [hr] at ih ⊢
    have hpk : r.2.peers (k : Int) = X.peers k := by rw [ih.peers, if_neg (by omega)]
    have hdk : r.2.due k t = X.due k t := due_congr hpk t
    have hlc : r.2.lacks k t L = X.lacks k t L := lacks_congr ih.hn ih.hb ih.hs _ _ _
    have hok := lacks_peer hn1 (p := (k : Int)) (t := t) (L := L)
    unfold planStep
    rw [hdk, hlc]
    by_cases hd : X.due k t = true
    · rw [if_pos hd]
      have hfilt : ∀ p : Int, (r.1 ++ X.lacks k t L).filter (fun s => s.peer == p) = if 0 ≤ p ∧ p < ((k + 1 : Nat) : Int) ∧ X.due p t = true then X.lacks p t L else [] := by
        intro p
        rw [List.filter_append, ih.filt, filter_same _ (fun a ha => (hok a ha).peer)]
        by_cases hp : (k : Int) = p
        · subst hp
          rw [if_neg (by omega), if_pos rfl, if_pos ⟨by omega, by omega, hd⟩]; rfl
        · rw [if_neg hp, List.append_nil]
          by_cases h2 : 0 ≤ p ∧ p < (k : Int) ∧ X.due p t = true
          · rw [if_pos h2, if_pos ⟨h2.1, by omega, h2.2.2⟩]
          · rw [if_neg h2, if_neg (fun h3 => h2 ⟨h3.1, by omega, h3.2.2⟩)]
      have hlow : ∀ s ∈ r.1 ++ X.lacks k t L, 0 ≤ s.peer ∧ s.peer < ((k + 1 : Nat) : Int) := by
        intro s hs
        rcases List.mem_append.1 hs with hs | hs
        · have := ih.low s hs; omega
        · have := (hok s hs).peer; omega
      have hasc : (r.1 ++ X.lacks k t L).Pairwise fun a b => a.peer ≤ b.peer := by
        rw [List.pairwise_append]
        refine ⟨ih.asc, pairwise_same _ (fun a ha => (hok a ha).peer), fun a ha b hb => ?_⟩
        have := ih.low a ha; have := (hok b hb).peer; omega
      by_cases hemp : X.lacks k t L = []
      · rw [if_pos hemp]
        exact { hn := ih.hn, hme := ih.hme, hb := ih.hb, hs := ih.hs, filt := hfilt, low := hlow, asc := hasc
                peers := fun j => by
                  dsimp only
                  rw [ih.peers]
                  by_cases h2 : 0 ≤ j ∧ j < (k : Int) ∧ X.due j t = true ∧ X.lacks j t L ≠ []
                  · rw [if_pos h2, if_pos ⟨h2.1, by omega, h2.2.2⟩]
                  · rw [if_neg h2, if_neg]
                    rintro ⟨h3, h4, h5, h6⟩
                    by_cases hj : j = k
                    · subst hj; exact h6 hemp
                    · exact h2 ⟨h3, by omega, h5, h6⟩ }
      · rw [if_neg hemp]
        have hbs := bump_same r.2 k t
        exact { hn := hbs.1.trans ih.hn, hme := hbs.2.1.trans ih.hme, hb := hbs.2.2.1.trans ih.hb, hs := hbs.2.2.2.1.trans ih.hs, filt := hfilt, low := hlow, asc := hasc
                peers := fun j => by
                  dsimp only
                  by_cases hj : j = k
                  · subst hj
                    rw [if_pos ⟨by omega, by omega, hd, hemp⟩]
                    unfold Bx.bump; dsimp only; rw [if_pos rfl, hpk]
                  · rw [hbs.2.2.2.2.2 j hj, ih.peers]
                    by_cases h2 : 0 ≤ j ∧ j < (k : Int) ∧ X.due j t = true ∧ X.lacks j t L ≠ []
                    · rw [if_pos h2, if_pos ⟨h2.1, by omega, h2.2.2⟩]
                    · rw [if_neg h2, if_neg (fun h3 => h2 ⟨h3.1, by omega, h3.2.2⟩)] }
    · rw [if_neg hd]
      exact { ih with
        peers := fun j => by
          rw [ih.peers]
          by_cases h2 : 0 ≤ j ∧ j < (k : Int) ∧ X.due j t = true ∧ X.lacks j t L ≠ []
          · rw [if_pos h2, if_pos ⟨h2.1, by omega, h2.2.2⟩]
          · rw [if_neg h2, if_neg]
            rintro ⟨h3, h4, h5, h6⟩
            by_cases hj : j = k
            · subst hj; exact hd h5
            · exact h2 ⟨h3, by omega, h5, h6⟩
        filt := fun p => by
          rw [ih.filt]
          by_cases h2 : 0 ≤ p ∧ p < (k : Int) ∧ X.due p t = true
          · rw [if_pos h2, if_pos ⟨h2.1, by omega, h2.2.2⟩]
          · rw [if_neg h2, if_neg]
            rintro ⟨h3, h4, h5⟩
            by_cases hj : p = k
            · subst hj; exact hd h5
            · exact h2 ⟨h3, by omega, h5⟩
        low := fun s hs => by have := ih.low s hs; omega }

/-- what a plan is, in one word -/
structure PlanIs (X : Bx) (now t : Int) (L : List (List Int)) : Prop where
  hn : (X.plan now L).2.n = X.n
  hme : (X.plan now L).2.me = X.me
  hb : (X.plan now L).2.bud = X.bud
  hs : (X.plan now L).2.sentm = X.sentm
  peers : ∀ j, (X.plan now L).2.peers j = if 0 ≤ j ∧ j < X.n ∧ X.due j now = true ∧ X.lacks j t L ≠ [] then (X.peers j).map (fun st => (t + pw st.2, st.2 + 1)) else X.peers j
  filt : ∀ p : Int, (X.plan now L).1.filter (fun s => s.peer == p) = if 0 ≤ p ∧ p < X.n ∧ X.due p now = true then X.lacks p t L else []
  low : ∀ s ∈ (X.plan now L).1, 0 ≤ s.peer ∧ s.peer < X.n
  asc : (X.plan now L).1.Pairwise fun a b => a.peer ≤ b.peer
  each : ∀ s ∈ (X.plan now L).1, SndOk X L s.peer s ∧ X.due s.peer now = true ∧ X.lacks s.peer t L ≠ []

theorem due_clamp (X : Bx) (j now : Int) : X.due j (clamp now 0 1099511627776) = X.due j now := by unfold Bx.due; rw [clamp_clamp]

theorem plan_is {X : Bx} (hn1 : 1 ≤ X.n) {now t : Int} (hc : clamp now 0 1099511627776 = t) (L : List (List Int)) : PlanIs X now t L := by
  have g := planTo_gen (L := L) (t := t) hn1 X.n.toNat
  have hp : X.plan now L = planTo X t L X.n.toNat := by unfold Bx.plan; rw [hc]
  have hk : ((X.n.toNat : Nat) : Int) = X.n := by omega
  have hd : ∀ j, X.due j t = X.due j now := fun j => by rw [← hc]; exact due_clamp X j now
  rw [← hp] at g
  have hfilt : ∀ p : Int, (X.plan now L).1.filter (fun s => s.peer == p) = if 0 ≤ p ∧ p < X.n ∧ X.due p now = true then X.lacks p t L else [] := fun p => by rw [g.filt, hk, hd]
  exact {
    hn := g.hn, hme := g.hme, hb := g.hb, hs := g.hs
    peers := fun j => by rw [g.peers, hk, hd]
    filt := hfilt
    low := fun s hs => by have := g.low s hs; rw [hk] at this; exact this
    asc := g.asc
    each := fun s hs => by
      have h1 : s ∈ (X.plan now L).1.filter (fun x => x.peer == s.peer) := List.mem_filter.2 ⟨hs, by simp⟩
      rw [hfilt] at h1
      split at h1
      · rename_i h2
        exact ⟨lacks_peer hn1 s h1, h2.2.2, fun h3 => by rw [h3] at h1; simp at h1⟩
      · simp at h1 }

/-! ### OutboxWaits -/
structure WInv (L : List (List Int)) (n : Int) (X : Bx) (next : Int) (u : Int) : Prop where
  hn : X.n = n
  n2 : 2 ≤ n
  hb : 64 ≤ X.bud
  peer : X.peers 1 = some (next, u)
  u0 : 0 ≤ u
  sent : X.sentOf 1 0 = 0 ∨ X.sentOf 1 0 = 1

theorem winv_start {L : List (List Int)} {n bud : Int} (h : newOk 0 n) (h2 : 2 ≤ n) : WInv L n (Bx.new 0 n bud) 0 0 where
  hn := rfl
  n2 := h2
  hb := by show 64 ≤ max bud 64; omega
  peer := by simp only [Bx.new, newX]; rw [if_pos (by omega)]
  u0 := by omega
  sent := .inl (by simp [Bx.new, newX, Bx.sentOf])

/-- the acknowledgement of the law -/
theorem winv_ack {L : List (List Int)} {n : Int} {X : Bx} {next u now : Int} (h : WInv L n X next u) (h0 : 0 ≤ now) (h1 : now ≤ 1099511627776) :
    (X.ackOk 1 0 1 = decide (X.sentOf 1 0 = 0)) ∧ WInv L n (X.ack 1 0 1 now) (if X.sentOf 1 0 = 0 then now else next) (if X.sentOf 1 0 = 0 then 0 else u) := by
  have hct : clamp now 0 1099511627776 = now := by unfold clamp; rw [if_neg (by omega), if_neg (by omega)]
  have hack : X.ackOk 1 0 1 = decide (X.sentOf 1 0 = 0) := by
    have hn := h.hn
    have := h.n2
    rw [Bool.eq_iff_iff]
    simp only [Bx.ackOk, h.peer, Bool.and_eq_true, decide_eq_true_eq]
    rcases h.sent with e | e <;> rw [e] <;> simp <;> omega
  refine ⟨hack, ?_⟩
  rcases h.sent with e | e
  · rw [if_pos e, if_pos e]
    rw [e] at hack
    have hy : X.ackOk 1 0 1 = true := by rw [hack]; rfl
    have hs := ack_sent X 1 0 1 now 1 0
    rw [if_pos ⟨hy, rfl, rfl⟩] at hs
    exact { hn := (ack_n X 1 0 1 now).1.trans h.hn, n2 := h.n2, u0 := by omega, sent := .inr hs
            hb := by unfold Bx.ack; rw [if_pos hy]; exact h.hb
            peer := by unfold Bx.ack; rw [if_pos hy]; unfold Bx.ackYes; dsimp only; rw [if_pos rfl, hct] }
  · rw [if_neg (by omega), if_neg (by omega)]
    have hno : X.ackOk 1 0 1 = false := by rw [hack]; simp [e]
    unfold Bx.ack; rw [hno, if_neg (by simp)]; exact h

theorem winv_due {L : List (List Int)} {n : Int} {X : Bx} {next u now : Int} (h : WInv L n X next u) (h0 : 0 ≤ now) (h1 : now ≤ 1099511627776) : X.due 1 now = decide (next ≤ now) := by
  have hct : clamp now 0 1099511627776 = now := by unfold clamp; rw [if_neg (by omega), if_neg (by omega)]
  unfold Bx.due; rw [h.peer, hct]

theorem pw_next {u : Int} (h : 0 ≤ u) : pw (u + 1) = min (2 * pw u) 16 := by
  by_cases h4 : 4 ≤ u
  · unfold pw; repeat' (first | rw [if_neg (by omega)])
    omega
  · have : u = 0 ∨ u = 1 ∨ u = 2 ∨ u = 3 := by omega
    rcases this with rfl | rfl | rfl | rfl <;> decide
theorem pw_bounds (u : Int) : 1 ≤ pw u ∧ pw u ≤ 16 := by unfold pw; repeat' split <;> omega

/-- a plan: whether peer 1 is served, and what it leaves -/
theorem winv_plan {L : List (List Int)} {n : Int} {X : Bx} {next u now : Int} (h : WInv L n X next u) (h0 : 0 ≤ now) (h1 : now ≤ 1099511627776) (hL : 0 < L.length) :
    ∃ sv : Bool, (sv = true ↔ ∃ s ∈ (X.plan now L).1, s.peer = 1) ∧ (sv = true → next ≤ now) ∧ (next ≤ now → X.sentOf 1 0 = 0 → 0 < lastOf (rowAt L 0) → sv = true) ∧
      WInv L n (X.plan now L).2 (if sv then now + pw u else next) (if sv then u + 1 else u) ∧ ∀ a b, (X.plan now L).2.sentOf a b = X.sentOf a b := by
  have hn2 := h.n2
  have hX : 1 ≤ X.n := by rw [h.hn]; omega
  have hct : clamp now 0 1099511627776 = now := by unfold clamp; rw [if_neg (by omega), if_neg (by omega)]
  have pi := plan_is hX hct L
  have hdue := winv_due h h0 h1
  have hsent : ∀ a b, (X.plan now L).2.sentOf a b = X.sentOf a b := fun a b => by unfold Bx.sentOf; rw [pi.hs]
  have hpeer := pi.peers 1
  rw [h.peer, h.hn, hdue] at hpeer
  have hfilt := pi.filt 1
  rw [h.hn, hdue] at hfilt
  have hex : (∃ s ∈ (X.plan now L).1, s.peer = 1) ↔ (next ≤ now ∧ X.lacks 1 now L ≠ []) := by
    constructor
    · rintro ⟨s, hs, hp⟩
      have h2 : s ∈ (X.plan now L).1.filter (fun s => s.peer == 1) := List.mem_filter.2 ⟨hs, by simp [hp]⟩
      rw [hfilt] at h2
      split at h2
      · rename_i h3; exact ⟨by simpa using h3.2.2, fun h4 => by rw [h4] at h2; simp at h2⟩
      · simp at h2
    · rintro ⟨h2, h3⟩
      rw [if_pos ⟨by omega, by omega, by simpa using h2⟩] at hfilt
      cases hl : X.lacks 1 now L with
      | nil => exact absurd hl h3
      | cons s l =>
        have h4 : s ∈ (X.plan now L).1.filter (fun s => s.peer == 1) := by rw [hfilt, hl]; simp
        rw [List.mem_filter] at h4
        exact ⟨s, h4.1, by simpa using h4.2⟩
  by_cases hsv : next ≤ now ∧ X.lacks 1 now L ≠ []
  · refine ⟨true, by simp [hex, hsv], fun _ => hsv.1, fun _ _ _ => rfl, ?_, hsent⟩
    rw [if_pos ⟨by omega, by omega, by simpa using hsv.1, hsv.2⟩] at hpeer
    exact { hn := pi.hn.trans h.hn, n2 := h.n2, hb := by rw [pi.hb]; exact h.hb, u0 := by have := h.u0; simp; omega, sent := by rw [hsent]; exact h.sent
            peer := by rw [hpeer]; simp }
  · refine ⟨false, by simp only [hex]; simp only [Bool.false_eq_true, false_iff]; exact hsv, by simp, fun h2 h3 h4 => ?_, ?_, hsent⟩
    · exfalso
      refine hsv ⟨h2, fun hemp => ?_⟩
      obtain ⟨e, he, h5, h6⟩ := (lastOf_is (rowAt L 0)).next (x := 0) (by omega) h4
      have hem := (lackTo_empty (X := X) (p := 1) (t := now) (L := L) X.n.toNat hemp).2
      obtain ⟨i, hi, hli⟩ := logAt_surj (X := X) (t := now) hX (lg := 0) (by omega) (by omega)
      have hb := h.hb
      rcases hem i (by omega) with h7 | h7 | h7
      · rw [hli] at h7; omega
      · rw [hli] at h7; omega
      · rw [hli, h3] at h7
        exact h7 (best_pos he h5 (by omega))
    · rw [if_neg (fun h2 => hsv ⟨by simpa using h2.2.2.1, h2.2.2.2⟩)] at hpeer
      exact { hn := pi.hn.trans h.hn, n2 := h.n2, hb := by rw [pi.hb]; exact h.hb, u0 := by simpa using h.u0, sent := by rw [hsent]; exact h.sent
              peer := by rw [hpeer]; simp }
end Go.Proofs.Ythbnnifkoomokaa
