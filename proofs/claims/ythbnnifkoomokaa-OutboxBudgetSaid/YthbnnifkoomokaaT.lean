/- Plain facts on plans that are acknowledged whole: each plan serves exactly the peers that lack something, and after as many plans as there are ends nobody lacks anything. No program is run. -/
import Derived.Test.YthbnnifkoomokaaQ
set_option linter.unusedVariables false
set_option linter.unusedSimpArgs false
namespace Go.Proofs.Ythbnnifkoomokaa
open Go.RowKit Go.Mf

theorem exists_last (l : List Int) : ∃ A, IsLast l A := by
  have key : ∀ k a, above l a = k → Reach l a → ∃ A, IsLast l A := by
    intro k
    induction k using Nat.strongRecOn with
    | _ k ih =>
      intro a hk hr
      by_cases h : ∀ e ∈ l, ¬ (a < e ∧ e - a ≤ 64)
      · exact ⟨a, hr, h⟩
      · have : ∃ e ∈ l, a < e ∧ e - a ≤ 64 := by
          apply Classical.byContradiction
          intro hn
          exact h (fun e he hc => hn ⟨e, he, hc⟩)
        obtain ⟨e, he, h1, h2⟩ := this
        exact ih _ (hk ▸ above_lt h1 he) e rfl (.step hr he h1 h2)
  exact key _ 0 rfl .zero
noncomputable def lastOf (l : List Int) : Int := Classical.choose (exists_last l)
theorem lastOf_is (l : List Int) : IsLast l (lastOf l) := Classical.choose_spec (exists_last l)

def rowAt (L : List (List Int)) (lg : Int) : List Int := L.getD lg.toNat []

/-! ### best -/
theorem foldl_best_mem (left src : Int) (l0 : List Int) : ∀ (es : List Int) (c : Int), (∀ e ∈ es, e ∈ l0) → (c = 0 ∨ ∃ e ∈ l0, c = e - src ∧ src < e ∧ e - src ≤ 64) →
    (es.foldl (bestStep left src) c = 0 ∨ ∃ e ∈ l0, es.foldl (bestStep left src) c = e - src ∧ src < e ∧ e - src ≤ 64)
  | [], c, _, h => h
  | e :: es, c, hm, h => by
    refine foldl_best_mem left src l0 es _ (fun x hx => hm x (by simp [hx])) ?_
    unfold bestStep
    split
    · rename_i hc
      by_cases hx : c ≤ e - src
      · exact .inr ⟨e, hm e (by simp), by omega, hc.1, by omega⟩
      · have : max c (e - src) = c := by omega
        rw [this]; exact h
    · exact h
theorem best_mem {left src : Int} {es : List Int} (h : 0 < best left src es) : ∃ e ∈ es, best left src es = e - src ∧ src < e ∧ e - src ≤ 64 := by
  rcases foldl_best_mem left src es es 0 (fun _ h => h) (.inl rfl) with h0 | h0
  · unfold best at h; omega
  · exact h0
theorem foldl_best_ge (left src : Int) : ∀ (es : List Int) (c : Int), c ≤ es.foldl (bestStep left src) c ∧ ∀ e ∈ es, src < e → e - src ≤ min 64 left → e - src ≤ es.foldl (bestStep left src) c
  | [], c => ⟨Int.le_refl _, fun e he => by simp at he⟩
  | x :: es, c => by
    have ih := foldl_best_ge left src es (bestStep left src c x)
    have h1 : c ≤ bestStep left src c x := by unfold bestStep; split <;> omega
    simp only [List.foldl_cons]
    refine ⟨by omega, fun e he h2 h3 => ?_⟩
    rcases List.mem_cons.1 he with rfl | he
    · have : e - src ≤ bestStep left src c e := by unfold bestStep; rw [if_pos ⟨h2, h3⟩]; omega
      omega
    · exact ih.2 e he h2 h3
theorem best_pos {left src : Int} {es : List Int} {e : Int} (he : e ∈ es) (h1 : src < e) (h2 : e - src ≤ min 64 left) : 0 < best left src es := by
  have := (foldl_best_ge left src es 0).2 e he h1 h2
  unfold best; omega

/-! ### the order of the logs -/
theorem mod_two {x n : Int} (h0 : 0 ≤ x) (h1 : x < 2 * n) (hn : 1 ≤ n) : x % n = if x < n then x else x - n := by
  by_cases h : x < n
  · rw [if_pos h, Int.emod_eq_of_lt h0 h]
  · rw [if_neg h]
    have : x = (x - n) + n := by omega
    rw [this, Int.add_emod_right, Int.emod_eq_of_lt (by omega) (by omega)]; omega
theorem logAt_eq {X : Bx} {t : Int} (hn : 1 ≤ X.n) (i : Nat) (hi : (i : Int) < X.n) : logAt X t i = if t % X.n + i < X.n then t % X.n + i else t % X.n + i - X.n := by
  have h0 := Int.emod_nonneg t (show X.n ≠ 0 by omega)
  have h1 := Int.emod_lt_of_pos t (show 0 < X.n by omega)
  unfold logAt
  exact mod_two (by omega) (by omega) hn
theorem logAt_inj {X : Bx} {t : Int} (hn : 1 ≤ X.n) {i j : Nat} (hi : (i : Int) < X.n) (hj : (j : Int) < X.n) (h : logAt X t i = logAt X t j) : i = j := by
  have h0 := Int.emod_nonneg t (show X.n ≠ 0 by omega)
  have h1 := Int.emod_lt_of_pos t (show 0 < X.n by omega)
  rw [logAt_eq hn i hi, logAt_eq hn j hj] at h
  split at h <;> split at h <;> omega
theorem logAt_surj {X : Bx} {t : Int} (hn : 1 ≤ X.n) {lg : Int} (h0 : 0 ≤ lg) (h1 : lg < X.n) : ∃ i : Nat, (i : Int) < X.n ∧ logAt X t i = lg := by
  have g0 := Int.emod_nonneg t (show X.n ≠ 0 by omega)
  have g1 := Int.emod_lt_of_pos t (show 0 < X.n by omega)
  by_cases h : t % X.n ≤ lg
  · refine ⟨(lg - t % X.n).toNat, by omega, ?_⟩
    rw [logAt_eq hn _ (by omega), if_pos (by omega)]; omega
  · refine ⟨(lg - t % X.n + X.n).toNat, by omega, ?_⟩
    rw [logAt_eq hn _ (by omega), if_neg (by omega)]; omega

/-! ### a plan for one peer -/
structure SndOk (X : Bx) (L : List (List Int)) (p : Int) (s : Snd) : Prop where
  peer : s.peer = p
  lg0 : 0 ≤ s.log
  lgn : s.log < X.n
  lgp : s.log ≠ p
  lgL : s.log < L.length
  src : s.src = X.sentOf p s.log
  c1 : 1 ≤ s.count
  c2 : s.count ≤ 64
  mem : s.src + s.count ∈ rowAt L s.log

theorem lackTo_mem {X : Bx} {p t : Int} {L : List (List Int)} (hn : 1 ≤ X.n) : ∀ k : Nat, (k : Int) ≤ X.n → ∀ s ∈ (lackTo X p t L k).1, SndOk X L p s ∧ ∃ i : Nat, i < k ∧ s.log = logAt X t i
  | 0, _, s, hs => by simp [lackTo] at hs
  | k + 1, hk, s, hs => by
    have ih := lackTo_mem (p := p) (t := t) (L := L) hn k (by omega)
    have old : s ∈ (lackTo X p t L k).1 → SndOk X L p s ∧ ∃ i : Nat, i < k + 1 ∧ s.log = logAt X t i := fun h => by
      obtain ⟨h1, i, h2, h3⟩ := ih s h
      exact ⟨h1, i, by omega, h3⟩
    have hb := logAt_bounds (X := X) (now := t) (k := k) hn
    have e : lackTo X p t L (k + 1) = lackStep X p L (logAt X t k) (lackTo X p t L k) := rfl
    rw [e] at hs
    by_cases hst : logAt X t k = p ∨ (L.length : Int) ≤ logAt X t k ∨ (lackTo X p t L k).1.length = 8
    · rw [lackStep_stay hst] at hs; exact old hs
    · rw [lackStep_go (fun h => hst (.inl h)) (fun h => hst (.inr (.inl h))) (fun h => hst (.inr (.inr h)))] at hs
      split at hs
      · rename_i hpos
        rcases List.mem_append.1 hs with hs | hs
        · exact old hs
        · simp only [List.mem_singleton] at hs
          subst hs
          obtain ⟨e, he, h1, h2, h3⟩ := best_mem hpos
          refine ⟨⟨rfl, hb.1, hb.2, fun h => hst (.inl h), ?_, rfl, ?_, ?_, ?_⟩, k, by omega, rfl⟩
          · dsimp only; omega
          · dsimp only; omega
          · dsimp only; omega
          · dsimp only; unfold rowAt; rw [h1, show X.sentOf p (logAt X t k) + (e - X.sentOf p (logAt X t k)) = e by omega]; exact he
      · exact old hs

theorem lackTo_nodup {X : Bx} {p t : Int} {L : List (List Int)} (hn : 1 ≤ X.n) : ∀ k : Nat, (k : Int) ≤ X.n → ((lackTo X p t L k).1.map (·.log)).Nodup
  | 0, _ => by simp [lackTo]
  | k + 1, hk => by
    have ih := lackTo_nodup (p := p) (t := t) (L := L) hn k (by omega)
    have hm := lackTo_mem (p := p) (t := t) (L := L) hn k (by omega)
    have e : lackTo X p t L (k + 1) = lackStep X p L (logAt X t k) (lackTo X p t L k) := rfl
    rw [e]
    by_cases hst : logAt X t k = p ∨ (L.length : Int) ≤ logAt X t k ∨ (lackTo X p t L k).1.length = 8
    · rw [lackStep_stay hst]; exact ih
    · rw [lackStep_go (fun h => hst (.inl h)) (fun h => hst (.inr (.inl h))) (fun h => hst (.inr (.inr h)))]
      split
      · rw [List.map_append, List.nodup_append]
        refine ⟨ih, by simp, fun x hx y hy => ?_⟩
        simp only [List.map_cons, List.map_nil, List.mem_singleton] at hy
        obtain ⟨s, hs, rfl⟩ := List.mem_map.1 hx
        obtain ⟨_, i, hi, hl⟩ := hm s hs
        intro h
        have := logAt_inj (X := X) (t := t) hn (i := i) (j := k) (by omega) (by omega) (by rw [← hl, h, hy])
        omega
      · exact ih

theorem lackTo_empty {X : Bx} {p t : Int} {L : List (List Int)} : ∀ k : Nat, (lackTo X p t L k).1 = [] → (lackTo X p t L k).2 = X.bud ∧
    ∀ i, i < k → logAt X t i = p ∨ (L.length : Int) ≤ logAt X t i ∨ ¬ 0 < best X.bud (X.sentOf p (logAt X t i)) (rowAt L (logAt X t i))
  | 0, _ => ⟨rfl, fun i hi => by omega⟩
  | k + 1, h => by
    have e : lackTo X p t L (k + 1) = lackStep X p L (logAt X t k) (lackTo X p t L k) := rfl
    rw [e] at h ⊢
    by_cases hst : logAt X t k = p ∨ (L.length : Int) ≤ logAt X t k ∨ (lackTo X p t L k).1.length = 8
    · rw [lackStep_stay hst] at h ⊢
      have ih := lackTo_empty k h
      refine ⟨ih.1, fun i hi => ?_⟩
      by_cases hik : i = k
      · subst hik
        rcases hst with h1 | h1 | h1
        · exact .inl h1
        · exact .inr (.inl h1)
        · rw [h] at h1; simp at h1
      · exact ih.2 i (by omega)
    · have e2 := lackStep_go (X := X) (p := p) (L := L) (log := logAt X t k) (st := lackTo X p t L k) (fun h => hst (.inl h)) (fun h => hst (.inr (.inl h))) (fun h => hst (.inr (.inr h)))
      rw [e2] at h ⊢
      split at h
      · simp at h
      · rename_i hpos
        rw [if_neg hpos]
        have ih := lackTo_empty k h
        refine ⟨ih.1, fun i hi => ?_⟩
        by_cases hik : i = k
        · subst hik
          rw [ih.1] at hpos
          exact .inr (.inr hpos)
        · exact ih.2 i (by omega)

/-- 'peer p lacks something' -/
def lk (X : Bx) (L : List (List Int)) (me p : Int) (m : Nat) : Prop := ∃ lg : Nat, lg < m ∧ p ≠ me ∧ p ≠ (lg : Int) ∧ X.sentOf p lg < lastOf (rowAt L lg)

structure AInv (L : List (List Int)) (me n t : Int) (X : Bx) : Prop where
  hn : X.n = n
  hme : X.me = me
  n1 : 1 ≤ n
  hb : 64 ≤ X.bud
  live : ∀ p, (X.peers p).isSome = true ↔ 0 ≤ p ∧ p < n ∧ p ≠ me
  due : ∀ p st, X.peers p = some st → st.1 ≤ t
  reach : ∀ p lg, Reach (rowAt L lg) (X.sentOf p lg)

theorem SndOk.lacks {L : List (List Int)} {me n t : Int} {X : Bx} (h : AInv L me n t X) {p : Int} {s : Snd} (hs : SndOk X L p s) (hp : p ≠ me) : lk X L me p (min n.toNat L.length) := by
  have h1 := hs.lg0
  have h2 := hs.lgn
  have h3 := hs.lgL
  rw [h.hn] at h2
  refine ⟨s.log.toNat, by omega, hp, ?_, ?_⟩
  · have := hs.lgp; omega
  · have hr := h.reach p s.log
    have hst : Reach (rowAt L s.log) (s.src + s.count) := .step hr hs.mem (by have := hs.src; have := hs.c1; omega) (by have := hs.src; have := hs.c2; omega)
    have := (lastOf_is (rowAt L s.log)).top hst
    rw [show ((s.log.toNat : Nat) : Int) = s.log by omega]
    have := hs.src; have := hs.c1; omega

theorem lacks_iff {L : List (List Int)} {me n t : Int} {X : Bx} (h : AInv L me n t X) {p : Int} (hp : p ≠ me) : X.lacks p t L ≠ [] ↔ lk X L me p (min n.toNat L.length) := by
  have hn1 : 1 ≤ X.n := by rw [h.hn]; exact h.n1
  constructor
  · intro hne
    cases hl : X.lacks p t L with
    | nil => exact absurd hl hne
    | cons s l =>
      have := lackTo_mem (X := X) (p := p) (t := t) (L := L) hn1 X.n.toNat (by omega) s (by have : (lackTo X p t L X.n.toNat).1 = s :: l := hl; rw [this]; simp)
      exact this.1.lacks h hp
  · rintro ⟨lg, h1, h2, h3, h4⟩ hl
    have hx := h.reach p lg
    obtain ⟨e, he, h5, h6⟩ := (lastOf_is (rowAt L lg)).next hx.nonneg h4
    have hem := (lackTo_empty (X := X) (p := p) (t := t) (L := L) X.n.toNat hl).2
    obtain ⟨i, hi, hli⟩ := logAt_surj (X := X) (t := t) hn1 (lg := (lg : Int)) (by omega) (by rw [h.hn]; omega)
    rcases hem i (by omega) with h7 | h7 | h7
    · rw [hli] at h7; omega
    · rw [hli] at h7; omega
    · rw [hli] at h7
      have hb := h.hb
      exact h7 (best_pos he h5 (by omega))

/-! ### a whole plan -/
theorem lackTo_congr {X Y : Bx} (h1 : X.n = Y.n) (h2 : X.bud = Y.bud) (h3 : X.sentm = Y.sentm) (p t : Int) (L : List (List Int)) : ∀ k, lackTo X p t L k = lackTo Y p t L k
  | 0 => by simp [lackTo, h2]
  | k + 1 => by
    have ih := lackTo_congr h1 h2 h3 p t L k
    have hs : ∀ a b, X.sentOf a b = Y.sentOf a b := fun a b => by unfold Bx.sentOf; rw [h3]
    have hl : logAt X t k = logAt Y t k := by unfold logAt; rw [h1]
    simp only [lackTo, ih, hl, lackStep, hs]
theorem lacks_congr {X Y : Bx} (h1 : X.n = Y.n) (h2 : X.bud = Y.bud) (h3 : X.sentm = Y.sentm) (p t : Int) (L : List (List Int)) : X.lacks p t L = Y.lacks p t L := by
  unfold Bx.lacks; rw [h1, lackTo_congr h1 h2 h3]

theorem bump_same (X : Bx) (p t : Int) : (X.bump p t).n = X.n ∧ (X.bump p t).me = X.me ∧ (X.bump p t).bud = X.bud ∧ (X.bump p t).sentm = X.sentm ∧ (∀ j, ((X.bump p t).peers j).isSome = (X.peers j).isSome) ∧ ∀ j, j ≠ p → (X.bump p t).peers j = X.peers j := by
  refine ⟨rfl, rfl, rfl, rfl, fun j => ?_, fun j hj => ?_⟩
  · unfold Bx.bump; dsimp only; split
    · rename_i e; subst e; simp
    · rfl
  · unfold Bx.bump; dsimp only; rw [if_neg hj]

theorem pairwise_same {p : Int} : ∀ l : List Snd, (∀ a ∈ l, a.peer = p) → l.Pairwise fun a b => a.peer ≤ b.peer
  | [], _ => .nil
  | x :: l, h => by
    refine .cons (fun b hb => ?_) (pairwise_same l (fun a ha => h a (by simp [ha])))
    rw [h x (by simp), h b (by simp [hb])]; exact Int.le_refl _

/-- what planTo leaves, where every live peer is due -/
structure PInv (X : Bx) (t : Int) (L : List (List Int)) (k : Nat) (r : List Snd × Bx) : Prop where
  hn : r.2.n = X.n
  hme : r.2.me = X.me
  hb : r.2.bud = X.bud
  hs : r.2.sentm = X.sentm
  some : ∀ j, (r.2.peers j).isSome = (X.peers j).isSome
  rest : ∀ j : Int, (k : Int) ≤ j → r.2.peers j = X.peers j
  mem : ∀ s, s ∈ r.1 ↔ ∃ p : Nat, p < k ∧ (X.peers p).isSome = true ∧ s ∈ X.lacks p t L
  dues : ∀ j st, r.2.peers j = Option.some st → st.1 ≤ t ∨ ∃ s ∈ r.1, s.peer = j
  nodup : (r.1.map fun s => (s.peer, s.log)).Nodup
  low : ∀ s ∈ r.1, 0 ≤ s.peer ∧ s.peer < (k : Int)
  asc : r.1.Pairwise fun a b => a.peer ≤ b.peer

theorem planTo_inv {L : List (List Int)} {me n t : Int} {X : Bx} (h : AInv L me n t X) (ht0 : 0 ≤ t) (ht1 : t ≤ 1099511627776) : ∀ k : Nat, (k : Int) ≤ n → PInv X t L k (planTo X t L k)
  | 0, _ => ⟨rfl, rfl, rfl, rfl, fun _ => rfl, fun _ _ => rfl, fun s => by simp [planTo], fun j st hj => .inl (h.due j st hj), by simp [planTo], by simp [planTo], by simp [planTo]⟩
  | k + 1, hk => by
    have ih := planTo_inv h ht0 ht1 k (by omega)
    have hn1 : 1 ≤ X.n := by rw [h.hn]; exact h.n1
    have hct : clamp t 0 1099511627776 = t := by unfold clamp; rw [if_neg (by omega), if_neg (by omega)]
    obtain ⟨r, hr⟩ : ∃ r, planTo X t L k = r := ⟨_, rfl⟩
    have e : planTo X t L (k + 1) = planStep t L k (planTo X t L k) := rfl
    rw [e]
    rw [hr] at ih ⊢
    have hrk := ih.rest k (Int.le_refl _)
    have hlc : r.2.lacks k t L = X.lacks k t L := lacks_congr ih.hn ih.hb ih.hs _ _ _
    unfold planStep
    cases hpk : X.peers (k : Int) with
    | none =>
      have hd : r.2.due k t = false := by unfold Bx.due; rw [hrk, hpk]
      rw [hd, if_neg (by simp)]
      exact { ih with
        rest := fun j hj => ih.rest j (by omega)
        low := fun s hs => by have := ih.low s hs; omega
        mem := fun s => by
          rw [ih.mem]
          constructor
          · rintro ⟨p, h1, h2⟩; exact ⟨p, by omega, h2⟩
          · rintro ⟨p, h1, h2, h3⟩
            have : p ≠ k := by intro e; subst e; rw [hpk] at h2; simp at h2
            exact ⟨p, by omega, h2, h3⟩ }
    | some st0 =>
      have hd : r.2.due k t = true := by
        unfold Bx.due; rw [hrk, hpk]; simp [hct]; exact h.due _ _ hpk
      rw [hd, if_pos rfl, hlc]
      have hok : ∀ s ∈ X.lacks k t L, SndOk X L k s := fun s hs => (lackTo_mem hn1 X.n.toNat (by omega) s hs).1
      have hmem : ∀ s, s ∈ r.1 ++ X.lacks k t L ↔ ∃ p : Nat, p < k + 1 ∧ (X.peers p).isSome = true ∧ s ∈ X.lacks p t L := by
        intro s
        rw [List.mem_append, ih.mem]
        constructor
        · rintro (⟨p, h1, h2⟩ | h1)
          · exact ⟨p, by omega, h2⟩
          · exact ⟨k, by omega, by rw [hpk]; rfl, h1⟩
        · rintro ⟨p, h1, h2, h3⟩
          by_cases hp : p = k
          · subst hp; exact .inr h3
          · exact .inl ⟨p, by omega, h2, h3⟩
      have hnd : ((r.1 ++ X.lacks k t L).map fun s => (s.peer, s.log)).Nodup := by
        rw [List.map_append, List.nodup_append]
        refine ⟨ih.nodup, ?_, ?_⟩
        · have h1 := lackTo_nodup (X := X) (p := (k : Int)) (t := t) (L := L) hn1 X.n.toNat (by omega)
          have h2 : ((X.lacks k t L).map (·.log)).Nodup := h1
          rw [List.nodup_iff_pairwise_ne, List.pairwise_map] at h2 ⊢
          exact h2.imp (fun hab hc => hab (congrArg Prod.snd hc))
        · intro x hx y hy hxy
          obtain ⟨a, ha, rfl⟩ := List.mem_map.1 hx
          obtain ⟨b, hb, rfl⟩ := List.mem_map.1 hy
          have h1 := ih.low a ha
          have h2 := (hok b hb).peer
          have := congrArg Prod.fst hxy
          dsimp only at this; omega
      have hlow : ∀ s ∈ r.1 ++ X.lacks k t L, 0 ≤ s.peer ∧ s.peer < ((k + 1 : Nat) : Int) := by
        intro s hs
        rcases List.mem_append.1 hs with hs | hs
        · have := ih.low s hs; omega
        · have := (hok s hs).peer; omega
      have hasc : (r.1 ++ X.lacks k t L).Pairwise fun a b => a.peer ≤ b.peer := by
        rw [List.pairwise_append]
        refine ⟨ih.asc, ?_, fun a ha b hb => ?_⟩
        · exact pairwise_same _ (fun a ha => (hok a ha).peer)
        · have := ih.low a ha; have := (hok b hb).peer; omega
      by_cases hemp : X.lacks k t L = []
      · rw [if_pos hemp]
        exact { hn := ih.hn, hme := ih.hme, hb := ih.hb, hs := ih.hs, some := ih.some, rest := fun j hj => ih.rest j (by omega), mem := hmem, nodup := hnd, low := hlow, asc := hasc
                dues := fun j st hj => by
                  rcases ih.dues j st hj with h1 | ⟨s, h1, h2⟩
                  · exact .inl h1
                  · exact .inr ⟨s, List.mem_append_left _ h1, h2⟩ }
      · rw [if_neg hemp]
        have hbs := bump_same r.2 k t
        exact { hn := hbs.1.trans ih.hn, hme := hbs.2.1.trans ih.hme, hb := hbs.2.2.1.trans ih.hb, hs := hbs.2.2.2.1.trans ih.hs
                some := fun j => (hbs.2.2.2.2.1 j).trans (ih.some j), rest := fun j hj => (hbs.2.2.2.2.2 j (by omega)).trans (ih.rest j (by omega)), mem := hmem, nodup := hnd, low := hlow, asc := hasc
                dues := fun j st hj => by
                  by_cases hjk : j = k
                  · right
                    cases hl : X.lacks k t L with
                    | nil => exact absurd hl hemp
                    | cons s l =>
                      have hs : s ∈ X.lacks k t L := by rw [hl]; simp
                      exact ⟨s, by simp, by rw [(hok s hs).peer, hjk]⟩
                  · rw [hbs.2.2.2.2.2 j hjk] at hj
                    rcases ih.dues j st hj with h1 | ⟨s, h1, h2⟩
                    · exact .inl h1
                    · exact .inr ⟨s, List.mem_append_left _ h1, h2⟩ }
end Go.Proofs.Ythbnnifkoomokaa

namespace Go.Proofs.Ythbnnifkoomokaa
open Go.RowKit Go.Mf

/-! ### all elements of a plan are acknowledged, one by one -/
def ackAll (now : Int) (Y : Bx) (l : List Snd) : Bx := l.foldl (fun Y s => Y.ack s.peer s.log (s.src + s.count) now) Y

structure KInv (X : Bx) (L : List (List Int)) (me n t : Int) (l : List Snd) (i : Nat) (Y : Bx) : Prop where
  hn : Y.n = n
  hme : Y.me = me
  hb : Y.bud = X.bud
  live : ∀ p, (Y.peers p).isSome = true ↔ 0 ≤ p ∧ p < n ∧ p ≠ me
  reach : ∀ p lg, Reach (rowAt L lg) (Y.sentOf p lg)
  pend : ∀ s ∈ l.drop i, Y.sentOf s.peer s.log = s.src
  mono : ∀ p lg, X.sentOf p lg ≤ Y.sentOf p lg
  done : ∀ s ∈ l.take i, s.src + s.count ≤ Y.sentOf s.peer s.log
  dues : ∀ p st, Y.peers p = some st → st.1 ≤ t ∨ ∃ s ∈ l.drop i, s.peer = p
  same : ∀ p, (∀ s ∈ l, s.peer ≠ p) → ∀ lg, Y.sentOf p lg = X.sentOf p lg

structure PlanOk (X : Bx) (L : List (List Int)) (me n : Int) (l : List Snd) : Prop where
  each : ∀ s ∈ l, SndOk X L s.peer s ∧ 0 ≤ s.peer ∧ s.peer < n ∧ s.peer ≠ me
  nodup : (l.map fun s => (s.peer, s.log)).Nodup

theorem kinv_start {X Y : Bx} {L : List (List Int)} {me n t : Int} {l : List Snd} (h : AInv L me n t X) (hn : Y.n = X.n) (hme : Y.me = X.me) (hb : Y.bud = X.bud) (hs : Y.sentm = X.sentm)
    (hsome : ∀ j, (Y.peers j).isSome = (X.peers j).isSome) (hd : ∀ j st, Y.peers j = some st → st.1 ≤ t ∨ ∃ s ∈ l, s.peer = j) (ok : PlanOk X L me n l) : KInv X L me n t l 0 Y := by
  have he : ∀ p lg, Y.sentOf p lg = X.sentOf p lg := fun p lg => by unfold Bx.sentOf; rw [hs]
  exact {
    hn := hn.trans h.hn, hme := hme.trans h.hme, hb := hb
    live := fun p => by rw [hsome]; exact h.live p
    reach := fun p lg => by rw [he]; exact h.reach p lg
    pend := fun s hs' => by rw [he]; exact ((ok.each s (by simpa using hs')).1.src).symm
    mono := fun p lg => by rw [he]; exact Int.le_refl _
    done := fun s hs' => by simp at hs'
    dues := fun p st hp => by simpa using hd p st hp
    same := fun p _ lg => he p lg }

theorem kinv_step {X Y : Bx} {L : List (List Int)} {me n t now : Int} {l : List Snd} {i : Nat} {s : Snd} (h : KInv X L me n t l i Y) (ok : PlanOk X L me n l) (hX : X.n = n) (hi : l[i]? = some s)
    (hc : clamp now 0 1099511627776 = t) : Y.ackOk s.peer s.log (s.src + s.count) = true ∧ KInv X L me n t l (i + 1) (Y.ack s.peer s.log (s.src + s.count) now) := by
  have hlt : i < l.length := (List.getElem?_eq_some_iff.1 hi).1
  have hsi : l[i] = s := (List.getElem?_eq_some_iff.1 hi).2
  have hdrop : l.drop i = s :: l.drop (i + 1) := by rw [List.drop_eq_getElem_cons hlt, hsi]
  have hsm : s ∈ l := hsi ▸ List.getElem_mem hlt
  obtain ⟨hso, hp0, hpn, hpm⟩ := ok.each s hsm
  have hpend := h.pend s (by rw [hdrop]; simp)
  have hack : Y.ackOk s.peer s.log (s.src + s.count) = true := by
    simp only [Bx.ackOk, Bool.and_eq_true, decide_eq_true_eq]
    refine ⟨⟨⟨⟨(h.live _).2 ⟨hp0, hpn, hpm⟩, hso.lg0⟩, by rw [h.hn, ← hX]; exact hso.lgn⟩, hso.lgp⟩, ?_⟩
    rw [hpend]; have := hso.c1; omega
  refine ⟨hack, ?_⟩
  have hsent := fun p lg => ack_sent Y s.peer s.log (s.src + s.count) now p lg
  rw [hack] at hsent
  simp only [true_and] at hsent
  have hother : ∀ s' ∈ l.drop (i + 1), ¬ (s'.peer = s.peer ∧ s'.log = s.log) := by
    intro s' hs' hc
    have h1 := ok.nodup
    have h2 : l = l.take i ++ s :: l.drop (i + 1) := by rw [← hdrop]; exact (List.take_append_drop i l).symm
    rw [h2, List.map_append, List.nodup_append] at h1
    have h3 := h1.2.1
    rw [List.map_cons, List.nodup_cons] at h3
    exact h3.1 (List.mem_map.2 ⟨s', hs', by rw [hc.1, hc.2]⟩)
  have hn := ack_n Y s.peer s.log (s.src + s.count) now
  exact {
    hn := hn.1.trans h.hn, hme := hn.2.trans h.hme
    hb := by rw [← h.hb]; unfold Bx.ack; split <;> rfl
    live := fun p => by rw [ack_live]; exact h.live p
    reach := fun p lg => by
      rw [hsent]
      split
      · rename_i e; obtain ⟨rfl, rfl⟩ := e
        have := h.reach s.peer s.log
        rw [hpend] at this
        exact .step this hso.mem (by have := hso.c1; omega) (by have := hso.c2; omega)
      · exact h.reach p lg
    pend := fun s' hs' => by
      rw [hsent, if_neg (hother s' hs')]
      exact h.pend s' (by rw [hdrop]; simp [hs'])
    mono := fun p lg => by
      rw [hsent]
      split
      · rename_i e; obtain ⟨rfl, rfl⟩ := e
        have := h.mono s.peer s.log; have := hso.c1; omega
      · exact h.mono p lg
    done := fun s' hs' => by
      rw [List.take_succ_eq_append_getElem hlt, hsi] at hs'
      rw [hsent]
      rcases List.mem_append.1 hs' with h1 | h1
      · have := h.done s' h1
        split
        · rename_i e; rw [e.1, e.2, hpend] at this
          have := hso.c1; omega
        · exact this
      · simp only [List.mem_singleton] at h1; subst h1
        rw [if_pos ⟨rfl, rfl⟩]; exact Int.le_refl _
    dues := fun p st hp => by
      by_cases e : p = s.peer
      · left
        unfold Bx.ack at hp; rw [if_pos hack] at hp
        unfold Bx.ackYes at hp; dsimp only at hp; rw [if_pos e] at hp
        cases hp; rw [hc]; exact Int.le_refl _
      · unfold Bx.ack at hp; rw [if_pos hack] at hp
        unfold Bx.ackYes at hp; dsimp only at hp; rw [if_neg e] at hp
        rcases h.dues p st hp with h1 | ⟨s', h1, h2⟩
        · exact .inl h1
        · rw [hdrop] at h1
          rcases List.mem_cons.1 h1 with h1 | h1
          · subst h1; exact absurd h2.symm e
          · exact .inr ⟨s', h1, h2⟩
    same := fun p hp lg => by
      rw [hsent, if_neg (fun e => hp s hsm e.1.symm)]; exact h.same p hp lg }

/-! ### what is left to send -/
def phi (X : Bx) (L : List (List Int)) (p : Int) : Nat → Nat
  | 0 => 0
  | m + 1 => phi X L p m + above (rowAt L m) (X.sentOf p m)

theorem above_mono {l : List Int} {a b : Int} (h : a ≤ b) : above l b ≤ above l a := by
  unfold above
  induction l with
  | nil => simp
  | cons x l ih => simp only [List.filter_cons]; split <;> split <;> simp_all <;> omega
theorem above_le (l : List Int) (a : Int) : above l a ≤ l.length := List.length_filter_le _ _

theorem phi_le {X Y : Bx} {L : List (List Int)} {p : Int} (h : ∀ lg, X.sentOf p lg ≤ Y.sentOf p lg) : ∀ m, phi Y L p m ≤ phi X L p m
  | 0 => Nat.le_refl _
  | m + 1 => by
    have ih := phi_le (L := L) h m
    have := above_mono (l := rowAt L m) (h m)
    simp only [phi]; omega
theorem phi_lt {X Y : Bx} {L : List (List Int)} {p : Int} (h : ∀ lg, X.sentOf p lg ≤ Y.sentOf p lg) {j : Nat} (hj : above (rowAt L j) (Y.sentOf p j) < above (rowAt L j) (X.sentOf p j)) : ∀ m, j < m → phi Y L p m < phi X L p m
  | 0, hm => by omega
  | m + 1, hm => by
    have h1 := above_mono (l := rowAt L m) (h m)
    by_cases e : j = m
    · subst e
      have := phi_le (L := L) h j
      simp only [phi]; omega
    · have := phi_lt h hj m (by omega)
      simp only [phi]; omega

def allOf (L : List (List Int)) : Nat → Nat
  | 0 => 0
  | m + 1 => allOf L m + (rowAt L m).length
theorem allOf_mono (L : List (List Int)) {a b : Nat} (h : a ≤ b) : allOf L a ≤ allOf L b := by
  induction b with
  | zero => have : a = 0 := by omega
            subst this; exact Nat.le_refl _
  | succ b ih =>
    by_cases e : a = b + 1
    · subst e; exact Nat.le_refl _
    · have := ih (by omega); simp only [allOf]; omega
theorem phi_all (X : Bx) (L : List (List Int)) (p : Int) : ∀ m, phi X L p m ≤ allOf L m
  | 0 => Nat.le_refl _
  | m + 1 => by have := phi_all X L p m; have := above_le (rowAt L m) (X.sentOf p m); simp only [phi, allOf]; omega

/-- one turn -/
structure TInv (L : List (List Int)) (me n t : Int) (T : Nat) (X : Bx) : Prop where
  inv : AInv L me n t X
  pot : ∀ p, 0 ≤ p → p < n → lk X L me p (min n.toNat L.length) → phi X L p (min n.toNat L.length) + T ≤ allOf L L.length

theorem lk_of_done {X Y : Bx} {L : List (List Int)} {me p : Int} {m : Nat} (h : ∀ lg, Y.sentOf p lg = X.sentOf p lg) (hl : lk Y L me p m) : lk X L me p m := by
  obtain ⟨lg, h1, h2, h3, h4⟩ := hl
  exact ⟨lg, h1, h2, h3, by rw [← h]; exact h4⟩

theorem turn_end {X Y : Bx} {L : List (List Int)} {me n t : Int} {T : Nat} {l : List Snd} (h : TInv L me n t T X) (ok : PlanOk X L me n l) (hall : ∀ p, 0 ≤ p → p < n → (lk X L me p (min n.toNat L.length) ↔ ∃ s ∈ l, s.peer = p))
    (hk : KInv X L me n t l l.length Y) : TInv L me n t (T + 1) Y := by
  refine ⟨⟨hk.hn, hk.hme, h.inv.n1, by rw [hk.hb]; exact h.inv.hb, hk.live, fun p st hp => ?_, hk.reach⟩, fun p p0 pn hl => ?_⟩
  · rcases hk.dues p st hp with h1 | ⟨s, h1, _⟩
    · exact h1
    · simp at h1
  · by_cases hs : ∃ s ∈ l, s.peer = p
    · have hX := (hall p p0 pn).2 hs
      obtain ⟨s, hsl, rfl⟩ := hs
      have hd := hk.done s (by rw [List.take_of_length_le (Nat.le_refl _)]; exact hsl)
      obtain ⟨hso, _, _, _⟩ := ok.each s hsl
      have hlt : above (rowAt L s.log) (Y.sentOf s.peer s.log) < above (rowAt L s.log) (X.sentOf s.peer s.log) := by
        have h1 := above_mono (l := rowAt L s.log) hd
        have h2 := above_lt (l := rowAt L s.log) (a := s.src) (b := s.src + s.count) (by have := hso.c1; omega) hso.mem
        rw [hso.src] at h2
        rw [hso.src] at h1
        omega
      have e : ((s.log.toNat : Nat) : Int) = s.log := by have := hso.lg0; omega
      have h3 := phi_lt (X := X) (Y := Y) (L := L) (p := s.peer) (hk.mono s.peer) (j := s.log.toNat) (by rw [e]; exact hlt) (min n.toNat L.length) (by
        have := hso.lg0; have h5 := hso.lgn; have := hso.lgL; rw [h.inv.hn] at h5; omega)
      have := h.pot s.peer p0 pn hX
      omega
    · have hsame := hk.same p (fun s hs' e => hs ⟨s, hs', e⟩)
      exact absurd ((hall p p0 pn).1 (lk_of_done hsame hl)) hs

/-- at the end nobody lacks anything -/
theorem turns_end {L : List (List Int)} {me n t : Int} {X : Bx} (h : TInv L me n t (allOf L L.length + 1) X) (p : Int) (p0 : 0 ≤ p) (pn : p < n) : ¬ lk X L me p (min n.toNat L.length) := by
  intro hl
  have := h.pot p p0 pn hl
  omega
theorem no_lack {L : List (List Int)} {me n t : Int} {X : Bx} (h : AInv L me n t X) {p : Int} (hp : p ≠ me) (hno : ¬ lk X L me p (min n.toNat L.length)) {lg : Nat} (h1 : lg < min n.toNat L.length) (h2 : p ≠ (lg : Int)) :
    X.sentOf p lg = lastOf (rowAt L lg) := by
  have h3 := (lastOf_is (rowAt L lg)).top (h.reach p lg)
  by_cases e : X.sentOf p lg = lastOf (rowAt L lg)
  · exact e
  · exact absurd ⟨lg, h1, hp, h2, by omega⟩ hno

theorem tinv_start {L : List (List Int)} {me n t : Int} (h : newOk me n) (ht : 0 ≤ t) (bud : Int) : TInv L me n t 0 (Bx.new me n bud) where
  inv := {
    hn := rfl, hme := rfl, n1 := h.1
    hb := by show 64 ≤ max bud 64; omega
    live := (minv_new [] h bud).live
    due := fun p st hp => by
      simp only [Bx.new, newX] at hp
      split at hp
      · cases hp; exact ht
      · cases hp
    reach := fun p lg => by
      have : (Bx.new me n bud).sentOf p lg = 0 := by simp [Bx.new, newX, Bx.sentOf]
      rw [this]; exact .zero }
  pot := fun p _ _ _ => by
    have h1 := phi_all (Bx.new me n bud) L p (min n.toNat L.length)
    have h2 := allOf_mono L (Nat.min_le_right n.toNat L.length)
    omega

/-- the plan of a turn -/
theorem plan_turn {L : List (List Int)} {me n t now : Int} {X : Bx} (h : AInv L me n t X) (hc : clamp now 0 1099511627776 = t) :
    PlanOk X L me n (X.plan now L).1 ∧ KInv X L me n t (X.plan now L).1 0 (X.plan now L).2 ∧ (∀ p, 0 ≤ p → p < n → (lk X L me p (min n.toNat L.length) ↔ ∃ s ∈ (X.plan now L).1, s.peer = p)) := by
  have htb := clamp_bounds now
  rw [hc] at htb
  have hp : X.plan now L = planTo X t L n.toNat := by unfold Bx.plan; rw [hc, h.hn]
  have hn1 := h.n1
  have hX1 : 1 ≤ X.n := by rw [h.hn]; exact hn1
  have inv := planTo_inv h htb.1 htb.2 n.toNat (by omega)
  rw [hp]
  obtain ⟨r, hr⟩ : ∃ r, planTo X t L n.toNat = r := ⟨_, rfl⟩
  rw [hr] at inv ⊢
  have hok : PlanOk X L me n r.1 := by
    refine ⟨fun s hs => ?_, inv.nodup⟩
    obtain ⟨p, h1, h2, h3⟩ := (inv.mem s).1 hs
    have h4 := (lackTo_mem hX1 X.n.toNat (by omega) s h3).1
    have h5 := (h.live p).1 h2
    rw [h4.peer]
    exact ⟨h4, h5⟩
  refine ⟨hok, kinv_start h inv.hn inv.hme inv.hb inv.hs inv.some inv.dues hok, fun p p0 pn => ?_⟩
  constructor
  · intro hl
    have hpm : p ≠ me := by obtain ⟨_, _, h2, _⟩ := hl; exact h2
    have hne := (lacks_iff h hpm).2 hl
    cases hll : X.lacks p t L with
    | nil => exact absurd hll hne
    | cons s l =>
      have hs : s ∈ X.lacks p t L := by rw [hll]; simp
      refine ⟨s, (inv.mem s).2 ⟨p.toNat, by omega, ?_, ?_⟩, (lackTo_mem hX1 X.n.toNat (by omega) s hs).1.peer⟩
      · rw [show ((p.toNat : Nat) : Int) = p by omega]; exact (h.live p).2 ⟨p0, pn, hpm⟩
      · rw [show ((p.toNat : Nat) : Int) = p by omega]; exact hs
  · rintro ⟨s, hs, rfl⟩
    have := hok.each s hs
    exact this.1.lacks h this.2.2.2

theorem plan_empty {L : List (List Int)} {me n t now : Int} {X : Bx} (h : AInv L me n t X) (hc : clamp now 0 1099511627776 = t) (hno : ∀ p, 0 ≤ p → p < n → ¬ lk X L me p (min n.toNat L.length)) : (X.plan now L).1 = [] := by
  have := plan_turn h hc
  cases hl : (X.plan now L).1 with
  | nil => rfl
  | cons s l =>
    rw [hl] at this
    have hs := this.1.each s (by simp)
    exact absurd ((this.2.2 s.peer hs.2.1 hs.2.2.1).2 ⟨s, by simp, rfl⟩) (hno _ hs.2.1 hs.2.2.1)
end Go.Proofs.Ythbnnifkoomokaa
