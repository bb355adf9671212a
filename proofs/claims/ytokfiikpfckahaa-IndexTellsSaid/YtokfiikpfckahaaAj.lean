/- An index beside the reference's texts: what each call leaves. Condition: both lie as stated. -/
import Derived.Test.YtokfiikpfckahaaAi
set_option linter.unusedVariables false
set_option linter.unusedSimpArgs false
namespace Go.Proofs.Ytokfiikpfckahaa
open Go.RowKit Go.Lib Go.Ix Go.Sort Go.Mf
set_option maxRecDepth 100000

/-- the index holds the reference's texts -/
def Sim (W : Str → Option (List Str)) (t : Texts) : Prop := ∀ i ws, W i = some ws ↔ ∃ p ∈ t, p.1 = i ∧ ws = wordsOf p.2

theorem sim_start : Sim (fun _ => none) [] := fun i ws => by simp
theorem mem_rmT {t : Texts} {id : Str} {p : Str × Str} : p ∈ rmT t id ↔ p ∈ t ∧ p.1 ≠ id := by
  unfold rmT
  rw [List.mem_filter]
  simp
theorem Sim.rm {W : Str → Option (List Str)} {t : Texts} (h : Sim W t) (id : Str) : Sim (fun j => if j = id then none else W j) (rmT t id) := by
  intro i ws
  dsimp only
  by_cases e : i = id
  · rw [if_pos e]
    constructor
    · intro h; cases h
    · rintro ⟨p, h1, h2, _⟩
      exact absurd (h2.trans e) (mem_rmT.1 h1).2
  · rw [if_neg e, h i ws]
    constructor
    · rintro ⟨p, h1, h2, h3⟩
      exact ⟨p, mem_rmT.2 ⟨h1, by rw [h2]; exact e⟩, h2, h3⟩
    · rintro ⟨p, h1, h2, h3⟩
      exact ⟨p, (mem_rmT.1 h1).1, h2, h3⟩
theorem Sim.set {W : Str → Option (List Str)} {t : Texts} (h : Sim W t) (id text : Str) : Sim (fun j => if j = id then some (wordsOf text) else W j) (rmT t id ++ [(id, text)]) := by
  intro i ws
  have hr := h.rm id i ws
  dsimp only at hr ⊢
  by_cases e : i = id
  · rw [if_pos e]
    constructor
    · intro h1
      cases h1
      exact ⟨(id, text), List.mem_append_right _ (by simp), e.symm, rfl⟩
    · rintro ⟨p, h1, h2, h3⟩
      rcases List.mem_append.1 h1 with h4 | h4
      · exact absurd (h2.trans e) (mem_rmT.1 h4).2
      · rw [List.mem_singleton] at h4
        subst h4
        rw [h3]
  · rw [if_neg e] at hr ⊢
    rw [hr]
    constructor
    · rintro ⟨p, h1, h2⟩
      exact ⟨p, List.mem_append_left _ h1, h2⟩
    · rintro ⟨p, h1, h2, h3⟩
      rcases List.mem_append.1 h1 with h4 | h4
      · exact ⟨p, h4, h2, h3⟩
      · rw [List.mem_singleton] at h4
        subst h4
        exact absurd h2.symm e
theorem Sim.found {W : Str → Option (List Str)} {t : Texts} {ws l l' : List Str} (h : Sim W t) (h1 : Found W ws l) (h2 : RFound t ws l') : l' = l := by
  refine Asc.ext h2.1 h1.1 (fun i => ?_)
  rw [h1.2 i, h2.2 i]
  by_cases hw : ws = []
  · simp [hw]
  · obtain ⟨k0, hk0⟩ := List.exists_mem_of_ne_nil ws hw
    constructor
    · rintro ⟨_, p, hp, hpi, hf⟩
      refine ⟨hw, fun k hk => ?_⟩
      have hW := (h i (wordsOf p.2)).2 ⟨p, hp, hpi, rfl⟩
      unfold tf at hf
      rw [List.all_eq_true] at hf
      have := hf k hk
      simp only [hasOf, hW]
      exact this
    · rintro ⟨_, hall⟩
      have h0 := hall k0 hk0
      cases hW : W i with
      | none => simp [hasOf, hW] at h0
      | some wi =>
        obtain ⟨p, hp, hpi, hwi⟩ := (h i wi).1 hW
        refine ⟨hw, p, hp, hpi, ?_⟩
        unfold tf
        rw [List.all_eq_true]
        intro k hk
        have := hall k hk
        simp only [hasOf, hW, hwi] at this
        exact this
theorem Sim.ids {W : Str → Option (List Str)} {t : Texts} (h : Sim W t) (i : Str) (hi : (W i).isSome = true) : i ∈ t.map Prod.fst := by
  cases hW : W i with
  | none => rw [hW] at hi; cases hi
  | some wi =>
    obtain ⟨p, hp, hpi, _⟩ := (h i wi).1 hW
    exact List.mem_map.2 ⟨p, hp, hpi⟩

theorem Bk.texts {B : Ter} {B' : Nat} {a w : World} {v : Value} {l : Texts} (h : Bk B a w) (ho : OwnT a B' v l) : OwnT w B' v l := by
  refine ⟨ho.1, ?_⟩
  rcases ho.2 with h1 | ⟨g, cap, cur, h1, h2, h3, h4⟩
  · exact Or.inl h1
  · exact Or.inr ⟨g, cap, cur, h1, h2, h.cells _ _ _ _ h3, h4⟩

/-- both side by side; the index may be ahead of the texts -/
structure Tl (w : World) (x : Nat) (u : Value) (j : Nat) (W : Str → Option (List Str)) (t : Texts) (wr : World) : Prop where
  ix : ∃ T, IxAt wr T x W ∧ T.fresh wr.heap.size ∧ w.heap.size ≤ T.base
  below : Below w.heap.size w wr
  own : OwnT wr 0 u t
  len : t.length ≤ j
  few : ∀ p ∈ t, p.2.length ≤ 500

theorem Tl.up {w wr w' : World} {x j : Nat} {u : Value} {W : Str → Option (List Str)} {t : Texts} (h : Tl w x u j W t wr) (hb : Below wr.heap.size wr w') : Tl w x u j W t w' := by
  obtain ⟨⟨T, h1, h2, h3⟩, h4, h5, h6, h7⟩ := h
  exact ⟨⟨T, h1.up hb, h2.up hb.size, h3⟩, h4.trans (hb.mono h4.size), own_up h5 hb, h6, h7⟩

def TlSt (w : World) (x : Nat) (u : Value) (j : Nat) (wr : World) : Prop := ∃ W t, Tl w x u j W t wr ∧ Sim W t
def TlSet (w : World) (x : Nat) (u : Value) (j : Nat) (id text : Str) (wr : World) : Prop := ∃ W t, Tl w x u j (fun j => if j = id then some (wordsOf text) else W j) t wr ∧ Sim W t
def TlRm (w : World) (x : Nat) (u : Value) (j : Nat) (id : Str) (wr : World) : Prop := ∃ W t, Tl w x u j (fun j => if j = id then none else W j) t wr ∧ Sim W t

theorem TlSt.set {w wr : World} {x j : Nat} {u : Value} (h : TlSt w x u j wr) (id text : Str) (ht : text.length ≤ 500) (q : Nat) :
    Calls Try.prog 15 #[.pointer (some ⟨x, 0, none⟩), encStr id, encStr text] (wr.drewN q) fun e w' => e = .returned (.tuple #[]) ∧ Hid (TlSet w x u j id text w') := by
  obtain ⟨W, t, h, hs⟩ := h
  obtain ⟨⟨T, h1, h2, h3⟩, h4, h5, h6, h7⟩ := h.up (below_dn wr q)
  refine (set_any h1 h2 id text (by omega)).mono ?_
  rintro e w' ⟨rfl, g1, g2⟩
  exact ⟨rfl, Lib.hid ⟨W, t, ⟨⟨T, g1, h2.up g2.size, h3⟩, h4.trans (g2.below.mono h3), g2.texts h5, h6, h7⟩, hs⟩⟩
theorem TlSt.rm {w wr : World} {x j : Nat} {u : Value} (h : TlSt w x u j wr) (id : Str) (q : Nat) :
    Calls Try.prog 17 #[.pointer (some ⟨x, 0, none⟩), encStr id] (wr.drewN q) fun e w' => e = .returned (.tuple #[]) ∧ Hid (TlRm w x u j id w') := by
  obtain ⟨W, t, h, hs⟩ := h
  obtain ⟨⟨T, h1, h2, h3⟩, h4, h5, h6, h7⟩ := h.up (below_dn wr q)
  refine (remove_any h1 h2 id).mono ?_
  rintro e w' ⟨rfl, g1, g2⟩
  exact ⟨rfl, Lib.hid ⟨W, t, ⟨⟨T, g1, h2.up g2.size, h3⟩, h4.trans (g2.below.mono h3), g2.texts h5, h6, h7⟩, hs⟩⟩
theorem TlSet.ref {w wr : World} {x j : Nat} {u : Value} {id text : Str} (h : TlSet w x u j id text wr) (hj : j ≤ 900) (ht : text.length ≤ 500) (q : Nat) :
    Calls Try.prog 16 #[u, encStr id, encStr text] (wr.drewN q) fun e w' => ∃ u', e = .returned u' ∧ Hid (TlSt w x u' (j + 1) w') := by
  obtain ⟨W, t, h, hs⟩ := h
  have h' := h.up (below_dn wr q)
  refine (refset_any (own_text h'.own) (by have := h'.len; omega) id text).mono ?_
  rintro e w' ⟨u', rfl, g1, g2⟩
  obtain ⟨h1, h2, _, h4, h5⟩ := h'.up g2
  refine ⟨u', rfl, Lib.hid ⟨_, _, ⟨h1, h2, ownT_le g1 (Nat.zero_le _), ?_, fun p hp => ?_⟩, hs.set id text⟩⟩
  · rw [List.length_append]
    have := rmT_len t id
    simp
    omega
  · rcases List.mem_append.1 hp with h6 | h6
    · exact h5 p (mem_rmT.1 h6).1
    · rw [List.mem_singleton] at h6
      subst h6
      exact ht
theorem TlRm.ref {w wr : World} {x j : Nat} {u : Value} {id : Str} (h : TlRm w x u j id wr) (hj : j ≤ 900) (q : Nat) :
    Calls Try.prog 18 #[u, encStr id] (wr.drewN q) fun e w' => ∃ u', e = .returned u' ∧ Hid (TlSt w x u' (j + 1) w') := by
  obtain ⟨W, t, h, hs⟩ := h
  have h' := h.up (below_dn wr q)
  refine (refremove_any (own_text h'.own) (by have := h'.len; omega) id).mono ?_
  rintro e w' ⟨u', rfl, g1, g2⟩
  obtain ⟨h1, h2, _, h4, h5⟩ := h'.up g2
  refine ⟨u', rfl, Lib.hid ⟨_, _, ⟨h1, h2, ownT_le g1 (Nat.zero_le _), ?_, fun p hp => h5 p (mem_rmT.1 hp).1⟩, hs.rm id⟩⟩
  have := rmT_len t id
  omega

/-- the index has found -/
def TlF (w : World) (x : Nat) (u : Value) (j : Nat) (ws : List Str) (v1 : Value) (wr : World) : Prop := ∃ W t l1, Tl w x u j W t wr ∧ Sim W t ∧ OwnS wr 0 v1 l1 ∧ Found W ws l1 ∧ l1.length ≤ 1000000
/-- both have found -/
def TlG (w : World) (x : Nat) (u : Value) (j : Nat) (v1 v2 : Value) (wr : World) : Prop := ∃ W t l1, Tl w x u j W t wr ∧ Sim W t ∧ OwnS wr 0 v1 l1 ∧ OwnS wr 0 v2 l1 ∧ l1.length ≤ 1000000

theorem TlSt.find {w wr : World} {x j : Nat} {u vw : Value} {ws : List Str} (h : TlSt w x u j wr) (hj : j ≤ 900) (hw : RowAt w vw ws) (hwl : ws.length ≤ 8) (q : Nat) :
    Calls Try.prog 19 #[.pointer (some ⟨x, 0, none⟩), vw] (wr.drewN q) fun e w' => ∃ v1, e = .returned v1 ∧ Hid (TlF w x u j ws v1 w') := by
  obtain ⟨W, t, h, hs⟩ := h
  have h' := h.up (below_dn wr q)
  obtain ⟨T, h1, h2, h3⟩ := h'.ix
  have hU : (t.map Prod.fst).length ≤ 1000000 := by rw [List.length_map]; have := h.len; omega
  refine (find_any h1 (hw.up h'.below) (by omega) hs.ids hU).mono ?_
  rintro e w' ⟨v1, l1, rfl, g1, g2, g3⟩
  exact ⟨v1, rfl, Lib.hid ⟨W, t, l1, h'.up g3, hs, own_le g1 (Nat.zero_le _), g2, Nat.le_trans (found_len g2 hs.ids) hU⟩⟩
theorem TlF.ref {w wr : World} {x j : Nat} {u vw v1 : Value} {ws : List Str} (h : TlF w x u j ws v1 wr) (hj : j ≤ 900) (hw : RowAt w vw ws) (hwl : ws.length ≤ 8) (q : Nat) :
    Calls Try.prog 20 #[u, vw] (wr.drewN q) fun e w' => ∃ v2, e = .returned v2 ∧ Hid (TlG w x u j v1 v2 w') := by
  obtain ⟨W, t, l1, h, hs, ho, hf, hl⟩ := h
  have h' := h.up (below_dn wr q)
  refine (reffind_any (own_text h'.own) (by have := h'.len; omega) h'.few (hw.up h'.below) (by omega)).mono ?_
  rintro e w' ⟨v2, l2, rfl, g1, g2, g3, g4⟩
  obtain rfl := hs.found hf g2
  exact ⟨v2, rfl, Lib.hid ⟨W, t, l2, h'.up g4, hs, own_up (own_up ho (below_dn wr q)) g4, g1, hl⟩⟩
theorem TlG.same {w wr : World} {x j : Nat} {u v1 v2 : Value} (h : TlG w x u j v1 v2 wr) (q : Nat) :
    Calls Try.prog 10 #[v1, v2] (wr.drewN q) fun e w' => e = .returned (.bool true) ∧ Hid (TlSt w x u (j + 1) w') := by
  obtain ⟨W, t, l1, h, hs, ho1, ho2, hl⟩ := h
  have h' := h.up (below_dn wr q)
  refine (same_any (own_row (own_up ho1 (below_dn wr q))) (own_row (own_up ho2 (below_dn wr q))) hl).mono ?_
  rintro e w' ⟨rfl, q', rfl⟩
  obtain ⟨h1, h2, h3, h4, h5⟩ := h'.up (below_dn (wr.drewN q) q')
  exact ⟨by simp, Lib.hid ⟨W, t, ⟨h1, h2, h3, by omega, h5⟩, hs⟩⟩
end Go.Proofs.Ytokfiikpfckahaa
