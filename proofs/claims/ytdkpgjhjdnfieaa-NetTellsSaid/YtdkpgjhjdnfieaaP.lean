/- What add and remove do to the net in memory; no program is run. No condition. -/
import Derived.Test.YtdkpgjhjdnfieaaO
set_option linter.unusedVariables false
set_option linter.unusedSimpArgs false
namespace Go.Proofs.Ytdkpgjhjdnfieaa
open Go.RowKit Go.Mf
set_option maxRecDepth 100000

def NetOk (w : World) (S : Nat → Prop) (x : Nat) (X : Nx) : Prop := (∀ k, S k → k < w.heap.size) ∧ NetAt w S x X

theorem NetIn.keep {w w' : World} {S S' : Nat → Prop} {x rb : Nat} {rr : Nat → Nat} {qv : Nat → Nat → Value} {X : Nx} (h : NetIn w S x rb rr qv X) (hS : ∀ k, S k → S' k) (hw : ∀ k, S k → k < w.heap.size → w'.heap[k]? = w.heap[k]?) : NetIn w' S' x rb rr qv X := by
  have lt : ∀ {k : Nat} {o : Obj}, w.heap[k]? = some o → k < w.heap.size := fun h => (Array.getElem?_eq_some_iff.1 h).1
  exact {
    hx := (hw _ h.sx (lt h.hx)).trans h.hx
    hr := (hw _ h.sr (lt h.hr)).trans h.hr
    hl := fun i hi => (hw _ (h.sl i hi) (lt (h.hl i hi))).trans (h.hl i hi)
    hq := fun i j hi hj => own_heap (h.hq i j hi hj) (fun g hg hl => hw _ (h.sq i j g hi hj hg) hl)
    ok := h.ok, sx := hS _ h.sx, sr := hS _ h.sr, sl := fun i hi => hS _ (h.sl i hi), sq := fun i j g hi hj hg => hS _ (h.sq i j g hi hj hg), inj := h.inj, apart := h.apart }
theorem NetOk.keep {w w' : World} {S : Nat → Prop} {x : Nat} {X : Nx} (h : NetOk w S x X) (hs : w.heap.size ≤ w'.heap.size) (hw : ∀ k, S k → k < w.heap.size → w'.heap[k]? = w.heap[k]?) : NetOk w' S x X := by
  obtain ⟨h1, rb, rr, qv, h2⟩ := h
  exact ⟨fun k hk => Nat.lt_of_lt_of_le (h1 k hk) hs, rb, rr, qv, h2.keep (fun _ h => h) hw⟩

theorem link_setv (n : Nat) (v : Nat → Value) (off : Nat → Bool) (j : Nat) (u : Value) : (linkCells n v off).setIfInBounds (j * 2) u = linkCells n (fun k => if k = j then u else v k) off := by
  induction n with
  | zero => rfl
  | succ n ih =>
    have e1 : ∀ f, linkCells (n + 1) f off = linkCells n f off ++ #[f n, .bool (off n)] := fun f => by simp [linkCells, List.range_succ]
    have hl := link_len n v off
    rw [e1, e1, ← ih]
    apply Array.ext_getElem?
    intro k
    simp only [Array.getElem?_setIfInBounds, Array.getElem?_append, Array.size_append, Array.size_setIfInBounds, hl]
    by_cases h1 : k < 2 * n
    · simp only [if_pos h1]
      by_cases h2 : j * 2 = k
      · subst h2
        rw [if_pos rfl, if_pos rfl, if_pos (by simp; omega), if_pos (by omega)]
      · rw [if_neg h2, if_neg h2]
    · simp only [if_neg h1]
      by_cases h2 : j * 2 = k
      · by_cases h3 : j = n
        · subst h3
          have : k = 2 * j := by omega
          subst this
          simp [h2]
        · rw [if_pos h2]
          have h4 : ¬ n = j := fun e => h3 e.symm
          have h5 : 2 ≤ k - 2 * n := by omega
          rw [if_neg (by simp; omega)]
          simp [h5]
      · rw [if_neg h2]
        by_cases h3 : k - 2 * n = 0
        · have : ¬ n = j := by omega
          simp [h3, this]
        · by_cases h4 : k - 2 * n = 1
          · simp [h4]
          · have : 2 ≤ k - 2 * n := by omega
            simp [this]

def Nx.set (X : Nx) (i j : Nat) (l : List (List Value)) : Nx := { X with q := fun i' j' => if i' = i ∧ j' = j then l else X.q i' j' }

/-- one queue is turned: its array is the old one or a new one -/
theorem net_set {w w' : World} {S : Nat → Prop} {x rb : Nat} {rr : Nat → Nat} {qv : Nat → Nat → Value} {X : Nx} (h : NetIn w S x rb rr qv X) {i j g cap : Nat} (hi : i < X.n) (hj : j < X.n) (l : List (List Value)) (hok : MsgsOk l) (hSl : ∀ k, S k → k < w.heap.size)
    (hr : w'.heap[rr i]? = some (.cells ((linkCells X.n (qv i) (X.off i)).setIfInBounds (j * 2) (.slice (some ⟨g, 0, none⟩) l.length cap)) 77 (0, 0))) (hown : w'.ownsRow 0 42 34 (.slice (some ⟨g, 0, none⟩) l.length cap) l.length l.flatten)
    (hg : (qv i j).ownBlock = some g ∨ w.heap.size ≤ g) (hw : ∀ k, k < w.heap.size → k ≠ rr i → some k ≠ (qv i j).ownBlock → w'.heap[k]? = w.heap[k]?) :
    NetIn w' (fun k => S k ∨ k = g) x rb rr (fun i' j' => if i' = i ∧ j' = j then .slice (some ⟨g, 0, none⟩) l.length cap else qv i' j') (X.set i j l) := by
  have lt : ∀ {k : Nat} {o : Obj}, w.heap[k]? = some o → k < w.heap.size := fun h => (Array.getElem?_eq_some_iff.1 h).1
  have hli := h.hl i hi
  have notown : ∀ {k : Nat} {cs : Array Value} {t : TypeId}, w.heap[k]? = some (Obj.cells cs t (0, 0)) → t ≠ 42 → some k ≠ (qv i j).ownBlock := fun hk ht e => by
    obtain ⟨cur, hc⟩ := own_block (h.hq i j hi hj) e.symm
    rw [hk] at hc
    simp at hc
    exact ht hc.2
  have notr : ∀ {k : Nat} {cs : Array Value} {t : TypeId}, w.heap[k]? = some (Obj.cells cs t (0, 0)) → t ≠ 77 → k ≠ rr i := fun hk ht e => by
    rw [e, hli] at hk
    simp at hk
    exact ht hk.2.symm
  have keep : ∀ (k : Nat) {cs : Array Value} {t : TypeId}, w.heap[k]? = some (Obj.cells cs t (0, 0)) → t ≠ 42 → t ≠ 77 → w'.heap[k]? = w.heap[k]? := fun k cs t hk h1 h2 => hw k (lt hk) (notr hk h2) (notown hk h1)
  have hother : ∀ i' j' g', i' < X.n → j' < X.n → ¬ (i' = i ∧ j' = j) → (qv i' j').ownBlock = some g' → g' ≠ g := fun i' j' g' hi' hj' hne hg' e => by
    rcases hg with h1 | h1
    · exact hne (h.apart i' j' i j g' hi' hj' hi hj hg' (by rw [e]; exact h1))
    · have := hSl g' (h.sq i' j' g' hi' hj' hg'); omega
  exact {
    hx := (keep _ h.hx (by decide) (by decide)).trans h.hx
    hr := (keep _ h.hr (by decide) (by decide)).trans h.hr
    hl := fun i' hi' => by
      by_cases e : i' = i
      · subst e
        rw [hr, link_setv]
        simp [Nx.set]
      · have hne : rr i' ≠ rr i := fun e2 => e (h.inj _ _ hi' hi e2)
        rw [hw _ (lt (h.hl i' hi')) hne (notown (h.hl i' hi') (by decide)), h.hl i' hi']
        simp [e, Nx.set]
    hq := fun a b ha hb => by
      by_cases e : a = i ∧ b = j
      · simp only [Nx.set, if_pos e]; exact hown
      · simp only [Nx.set, if_neg e]
        refine own_heap (h.hq a b ha hb) (fun g' hg' hl => hw _ hl ?_ (fun e2 => e ?_))
        · obtain ⟨cur, hc⟩ := own_block (h.hq a b ha hb) hg'
          exact notr hc (by decide)
        · exact h.apart a b i j g' ha hb hi hj hg' e2.symm
    ok := fun a b => by
      by_cases e : a = i ∧ b = j
      · simp only [Nx.set, if_pos e]; exact hok
      · simp only [Nx.set, if_neg e]; exact h.ok a b
    sx := .inl h.sx
    sr := .inl h.sr
    sl := fun a ha => .inl (h.sl a ha)
    sq := fun a b g' ha hb hg' => by
      by_cases e : a = i ∧ b = j
      · rw [if_pos e] at hg'; simp only [Value.ownBlock, Option.some.injEq] at hg'; exact .inr hg'.symm
      · rw [if_neg e] at hg'; exact .inl (h.sq a b g' ha hb hg')
    inj := h.inj
    apart := fun a b a' b' g' ha hb ha' hb' h1 h2 => by
      by_cases e : a = i ∧ b = j
      · by_cases e' : a' = i ∧ b' = j
        · exact ⟨e.1.trans e'.1.symm, e.2.trans e'.2.symm⟩
        · rw [if_pos e] at h1
          rw [if_neg e'] at h2
          simp only [Value.ownBlock, Option.some.injEq] at h1
          exact absurd h1.symm (hother a' b' g' ha' hb' e' h2)
      · by_cases e' : a' = i ∧ b' = j
        · rw [if_neg e] at h1
          rw [if_pos e'] at h2
          simp only [Value.ownBlock, Option.some.injEq] at h2
          exact absurd h2.symm (hother a b g' ha hb e h1)
        · rw [if_neg e] at h1
          rw [if_neg e'] at h2
          exact h.apart a b a' b' g' ha hb ha' hb' h1 h2 }
end Go.Proofs.Ytdkpgjhjdnfieaa
