/- The net and the reference's net say the same: a relation that every operation keeps. No program is run. No condition. -/
import Derived.Test.YtdkpgjhjdnfieaaBc
import Derived.Test.YtdkpgjhjdnfieaaBe
import Derived.Test.YtdkpgjhjdnfieaaY
import Derived.Test.YtdkpgjhjdnfieaaAp
set_option linter.unusedVariables false
set_option linter.unusedSimpArgs false
namespace Go.Proofs.Ytdkpgjhjdnfieaa
open Go.RowKit Go.Mf
set_option maxRecDepth 100000

/-- the messages of a link, in the reference's list -/
def flt (l : List RM) (a b : Int) : List RM := l.filter fun m => m.is a b
theorem cnt_all (l : List RM) (a b : Int) : cnt l a b l.length = (flt l a b).length := by unfold cnt flt; rw [List.take_length]
theorem flt_split {l : List RM} {k : Nat} {m : RM} (h : l[k]? = some m) (a b : Int) : flt l a b = flt (l.take k) a b ++ ((if m.is a b = true then [m] else []) ++ flt (l.drop (k + 1)) a b) := by
  obtain ⟨hlt, e⟩ := List.getElem?_eq_some_iff.1 h
  have h2 : l.drop k = m :: l.drop (k + 1) := by rw [← e]; exact List.drop_eq_getElem_cons hlt
  have e2 : l = l.take k ++ m :: l.drop (k + 1) := by rw [← h2, List.take_append_drop]
  have := congrArg (fun l => flt l a b) e2
  simp only [flt, List.filter_append, List.filter_cons] at this ⊢
  rw [this]
  cases m.is a b <;> rfl
theorem flt_erase {l : List RM} {k : Nat} {m : RM} (h : l[k]? = some m) (a b : Int) : flt (l.eraseIdx k) a b = flt (l.take k) a b ++ flt (l.drop (k + 1)) a b := by
  rw [List.eraseIdx_eq_take_drop_succ]; unfold flt; rw [List.filter_append]
theorem at_some {l : List RM} {a b i : Int} {k : Nat} (h : AtSpec l a b i (some k)) : ∃ (j : Nat) (m : RM), i = j ∧ l[k]? = some m ∧ m.f = a ∧ m.t = b ∧ (flt l a b)[j]? = some m ∧ flt (l.eraseIdx k) a b = (flt l a b).eraseIdx j ∧ (∀ a' b', ¬ (a' = a ∧ b' = b) → flt (l.eraseIdx k) a' b' = flt l a' b') ∧ m ∈ l := by
  obtain ⟨m, hm, his, hc⟩ := h
  have hft : m.f = a ∧ m.t = b := by simpa [RM.is] using his
  have hlen : (flt (l.take k) a b).length = cnt l a b k := rfl
  have hs := flt_split hm a b
  rw [if_pos his] at hs
  refine ⟨cnt l a b k, m, hc.symm, hm, hft.1, hft.2, ?_, ?_, fun a' b' hne => ?_, List.mem_of_getElem? hm⟩
  · rw [hs, List.getElem?_append_right (by omega), hlen, Nat.sub_self]; rfl
  · rw [flt_erase hm, hs, List.eraseIdx_append_of_length_le (by omega), hlen, Nat.sub_self]; rfl
  · rw [flt_erase hm, flt_split hm a' b', if_neg (by
      intro h; simp only [RM.is, Bool.and_eq_true, beq_iff_eq] at h; exact hne ⟨h.1.symm.trans hft.1, h.2.symm.trans hft.2⟩), List.nil_append]
theorem flt_find : ∀ (l : List RM) (a b : Int) (j : Nat), j < (flt l a b).length → ∃ (k : Nat) (m : RM), l[k]? = some m ∧ m.is a b = true ∧ cnt l a b k = j
  | [], a, b, j, h => by simp [flt] at h
  | x :: l, a, b, j, h => by
    have hc : ∀ k, cnt (x :: l) a b (k + 1) = (if x.is a b = true then 1 else 0) + cnt l a b k := fun k => by
      unfold cnt
      rw [List.take_succ_cons, List.filter_cons]
      cases x.is a b <;> simp; omega
    by_cases hx : x.is a b = true
    · cases j with
      | zero => exact ⟨0, x, rfl, hx, by simp [cnt]⟩
      | succ j =>
        obtain ⟨k, m, h1, h2, h3⟩ := flt_find l a b j (by simp only [flt, List.filter_cons, hx, if_true, List.length_cons] at h ⊢; omega)
        exact ⟨k + 1, m, by simpa using h1, h2, by rw [hc, if_pos hx, h3]; omega⟩
    · obtain ⟨k, m, h1, h2, h3⟩ := flt_find l a b j (by simpa [flt, List.filter_cons, hx] using h)
      exact ⟨k + 1, m, by simpa using h1, h2, by rw [hc, if_neg hx, h3]; omega⟩
theorem at_none {l : List RM} {a b i : Int} (h : AtSpec l a b i none) : ¬ (0 ≤ i ∧ i < (flt l a b).length) := fun ⟨h1, h2⟩ => by
  obtain ⟨k, m, q1, q2, q3⟩ := flt_find l a b i.toNat (by omega)
  exact h k m q1 q2 (by omega)

/-- a message on the net and one on the reference's list that read alike; y: the block that the reference writes -/
def Pair (w : World) (S : Nat → Prop) (y : Nat) (O : Nat → Prop) (c : List Value) (m : RM) : Prop := ∃ M, Holds w (fun k => S k ∨ k = y) c M ∧ MsgIn w O m.c M ∧ MsgTy M
theorem Fr.or {S S' : Nat → Prop} {a b : World} (h : Fr S S' a b) (y : Nat) : Fr (fun k => S k ∨ k = y) (fun k => S' k ∨ k = y) a b :=
  ⟨h.os, h.tape, h.output, h.size, fun k hk hn => h.block k hk (fun e => hn (.inl e)), fun k hk => hk.elim (fun hk => (h.new k hk).imp .inl id) (fun e => .inl (.inr e))⟩
theorem RFr.or {T T' S : Nat → Prop} {y : Nat} {a b : World} (h : RFr T T' y a b) : Fr (fun k => S k ∨ k = y) (fun k => S k ∨ k = y) a b :=
  ⟨h.1.os, h.1.tape, h.1.output, h.1.size, fun k hk hn => h.1.block k hk (fun e => hn (.inr e)), fun k hk => .inl hk⟩
theorem Pair.fr {a b : World} {S S' O : Nat → Prop} {y : Nat} {c : List Value} {m : RM} (h : Pair a S y O c m) (hf : Fr (fun k => S k ∨ k = y) (fun k => S' k ∨ k = y) a b) (hO : ∀ k, O k → ¬ (S k ∨ k = y)) : Pair b S' y O c m := by
  obtain ⟨M, h1, h2, h3⟩ := h
  exact ⟨M, h1.fr hf, h2.keep (fun _ h _ => h) (fun k hk hl => hf.block k hl (hO k hk)), h3⟩

structure Sim (w0 w : World) (S T : Nat → Prop) (x y : Nat) (X : Nx) (L C : Value) (l : List RM) (cuts : List (Int × Int)) : Prop where
  inv : Inv w0 S x X w
  ref : RefIn w T y X.n L C l cuts
  st : ∀ k, S k → T k → False
  yl : w0.heap.size ≤ y
  lk : ∀ m ∈ l, isLink X.n m.f m.t = true
  len : ∀ a b : Int, isLink X.n a b = true → (X.q a.toNat b.toNat).length = (flt l a b).length
  par : ∀ a b : Int, isLink X.n a b = true → ∀ (p : Nat) (c : List Value) (m : RM), (X.q a.toNat b.toNat)[p]? = some c → (flt l a b)[p]? = some m → Pair w S y (Old w0) c m
  off : ∀ a b : Int, isLink X.n a b = true → X.off a.toNat b.toNat = offOf cuts a b
  ofl : ∀ a b : Int, offOf cuts a b = true → isLink X.n a b = true
  tot : X.total = l.length

section
variable {w0 w w1 w2 : World} {S S1 T T2 : Nat → Prop} {x y : Nat} {X X1 : Nx} {L C L2 C2 : Value} {l l2 : List RM} {cuts cuts2 : List (Int × Int)}
theorem Sim.old (h : Sim w0 w S T x y X L C l cuts) : ∀ k, Old w0 k → ¬ (S k ∨ k = y) := fun k hk e => by
  have hk' : k < w0.heap.size := hk
  rcases e with e | e
  · have := h.inv.2.1 k e; omega
  · have := h.yl; omega
theorem Sim.mid (h : Sim w0 w S T x y X L C l cuts) (hf : Fr S S1 w w1) : RefIn w1 T y X.n L C l cuts := h.ref.keep hf.size (fun k hk hl => hf.block k hl (fun hs => h.st k hs hk))
/-- a call on the net, then one on the reference -/
theorem Sim.step (h : Sim w0 w S T x y X L C l cuts) (hn : NetOk w1 S1 x X1) (hf : Fr S S1 w w1) (hr : RefIn w2 T2 y X.n L2 C2 l2 cuts2) (hrf : RFr T T2 y w1 w2) (hX : X1.n = X.n)
    (lk : ∀ m ∈ l2, isLink X.n m.f m.t = true) (len : ∀ a b : Int, isLink X.n a b = true → (X1.q a.toNat b.toNat).length = (flt l2 a b).length)
    (par : ∀ a b : Int, isLink X.n a b = true → ∀ (p : Nat) (c : List Value) (m : RM), (X1.q a.toNat b.toNat)[p]? = some c → (flt l2 a b)[p]? = some m → Pair w1 S1 y (Old w0) c m)
    (off : ∀ a b : Int, isLink X.n a b = true → X1.off a.toNat b.toNat = offOf cuts2 a b) (ofl : ∀ a b : Int, offOf cuts2 a b = true → isLink X.n a b = true) (tot : X1.total = l2.length) :
    Sim w0 w2 S1 T2 x y X1 L2 C2 l2 cuts2 := by
  have hold := h.old
  have hinv1 := h.inv.fr hn hf
  have hTl := h.ref.lt
  have hSy : ¬ S1 y := fun hs => by
    have hy := hTl y h.ref.ty
    exact (hf.new y hs).elim (fun hs => h.st y hs h.ref.ty) (fun h' => by omega)
  have hnet2 : NetOk w2 S1 x X1 := hn.keep hrf.1.size (fun k hk hl => hrf.1.block k hl (fun e => hSy (by rw [← e]; exact hk)))
  have hold1 : ∀ k, Old w0 k → ¬ (S1 k ∨ k = y) := fun k hk e => by
    have hk' : k < w0.heap.size := hk
    rcases e with e | e
    · have := hinv1.2.1 k e; omega
    · have := h.yl; omega
  refine ⟨⟨hnet2, hinv1.2.1, ⟨hrf.1.os.trans hinv1.2.2.os, hrf.1.tape.trans hinv1.2.2.tape, hrf.1.output.trans hinv1.2.2.output, Nat.le_trans hinv1.2.2.size hrf.1.size, fun k hk => ?_⟩⟩, by rw [hX]; exact hr, fun k hs ht => ?_, h.yl, by rw [hX]; exact lk, by rw [hX]; exact len, by rw [hX]; exact fun a b hl p c m h1 h2 => (par a b hl p c m h1 h2).fr hrf.or hold1, by rw [hX]; exact off, by rw [hX]; exact ofl, tot⟩
  · rw [hrf.1.block k (Nat.lt_of_lt_of_le hk hinv1.2.2.size) (fun e => by have := h.yl; have e' : k = y := e; omega)]
    exact hinv1.2.2.block k hk
  · have hk1 := hn.1 k hs
    rcases hrf.2 k ht with ht | ht
    · have := hTl k ht
      exact (hf.new k hs).elim (fun hs => h.st k hs ht) (fun h' => by omega)
    · omega
theorem Sim.pairUp (h : Sim w0 w S T x y X L C l cuts) (hf : Fr S S1 w w1) {c : List Value} {m : RM} (hp : Pair w S y (Old w0) c m) : Pair w1 S1 y (Old w0) c m := hp.fr (hf.or y) h.old
/-- calls that change nothing -/
theorem Sim.none (h : Sim w0 w S T x y X L C l cuts) (hn : NetOk w1 S1 x X) (hf : Fr S S1 w w1) (hr : RefIn w2 T2 y X.n L2 C2 l cuts) (hrf : RFr T T2 y w1 w2) : Sim w0 w2 S1 T2 x y X L2 C2 l cuts :=
  h.step hn hf hr hrf rfl h.lk h.len (fun a b hl p c m h1 h2 => h.pairUp hf (h.par a b hl p c m h1 h2)) h.off h.ofl h.tot
theorem link_eq {n : Nat} {a b f t : Int} (h1 : isLink n a b = true) (h2 : isLink n f t = true) : (a.toNat = f.toNat ∧ b.toNat = t.toNat) ↔ (a = f ∧ b = t) := by
  obtain ⟨i, j, rfl, rfl, _⟩ := isLink_nat h1
  obtain ⟨i', j', rfl, rfl, _⟩ := isLink_nat h2
  omega
theorem push_q {X : Nx} {n : Nat} {f t a b : Int} {c : List Value} (h1 : isLink n a b = true) (h2 : isLink n f t = true) : (X.push f t c).q a.toNat b.toNat = if a = f ∧ b = t then X.q a.toNat b.toNat ++ [c] else X.q a.toNat b.toNat := by
  unfold Nx.push Nx.set
  by_cases e : a = f ∧ b = t
  · rw [if_pos e]; simp only [e.1, e.2, and_self, if_true]
  · rw [if_neg e]
    show (if a.toNat = f.toNat ∧ b.toNat = t.toNat then _ else _) = _
    rw [if_neg (fun h => e ((link_eq h1 h2).1 h))]
theorem flt_push (l : List RM) (m : RM) (a b : Int) : flt (l ++ [m]) a b = if a = m.f ∧ b = m.t then flt l a b ++ [m] else flt l a b := by
  unfold flt
  rw [List.filter_append]
  by_cases e : a = m.f ∧ b = m.t
  · rw [if_pos e]; simp [List.filter_cons, RM.is, e.1, e.2]
  · rw [if_neg e]
    have : m.is a b = false := by
      cases h : m.is a b with
      | false => rfl
      | true => simp only [RM.is, Bool.and_eq_true, beq_iff_eq] at h; exact absurd ⟨h.1.symm, h.2.symm⟩ e
    simp [List.filter_cons, this]
theorem isLink_lt {n : Nat} {a b : Int} (h : isLink n a b = true) : a.toNat < n ∧ b.toNat < n := by
  obtain ⟨i, j, rfl, rfl, hi, hj, _⟩ := isLink_nat h
  simpa using ⟨hi, hj⟩
/-- a message more on both -/
theorem Sim.push (h : Sim w0 w S T x y X L C l cuts) {c : List Value} {m : RM} (hl : isLink X.n m.f m.t = true) (hn : NetOk w1 S1 x (X.push m.f m.t c)) (hf : Fr S S1 w w1) (hr : RefIn w2 T2 y X.n L2 C2 (l ++ [m]) cuts) (hrf : RFr T T2 y w1 w2) (hp : Pair w1 S1 y (Old w0) c m) :
    Sim w0 w2 S1 T2 x y (X.push m.f m.t c) L2 C2 (l ++ [m]) cuts := by
  refine h.step hn hf hr hrf rfl (fun q hq => ?_) (fun a b hab => ?_) (fun a b hab p c' m' h1 h2 => ?_) h.off h.ofl ?_
  · rcases List.mem_append.1 hq with hq | hq
    · exact h.lk q hq
    · rw [List.mem_singleton] at hq; rw [hq]; exact hl
  · rw [push_q hab hl, flt_push]
    by_cases e : a = m.f ∧ b = m.t
    · rw [if_pos e, if_pos e, List.length_append, List.length_append, h.len a b hab]; rfl
    · rw [if_neg e, if_neg e, h.len a b hab]
  · rw [push_q hab hl] at h1
    rw [flt_push] at h2
    by_cases e : a = m.f ∧ b = m.t
    · rw [if_pos e] at h1 h2
      have hlen := h.len a b hab
      by_cases hp' : p < (flt l a b).length
      · rw [List.getElem?_append_left (by omega)] at h1
        rw [List.getElem?_append_left hp'] at h2
        exact h.pairUp hf (h.par a b hab p c' m' h1 h2)
      · rw [List.getElem?_append_right (by omega)] at h1
        rw [List.getElem?_append_right (by omega)] at h2
        have hp0 : p - (flt l a b).length = 0 := by
          have := (List.getElem?_eq_some_iff.1 h2).1
          simpa using this
        rw [hlen, hp0] at h1
        rw [hp0] at h2
        simp only [List.getElem?_cons_zero, Option.some.injEq] at h1 h2
        subst h1 h2
        exact hp
    · rw [if_neg e] at h1 h2
      exact h.pairUp hf (h.par a b hab p c' m' h1 h2)
  · obtain ⟨hi, hj⟩ := isLink_lt hl
    have := total_set X (X.q m.f.toNat m.t.toNat ++ [c]) hi hj
    rw [List.length_append] at this ⊢
    have ht := h.tot
    show (X.set m.f.toNat m.t.toNat (X.q m.f.toNat m.t.toNat ++ [c])).total = _
    simp only [List.length_singleton] at this ⊢
    omega
theorem pop_q {X : Nx} {n : Nat} {f t a b i : Int} (h1 : isLink n a b = true) (h2 : isLink n f t = true) : (X.pop f t i).q a.toNat b.toNat = if a = f ∧ b = t then (X.q a.toNat b.toNat).eraseIdx i.toNat else X.q a.toNat b.toNat := by
  unfold Nx.pop Nx.set
  by_cases e : a = f ∧ b = t
  · rw [if_pos e]; simp only [e.1, e.2, and_self, if_true]
  · rw [if_neg e]
    show (if a.toNat = f.toNat ∧ b.toNat = t.toNat then _ else _) = _
    rw [if_neg (fun h => e ((link_eq h1 h2).1 h))]
/-- a message less on both -/
theorem Sim.pop (h : Sim w0 w S T x y X L C l cuts) {a b i : Int} {k : Nat} (hat : AtSpec l a b i (some k)) (hn : NetOk w1 S1 x (X.pop a b i)) (hf : Fr S S1 w w1) (hr : RefIn w2 T2 y X.n L2 C2 (l.eraseIdx k) cuts) (hrf : RFr T T2 y w1 w2) :
    Sim w0 w2 S1 T2 x y (X.pop a b i) L2 C2 (l.eraseIdx k) cuts := by
  obtain ⟨j, m, rfl, hm, hma, hmb, hj, he, hother, hmem⟩ := at_some hat
  have hl : isLink X.n a b = true := by rw [← hma, ← hmb]; exact h.lk m hmem
  have hlen := h.len a b hl
  have hjl := (List.getElem?_eq_some_iff.1 hj).1
  refine h.step hn hf hr hrf rfl (fun q hq => h.lk q (List.mem_of_mem_eraseIdx hq)) (fun a' b' hab => ?_) (fun a' b' hab p c' m' h1 h2 => ?_) h.off h.ofl ?_
  · rw [pop_q hab hl]
    by_cases e : a' = a ∧ b' = b
    · rw [if_pos e, e.1, e.2, he, Int.toNat_natCast, List.length_eraseIdx_of_lt (by omega), List.length_eraseIdx_of_lt hjl, hlen]
    · rw [if_neg e, hother a' b' e, h.len a' b' hab]
  · rw [pop_q hab hl] at h1
    by_cases e : a' = a ∧ b' = b
    · rw [if_pos e, Int.toNat_natCast] at h1
      rw [e.1, e.2] at h1
      rw [e.1, e.2, he] at h2
      rw [List.getElem?_eraseIdx] at h1 h2
      split at h1
      · rename_i hpj
        rw [if_pos hpj] at h2
        exact h.pairUp hf (h.par a b hl p c' m' h1 h2)
      · rename_i hpj
        rw [if_neg hpj] at h2
        exact h.pairUp hf (h.par a b hl (p + 1) c' m' h1 h2)
    · rw [if_neg e] at h1
      rw [hother a' b' e] at h2
      exact h.pairUp hf (h.par a' b' hab p c' m' h1 h2)
  · obtain ⟨hi, hj'⟩ := isLink_lt hl
    have := total_set X ((X.q a.toNat b.toNat).eraseIdx j) hi hj'
    rw [List.length_eraseIdx_of_lt (by omega)] at this
    have hkl := (List.getElem?_eq_some_iff.1 hm).1
    rw [List.length_eraseIdx_of_lt hkl]
    have ht := h.tot
    show (X.set a.toNat b.toNat ((X.q a.toNat b.toNat).eraseIdx (j : Int).toNat)).total = _
    rw [Int.toNat_natCast]
    omega
theorem Sim.has (h : Sim w0 w S T x y X L C l cuts) {a b i : Int} {r : Option Nat} (hat : AtSpec l a b i r) : X.hasAt a b i = r.isSome := by
  unfold Nx.hasAt
  cases r with
  | none =>
    have hno := at_none hat
    cases hl : isLink X.n a b with
    | false => rfl
    | true =>
      rw [h.len a b hl]
      simp only [Bool.true_and, Option.isSome_none, Bool.and_eq_false_iff, decide_eq_false_iff_not]
      omega
  | some k =>
    obtain ⟨j, m, rfl, hm, hma, hmb, hj, _, _, hmem⟩ := at_some hat
    have hl : isLink X.n a b = true := by rw [← hma, ← hmb]; exact h.lk m hmem
    have hjl := (List.getElem?_eq_some_iff.1 hj).1
    rw [hl, h.len a b hl]
    simp; omega
theorem Sim.lens (h : Sim w0 w S T x y X L C l cuts) (a b : Int) : X.len a b = cnt l a b l.length := by
  unfold Nx.len
  rw [cnt_all]
  by_cases hl : isLink X.n a b = true
  · rw [if_pos hl]; exact h.len a b hl
  · rw [if_neg hl]
    have : flt l a b = [] := List.filter_eq_nil_iff.2 (fun m hm hi => by
      simp only [RM.is, Bool.and_eq_true, beq_iff_eq] at hi
      exact hl (by rw [← hi.1, ← hi.2]; exact h.lk m hm))
    rw [this]; rfl
theorem Sim.offs (h : Sim w0 w S T x y X L C l cuts) (a b : Int) : X.cutOf a b = offOf cuts a b := by
  unfold Nx.cutOf
  cases hl : isLink X.n a b with
  | true => rw [Bool.true_and]; exact h.off a b hl
  | false =>
    rw [Bool.false_and]
    cases ho : offOf cuts a b with
    | false => rfl
    | true => rw [h.ofl a b ho] at hl; cases hl
theorem Sim.small (h : Sim w0 w S T x y X L C l cuts) (a b : Int) : (X.q a.toNat b.toNat).length ≤ l.length ∨ isLink X.n a b = false := by
  cases hl : isLink X.n a b with
  | true => left; rw [h.len a b hl]; exact List.length_filter_le _ _
  | false => right; rfl
theorem offOf_rcuts (n : Nat) (cuts : List (Int × Int)) {f t : Int} (o : Bool) (hl : isLink n f t = true) (a b : Int) : offOf (rcuts n cuts f t o) a b = if a = f ∧ b = t then o else offOf cuts a b := by
  unfold rcuts offOf keepC
  rw [if_pos hl, List.take_length, List.any_append, List.any_filter]
  by_cases e : a = f ∧ b = t
  · obtain ⟨rfl, rfl⟩ := e
    rw [if_pos (⟨rfl, rfl⟩ : a = a ∧ b = b)]
    have h0 : (cuts.any fun p => !(p.1 == a && p.2 == b) && (p.1 == a && p.2 == b)) = false := by
      refine List.any_eq_false.2 (fun p _ => ?_)
      cases (p.1 == a && p.2 == b) <;> simp
    rw [h0]
    cases o <;> simp
  · rw [if_neg e]
    have h1 : (cuts.any fun p => !(p.1 == f && p.2 == t) && (p.1 == a && p.2 == b)) = cuts.any fun p => p.1 == a && p.2 == b := by
      congr 1
      funext p
      cases hp : (p.1 == a && p.2 == b) with
      | false => simp
      | true =>
        simp only [Bool.and_eq_true, beq_iff_eq] at hp
        have : (p.1 == f && p.2 == t) = false := by
          cases hq : (p.1 == f && p.2 == t) with
          | false => rfl
          | true => simp only [Bool.and_eq_true, beq_iff_eq] at hq; exact absurd ⟨hp.1.symm.trans hq.1, hp.2.symm.trans hq.2⟩ e
        simp [this]
    rw [h1]
    cases o with
    | false => simp
    | true =>
      have : (f == a && t == b) = false := by
        cases hq : (f == a && t == b) with
        | false => rfl
        | true => simp only [Bool.and_eq_true, beq_iff_eq] at hq; exact absurd ⟨hq.1.symm, hq.2.symm⟩ e
      simp [this]
/-- a link cut, or restored, on both -/
theorem Sim.cut (h : Sim w0 w S T x y X L C l cuts) {f t : Int} {o : Bool} (hn : NetOk w1 S1 x (X.cut f t o)) (hf : Fr S S1 w w1) (hr : RefIn w2 T2 y X.n L2 C2 l (rcuts X.n cuts f t o)) (hrf : RFr T T2 y w1 w2) :
    Sim w0 w2 S1 T2 x y (X.cut f t o) L2 C2 l (rcuts X.n cuts f t o) := by
  by_cases hl : isLink X.n f t = true
  · have hcq : (X.cut f t o).q = X.q := by unfold Nx.cut; rw [if_pos hl]
    have hcn : (X.cut f t o).n = X.n := by unfold Nx.cut; rw [if_pos hl]
    refine h.step hn hf hr hrf hcn h.lk (by rw [hcq]; exact h.len) (by rw [hcq]; exact fun a b hab p c m h1 h2 => h.pairUp hf (h.par a b hab p c m h1 h2)) (fun a b hab => ?_) (fun a b ho => ?_) (by
      have ht : (X.cut f t o).total = X.total := by unfold Nx.total; rw [hcq, hcn]
      rw [ht]; exact h.tot)
    · rw [offOf_rcuts _ _ _ hl]
      unfold Nx.cut
      rw [if_pos hl]
      show (if a.toNat = f.toNat ∧ b.toNat = t.toNat then o else X.off a.toNat b.toNat) = _
      by_cases e : a = f ∧ b = t
      · rw [if_pos ((link_eq hab hl).2 e), if_pos e]
      · rw [if_neg (fun h => e ((link_eq hab hl).1 h)), if_neg e]; exact h.off a b hab
    · rw [offOf_rcuts _ _ _ hl] at ho
      by_cases e : a = f ∧ b = t
      · rw [e.1, e.2]; exact hl
      · rw [if_neg e] at ho; exact h.ofl a b ho
  · have hc : X.cut f t o = X := by unfold Nx.cut; rw [if_neg hl]
    have hr' : rcuts X.n cuts f t o = cuts := by unfold rcuts; rw [if_neg hl]
    rw [hc] at hn ⊢
    rw [hr'] at hr ⊢
    exact h.none hn hf hr hrf
theorem Sim.up (h : Sim w0 w S T x y X L C l cuts) (hb : Below w.heap.size w w1) : Sim w0 w1 S T x y X L C l cuts :=
  h.none (netOk_up h.inv.1 hb) ⟨hb.os, hb.tape, hb.output, hb.size, fun k hk _ => hb.block k hk, fun k hk => .inl hk⟩ (h.ref.up hb) (RFr.refl _ _ _)
end
end Go.Proofs.Ytdkpgjhjdnfieaa
