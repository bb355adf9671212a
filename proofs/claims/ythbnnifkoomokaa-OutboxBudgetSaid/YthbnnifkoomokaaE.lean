/- The contract of Ack on every input, on a box that lies in memory as BoxAt says. -/
import Derived.Test.YthbnnifkoomokaaD
set_option linter.unusedVariables false
set_option linter.unusedSimpArgs false
namespace Go.Proofs.Ythbnnifkoomokaa
open Go.RowKit Go.Mf

def Bx.ackOk (X : Bx) (k l size : Int) : Bool := (X.peers k).isSome && decide (0 ≤ l) && decide (l < X.n) && decide (l ≠ k) && decide (X.sentOf k l < size)
def Bx.ackYes (X : Bx) (k l size now : Int) : Bx := { X with peers := fun j => if j = k then some (clamp now 0 1099511627776, 0) else X.peers j, sentm := fun q => if q = (k, l) then some size else X.sentm q }
def Bx.ack (X : Bx) (k l size now : Int) : Bx := if X.ackOk k l size then X.ackYes k l size now else X

theorem BoxAt.upd_new {w w' : World} {lo hi b : Nat} {X : Bx} (h : BoxAt w lo hi b X) (hh : ∃ o n, w' = (w.alloc o).drewN n) : BoxAt w' lo hi b X ∧ Upd lo hi w w' := by
  obtain ⟨o, n, rfl⟩ := hh
  have ht := h.top
  exact ⟨h.of_heap (fun k _ h2 => Below.heap_alloc w o k (by omega)) (by simp [World.drewN]), ((Upd.refl lo hi w).alloc o).drewN n⟩

theorem ackYes_box {w w' : World} {lo hi b bp bs : Nat} {pb : Int → Nat} {X : Bx} (h : BoxIn w lo hi b bp bs pb X) {k l size now : Int} {st : Int × Int} (hk : X.peers k = some st)
    (hp : AckPost w bs (pb k) (sk X) k l size now w') : BoxIn w' lo hi b bp bs pb (X.ackYes k l size now) := by
  obtain ⟨es, clock, ll, hbp, _⟩ := h.hp
  obtain ⟨es2, clock2, ll2, hbs, _⟩ := h.hs
  have hck := h.hc k st hk
  have lt : ∀ j, lo ≤ j ∧ j < hi → j < w.heap.size := fun j hj => Nat.lt_of_lt_of_le hj.2 h.top
  have hpk : ∀ j, pk pb (X.ackYes k l size now) j = pk pb X j := by
    intro j; unfold pk Bx.ackYes
    by_cases e : j = k
    · simp [e, hk]
    · simp [e]
  have hsome : ∀ j, ((X.ackYes k l size now).peers j).isSome = (X.peers j).isSome := by
    intro j; unfold Bx.ackYes
    by_cases e : j = k
    · simp [e, hk]
    · simp [e]
  exact {
    hb := (hp.block b (lt b h.rb) (heap_ne (w := w) (by rw [h.hb, hbs]; simp)) (heap_ne (w := w) (by rw [h.hb, hck]; simp))).trans h.hb
    hp := by
      have : pk pb (X.ackYes k l size now) = pk pb X := funext hpk
      rw [this]
      exact h.hp.of_heap (hp.block bp (lt bp h.rp) (Ne.symm h.hps) (heap_ne (w := w) (by rw [hbp, hck]; simp)))
    hs := by
      have : sk (X.ackYes k l size now) = (fun j => if j = (k, l) then some (.int .i64 size) else sk X j) := by
        funext q; unfold sk Bx.ackYes; by_cases e : q = (k, l) <;> simp [e]
      rw [this]; exact hp.map
    hc := fun j s hj => by
      by_cases e : j = k
      · subst e
        have : s = (clamp now 0 1099511627776, 0) := by simpa [Bx.ackYes] using hj.symm
        subst this; exact hp.peer
      · have hj' : X.peers j = some s := by simpa [Bx.ackYes, e] using hj
        have hcj := h.hc j s hj'
        refine (hp.block (pb j) (lt _ (h.rc j (by rw [hj']; rfl))) (heap_ne (w := w) (by rw [hcj, hbs]; simp)) ?_).trans hcj
        exact fun e2 => e (h.inj j k (by rw [hj']; rfl) (by rw [hk]; rfl) e2)
    inj := fun i j hi' hj' => h.inj i j (by rw [← hsome]; exact hi') (by rw [← hsome]; exact hj')
    hps := h.hps
    rb := h.rb
    rp := h.rp
    rs := h.rs
    rc := fun j hj => h.rc j (by rw [← hsome]; exact hj)
    top := Nat.le_trans h.top hp.size }

theorem ack_any {w : World} {lo hi b : Nat} {X : Bx} (h : BoxAt w lo hi b X) (k l size now : Int) :
   Calls Try.prog 13 #[.pointer (some ⟨b,0,none⟩), .int .i64 k, .int .i64 l, .int .i64 size, .int .i64 now] w fun e w' =>
     e = .returned (.bool (X.ackOk k l size)) ∧ BoxAt w' lo hi b (X.ack k l size now) ∧ Upd lo hi w w' := by
  have H := h
  obtain ⟨bp, bs, pb, h⟩ := h
  have lt : ∀ j, lo ≤ j ∧ j < hi → j < w.heap.size := fun j hj => Nat.lt_of_lt_of_le hj.2 h.top
  have c0 := cell_of_block h.hb
  have hbw := lt b h.rb
  cases hk : X.peers k with
  | none =>
    have e0 : X.ackOk k l size = false := by simp [Bx.ackOk, hk]
    refine (ack_no1 w b bp k l size now (c0 3) hbw (peer_look_none h k hk w rfl)).mono ?_
    rintro e w' ⟨rfl, hw⟩
    rw [e0]
    have := H.upd_new hw
    refine ⟨rfl, ?_, this.2⟩
    unfold Bx.ack; rw [e0]; exact this.1
  | some st =>
    have hbs : bs < w.heap.size := lt bs h.rs
    have hls : ∀ m, (Instr.lookup 48 (.map (some bs)) (.agg #[.int .i64 k, .int .i64 l]) false).run Try.prog ((w.alloc (.cells #[.int .i64 k, .int .i64 l] 55)).drewN m) = .ok (.int .i64 (X.sentOf k l)) ((w.alloc (.cells #[.int .i64 k, .int .i64 l] 55)).drewN m) :=
      fun m => sent_look h k l _ (Below.heap_alloc _ _ _ hbs)
    by_cases hyes : 0 ≤ l ∧ l < X.n ∧ l ≠ k ∧ X.sentOf k l < size
    · have e0 : X.ackOk k l size = true := by simp [Bx.ackOk, hk, hyes]
      obtain ⟨es2, clock2, ll2, hbs', _⟩ := h.hs
      have hck := h.hc k st hk
      refine (ack_yes w b bp bs (pb k) k l size now X.n (X.sentOf k l) st.1 st.2 (c0 3) hbw (c0 1) (c0 4) (peer_look_some h k hk w rfl) hls (sk X) h.hs hck (heap_ne (w := w) (by rw [hck, hbs']; simp))
        hyes.1 hyes.2.1 (by simpa using hyes.2.2.1) hyes.2.2.2).mono ?_
      rintro e w' ⟨rfl, hp⟩
      rw [e0]
      refine ⟨rfl, ?_, ⟨hp.os, hp.tape, hp.output, hp.size, fun j hj hn => hp.block j hj ?_ ?_⟩⟩
      · unfold Bx.ack; rw [e0]; exact ⟨bp, bs, pb, ackYes_box h hk hp⟩
      · intro e; subst e; exact hn h.rs
      · intro e; subst e; exact hn (h.rc k (by rw [hk]; rfl))
    · have e0 : X.ackOk k l size = false := by
        cases hq : X.ackOk k l size with
        | false => rfl
        | true => simp [Bx.ackOk, hk] at hq; exact absurd ⟨hq.1.1.1, hq.1.1.2, hq.1.2, hq.2⟩ hyes
      refine (ack_no w b bp bs (pb k) k l size now X.n (X.sentOf k l) (c0 3) hbw (c0 1) (c0 4) (peer_look_some h k hk w rfl) hls (by omega)).mono ?_
      rintro e w' ⟨rfl, hw⟩
      rw [e0]
      have := H.upd_new hw
      refine ⟨rfl, ?_, this.2⟩
      unfold Bx.ack; rw [e0]; exact this.1
end Go.Proofs.Ythbnnifkoomokaa
