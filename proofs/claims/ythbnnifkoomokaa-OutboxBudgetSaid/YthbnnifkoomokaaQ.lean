/- Plain facts on sequences of acknowledgements. -/
import Derived.Test.YthbnnifkoomokaaP
import Derived.Deep.DeepCutAuto
set_option linter.unusedVariables false
set_option linter.unusedSimpArgs false
namespace Go.Proofs.Ythbnnifkoomokaa
open Go.RowKit Go.Mf

structure Act where
  do_ : Int
  peer : Int
  log : Int
  n : Int
  now : Int

/-- v is a slice of acts that reads as l -/
def ActsAt (w : World) (v : Value) (l : List Act) : Prop :=
  ∃ a c, v = .slice a l.length c ∧ l.length ≤ 9223372036854775807 ∧ (l ≠ [] → ∃ b off, a = some ⟨b, off, none⟩ ∧ ∀ j, j < l.length → ∃ s, l[j]? = some s ∧
    w.cell? ⟨b, off + j * 5, none⟩ = some (.int .i64 s.do_) ∧ w.cell? ⟨b, off + j * 5 + 1, none⟩ = some (.int .i64 s.peer) ∧ w.cell? ⟨b, off + j * 5 + 2, none⟩ = some (.int .i64 s.log) ∧
    w.cell? ⟨b, off + j * 5 + 3, none⟩ = some (.int .i64 s.n) ∧ w.cell? ⟨b, off + j * 5 + 4, none⟩ = some (.int .i64 s.now) ∧
    (-9223372036854775808 ≤ s.n ∧ s.n ≤ 9223372036854775807))

def okP (me n p l : Int) : Bool := decide (0 ≤ p) && decide (p < n) && (p != me) && decide (0 ≤ l) && decide (l < n) && (l != p)

def bstep (p l : Int) (best : Int) (a : Act) : Int := if a.peer = p ∧ a.log = l then max best a.n else best
def bestOf (l : List Act) (k : Nat) (p lg : Int) : Int := (l.take k).foldl (bstep p lg) 0

def acksTo (X : Bx) (l : List Act) : Nat → Bx
  | 0 => X
  | k + 1 => match l[k]? with
    | none => acksTo X l k
    | some a => (acksTo X l k).ack a.peer a.log a.n a.now

structure MInv (me n : Int) (l : List Act) (k : Nat) (X : Bx) : Prop where
  hme : X.me = me
  hn : X.n = n
  live : ∀ p, (X.peers p).isSome = true ↔ 0 ≤ p ∧ p < n ∧ p ≠ me
  sent : ∀ p lg, X.sentOf p lg = if okP me n p lg = true then bestOf l k p lg else 0

theorem ack_n (X : Bx) (a b c d : Int) : (X.ack a b c d).n = X.n ∧ (X.ack a b c d).me = X.me := by unfold Bx.ack; split <;> exact ⟨rfl, rfl⟩
theorem ack_live (X : Bx) (a b c d : Int) (p : Int) : ((X.ack a b c d).peers p).isSome = (X.peers p).isSome := by
  unfold Bx.ack; split
  · rename_i h
    simp only [Bx.ackOk, Bool.and_eq_true] at h
    unfold Bx.ackYes; dsimp only; split
    · rename_i e; subst e; rw [h.1.1.1.1]; rfl
    · rfl
  · rfl
theorem ack_sent (X : Bx) (a b c d : Int) (p l : Int) : (X.ack a b c d).sentOf p l = if X.ackOk a b c = true ∧ p = a ∧ l = b then c else X.sentOf p l := by
  unfold Bx.ack
  by_cases h : X.ackOk a b c = true
  · rw [if_pos h]
    unfold Bx.ackYes Bx.sentOf
    dsimp only
    by_cases e : (p, l) = (a, b)
    · rw [if_pos e]; simp only [Prod.mk.injEq] at e; rw [if_pos ⟨h, e⟩]; rfl
    · rw [if_neg e]; simp only [Prod.mk.injEq] at e; rw [if_neg (fun h2 => e h2.2)]
  · rw [if_neg h, if_neg (fun h2 => h h2.1)]

theorem MInv.ackOk {me n : Int} {l : List Act} {k : Nat} {X : Bx} (h : MInv me n l k X) (p lg m : Int) : X.ackOk p lg m = (okP me n p lg && decide (bestOf l k p lg < m)) := by
  rw [Bool.eq_iff_iff]
  unfold Bx.ackOk
  simp only [Bool.and_eq_true, decide_eq_true_eq, h.live, h.hn, h.sent]
  by_cases ho : okP me n p lg = true
  · rw [if_pos ho]
    have ho' := ho
    simp only [okP, Bool.and_eq_true, decide_eq_true_eq, bne_iff_ne, ne_eq] at ho'
    simp only [ho, true_and]
    constructor
    · rintro ⟨_, h5⟩; exact h5
    · intro h5; exact ⟨⟨⟨⟨⟨ho'.1.1.1.1.1, ho'.1.1.1.1.2, ho'.1.1.1.2⟩, ho'.1.1.2⟩, ho'.1.2⟩, ho'.2⟩, h5⟩
  · rw [if_neg ho]
    constructor
    · rintro ⟨⟨⟨⟨⟨h1, h2, h3⟩, h4⟩, h5⟩, h6⟩, _⟩
      exact absurd (by simp [okP, h1, h2, h3, h4, h5, h6]) ho
    · rintro ⟨h1, _⟩; exact absurd h1 ho

theorem bestOf_succ {l : List Act} {k : Nat} {a : Act} (h : l[k]? = some a) (p lg : Int) : bestOf l (k + 1) p lg = bstep p lg (bestOf l k p lg) a := by
  unfold bestOf
  have hk : k < l.length := (List.getElem?_eq_some_iff.1 h).1
  have he : l[k] = a := (List.getElem?_eq_some_iff.1 h).2
  rw [List.take_succ_eq_append_getElem hk, List.foldl_append]
  simp [he]

theorem minv_new {me n : Int} (l : List Act) (h : newOk me n) (bud : Int) : MInv me n l 0 (Bx.new me n bud) where
  hme := rfl
  hn := rfl
  live := fun p => by
    simp only [Bx.new, newX]
    by_cases h : 0 ≤ p ∧ p < n ∧ p ≠ me
    · rw [if_pos h]; simp [h]
    · rw [if_neg h]; simp [h]
  sent := fun p lg => by simp [Bx.new, newX, Bx.sentOf, bestOf]

theorem minv_to {me n : Int} {l : List Act} {X : Bx} (h : MInv me n l 0 X) : ∀ k, k ≤ l.length → MInv me n l k (acksTo X l k)
  | 0, _ => h
  | k + 1, hk => by
    have ih := minv_to h k (by omega)
    have hlt : k < l.length := by omega
    obtain ⟨a, ha⟩ : ∃ a, l[k]? = some a := ⟨l[k], List.getElem?_eq_getElem hlt⟩
    have e : acksTo X l (k + 1) = (acksTo X l k).ack a.peer a.log a.n a.now := by simp [acksTo, ha]
    rw [e]
    exact {
      hme := (ack_n _ _ _ _ _).2.trans ih.hme
      hn := (ack_n _ _ _ _ _).1.trans ih.hn
      live := fun p => by rw [ack_live]; exact ih.live p
      sent := fun p lg => by
        rw [ack_sent, ih.ackOk, bestOf_succ ha, ih.sent]
        unfold bstep
        by_cases hm : a.peer = p ∧ a.log = lg
        · obtain ⟨rfl, rfl⟩ := hm
          by_cases ho : okP me n a.peer a.log = true
          · by_cases hb : bestOf l k a.peer a.log < a.n
            · simp [ho, hb]; omega
            · simp [ho, hb]; omega
          · simp [ho]
        · rw [if_neg (fun h2 => hm ⟨h2.2.1.symm, h2.2.2.symm⟩), if_neg hm] }

theorem foldl_bstep_bound {p lg : Int} : ∀ (l : List Act) (b : Int), 0 ≤ b → b ≤ 9223372036854775807 → (∀ a ∈ l, a.n ≤ 9223372036854775807) → 0 ≤ l.foldl (bstep p lg) b ∧ l.foldl (bstep p lg) b ≤ 9223372036854775807
  | [], b, h0, h1, _ => ⟨h0, h1⟩
  | a :: l, b, h0, h1, h => by
    have ha := h a (by simp)
    have : 0 ≤ bstep p lg b a ∧ bstep p lg b a ≤ 9223372036854775807 := by unfold bstep; split <;> omega
    exact foldl_bstep_bound l _ this.1 this.2 (fun x hx => h x (by simp [hx]))
end Go.Proofs.Ythbnnifkoomokaa
