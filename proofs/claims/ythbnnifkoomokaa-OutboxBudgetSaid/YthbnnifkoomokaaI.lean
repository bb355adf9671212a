/- What holds of every box that comes up, and plain facts on plans. -/
import Derived.Test.YthbnnifkoomokaaH
import Derived.Laws.AppendOwnNone
set_option linter.unusedVariables false
set_option linter.unusedSimpArgs false
namespace Go.Proofs.Ythbnnifkoomokaa
open Go.RowKit Go.Mf

/-- what holds of every box that comes up -/
structure Bx.Ok (X : Bx) (N : Int) : Prop where
  n1 : 1 ≤ X.n
  n2 : X.n ≤ 20
  me0 : 0 ≤ X.me
  me1 : X.me < X.n
  b0 : 64 ≤ X.bud
  b1 : X.bud ≤ 9223372036854775807
  s0 : ∀ k l, 0 ≤ X.sentOf k l
  u0 : ∀ k st, X.peers k = some st → 0 ≤ st.2 ∧ st.2 ≤ N ∧ 0 ≤ st.1 ∧ st.1 ≤ 1099511627776 + 16

theorem lacks_any {w : World} {lo hi b : Nat} {X : Bx} {N : Int} (h : BoxAt w lo hi b X) (ok : X.Ok N) (p now : Int) (S : Nat → Prop) (v : Value) (L : List (List Int)) (hL : RowsAt w S v L) (ht1 : 0 ≤ now) (ht2 : now ≤ 1099511627776) :
    Calls Try.prog 19 #[.pointer (some ⟨b,0,none⟩), .int .i64 p, .int .i64 now, v] w (LacksPost w (X.lacks p now L)) := by
  obtain ⟨bp, bs, pb, h⟩ := h
  have c0 := cell_of_block h.hb
  have lt : ∀ j, lo ≤ j ∧ j < hi → j < w.heap.size := fun j hj => Nat.lt_of_lt_of_le hj.2 h.top
  exact lacks_raw w b bs X p now S v L hL ok.n1 ok.n2 ht1 ht2 (by have := ok.b0; omega) ok.b1 (c0 1) (c0 2) (c0 4) (fun k l w' hw' => sent_look h k l w' hw') ok.s0 (lt b h.rb) (lt bs h.rs)

def pw (s : Int) : Int := if s ≤ 0 then 1 else if s = 1 then 2 else if s = 2 then 4 else if s = 3 then 8 else 16
def Bx.bump (X : Bx) (p now : Int) : Bx := { X with peers := fun j => if j = p then (X.peers p).map (fun st => (now + pw st.2, st.2 + 1)) else X.peers j }
def planStep (now : Int) (L : List (List Int)) (p : Int) (st : List Snd × Bx) : List Snd × Bx :=
  if st.2.due p now then (st.1 ++ st.2.lacks p now L, if st.2.lacks p now L = [] then st.2 else st.2.bump p now) else st
def planTo (X : Bx) (now : Int) (L : List (List Int)) : Nat → List Snd × Bx
  | 0 => ([], X)
  | k + 1 => planStep now L k (planTo X now L k)
def Bx.plan (X : Bx) (now : Int) (L : List (List Int)) : List Snd × Bx := planTo X (clamp now 0 1099511627776) L X.n.toNat

theorem lacks_len (X : Bx) (p now : Int) (L : List (List Int)) : (X.lacks p now L).length ≤ 8 := lackTo_len _
theorem planTo_len (X : Bx) (now : Int) (L : List (List Int)) : ∀ k, (planTo X now L k).1.length ≤ 8 * k
  | 0 => by simp [planTo]
  | k + 1 => by
    have := planTo_len X now L k
    unfold planTo planStep
    split
    · have h2 := lacks_len (planTo X now L k).2 k now L
      simp only [List.length_append]; omega
    · omega

theorem due_isSome {X : Bx} {p now : Int} (h : X.due p now = true) : ∃ st, X.peers p = some st := by
  unfold Bx.due at h
  cases hp : X.peers p with
  | none => rw [hp] at h; simp at h
  | some st => exact ⟨st, rfl⟩

theorem bump_ok {X : Bx} {N : Int} (ok : X.Ok N) {p now : Int} (h0 : 0 ≤ now) (h1 : now ≤ 1099511627776) : (X.bump p now).Ok (N + 1) where
  n1 := ok.n1
  n2 := ok.n2
  me0 := ok.me0
  me1 := ok.me1
  b0 := ok.b0
  b1 := ok.b1
  s0 := ok.s0
  u0 := by
    intro k st hk
    unfold Bx.bump at hk
    simp only [] at hk
    split at hk
    · cases hp : X.peers p with
      | none => rw [hp] at hk; simp at hk
      | some st0 =>
        rw [hp] at hk
        simp at hk
        have := ok.u0 p st0 hp
        subst hk
        have hpw : 0 ≤ pw st0.2 ∧ pw st0.2 ≤ 16 := by unfold pw; repeat (split; omega); omega
        refine ⟨?_, ?_, ?_, ?_⟩ <;> dsimp only <;> omega
    · have := ok.u0 k st hk; omega
theorem Bx.Ok.mono {X : Bx} {N M : Int} (ok : X.Ok N) (h : N ≤ M) : X.Ok M := { ok with u0 := fun k st hk => by have := ok.u0 k st hk; omega }

theorem planStep_ok {now : Int} {L : List (List Int)} {p : Int} {st : List Snd × Bx} {N : Int} (ok : st.2.Ok N) (h0 : 0 ≤ now) (h1 : now ≤ 1099511627776) : (planStep now L p st).2.Ok (N + 1) := by
  unfold planStep
  split
  · dsimp only
    split
    · exact ok.mono (by omega)
    · exact bump_ok ok h0 h1
  · exact ok.mono (by omega)
end Go.Proofs.Ythbnnifkoomokaa
