/- The representation of an outbox.Box in memory, and the contracts of Sent, Due and Give. Condition: the box lies in memory as BoxIn says. -/
import Derived.Test.YthbnnifkoomokaaA
import Derived.Test.YthbnnifkoomokaaMf
import Derived.StillTailTactics
import Derived.Lib.Hide
set_option linter.unusedVariables false
set_option linter.unusedSimpArgs false
namespace Go.Proofs.Ythbnnifkoomokaa
open Go.RowKit Go.Mf

def encPl (q : Int × Int) : Value := .agg #[.int .i64 q.1, .int .i64 q.2]

theorem keyInt : KeyEnc Try.prog 3 (encInt .i64) := keyEnc_int Try.underlying3
theorem keyPl : KeyEnc Try.prog 55 encPl where
  und := ⟨_, Try.underlying55⟩
  now := by intro d k k' b hd hs; rw [Try.underlying55] at hd; cases hd; simp [encPl, Instr.sameNow] at hs
  eq := by
    intro k k' w
    obtain ⟨a, b⟩ := k
    obtain ⟨c, d⟩ := k'
    have := run_equalIn_struct (P := Try.prog) w 9999 55 #[.int .i64 a, .int .i64 b] #[.int .i64 c, .int .i64 d] Try.underlying55 (by kernel_rfl)
    simp only [Op.equal, Op.maxDepth, encPl]
    rw [this]
    go_simp
    by_cases h1 : a = c <;> by_cases h2 : b = d <;> simp [h1, h2]
  check := by intro e k w; kernel_rfl
  bits := by
    intro k
    show Instr.sameBits (9999 + 1) _ _ = true
    simp [encPl, Instr.sameBits]

structure Bx where
  me : Int
  n : Int
  bud : Int
  peers : Int → Option (Int × Int)
  sentm : Int × Int → Option Int

def pk (pb : Int → Nat) (X : Bx) (k : Int) : Option Value := (X.peers k).map fun _ => .pointer (some ⟨pb k, 0, none⟩)
def sk (X : Bx) (q : Int × Int) : Option Value := (X.sentm q).map fun v => .int .i64 v

/-- THE BOX AT BLOCK b OF w IS X; all that it reaches lies in [lo, hi). -/
structure BoxIn (w : World) (lo hi b bp bs : Nat) (pb : Int → Nat) (X : Bx) : Prop where
  hb : w.heap[b]? = some (.cells #[.int .i64 X.me, .int .i64 X.n, .int .i64 X.bud, .map (some bp), .map (some bs)] 50 (0, 0))
  hp : MapFn w bp (encInt .i64) (pk pb X)
  hs : MapFn w bs encPl (sk X)
  hc : ∀ k st, X.peers k = some st → w.heap[pb k]? = some (.cells #[.int .i64 st.1, .int .i64 st.2] 53 (0, 0))
  inj : ∀ j k, (X.peers j).isSome → (X.peers k).isSome → pb j = pb k → j = k
  hps : bs ≠ bp
  rb : lo ≤ b ∧ b < hi
  rp : lo ≤ bp ∧ bp < hi
  rs : lo ≤ bs ∧ bs < hi
  rc : ∀ k, (X.peers k).isSome → lo ≤ pb k ∧ pb k < hi
  top : hi ≤ w.heap.size

/-- .. whatever its inner blocks are. -/
def BoxAt (w : World) (lo hi b : Nat) (X : Bx) : Prop := ∃ bp bs pb, BoxIn w lo hi b bp bs pb X

theorem BoxIn.of_heap {w w' : World} {lo hi b bp bs : Nat} {pb : Int → Nat} {X : Bx} (h : BoxIn w lo hi b bp bs pb X) (hh : ∀ k, lo ≤ k → k < hi → w'.heap[k]? = w.heap[k]?) (ht : w.heap.size ≤ w'.heap.size) : BoxIn w' lo hi b bp bs pb X where
  hb := (hh b h.rb.1 h.rb.2).trans h.hb
  hp := h.hp.of_heap (hh bp h.rp.1 h.rp.2)
  hs := h.hs.of_heap (hh bs h.rs.1 h.rs.2)
  hc := fun k st hk => by
    have := h.rc k (by rw [hk]; rfl)
    exact (hh _ this.1 this.2).trans (h.hc k st hk)
  inj := h.inj
  hps := h.hps
  rb := h.rb
  rp := h.rp
  rs := h.rs
  rc := h.rc
  top := Nat.le_trans h.top ht

theorem BoxAt.of_heap {w w' : World} {lo hi b : Nat} {X : Bx} (h : BoxAt w lo hi b X) (hh : ∀ k, lo ≤ k → k < hi → w'.heap[k]? = w.heap[k]?) (ht : w.heap.size ≤ w'.heap.size) : BoxAt w' lo hi b X := by
  obtain ⟨bp, bs, pb, h⟩ := h
  exact ⟨bp, bs, pb, h.of_heap hh ht⟩
theorem BoxAt.top {w : World} {lo hi b : Nat} {X : Bx} (h : BoxAt w lo hi b X) : hi ≤ w.heap.size := by
  obtain ⟨bp, bs, pb, h⟩ := h; exact h.top
theorem BoxAt.lohi {w : World} {lo hi b : Nat} {X : Bx} (h : BoxAt w lo hi b X) : lo ≤ b ∧ b < hi := by
  obtain ⟨bp, bs, pb, h⟩ := h; exact h.rb
theorem BoxAt.drewN {w : World} {lo hi b : Nat} {X : Bx} (h : BoxAt w lo hi b X) (n : Nat) : BoxAt (w.drewN n) lo hi b X := h.of_heap (fun _ _ _ => rfl) (Nat.le_refl _)
theorem BoxAt.below {w w' : World} {lo hi b : Nat} {X : Bx} (h : BoxAt w lo hi b X) {B : Nat} (hB : Below B w w') (hb : hi ≤ B) : BoxAt w' lo hi b X :=
  h.of_heap (fun k _ h2 => hB.block k (by omega)) hB.size

theorem zeroInt (w : World) : (zeroValue 3).run Try.prog w = .ok (.int .i64 0) w := by kernel_rfl
theorem zeroPeer (w : World) : (zeroValue 51).run Try.prog w = .ok (.pointer none) w := by kernel_rfl

def Bx.sentOf (X : Bx) (k l : Int) : Int := (X.sentm (k, l)).getD 0
def maxTime : Int := 1099511627776
def Bx.due (X : Bx) (k now : Int) : Bool := match X.peers k with
  | none => false
  | some st => decide (st.1 ≤ clamp now 0 1099511627776)

theorem sk_getD (X : Bx) (k l : Int) : (sk X (k, l)).getD (.int .i64 0) = .int .i64 (X.sentOf k l) := by
  unfold sk Bx.sentOf; cases X.sentm (k, l) <;> rfl

/-- a look-up of what was sent, in whatever world has the same map block -/
theorem sent_look {w : World} {lo hi b bp bs : Nat} {pb : Int → Nat} {X : Bx} (h : BoxIn w lo hi b bp bs pb X) (k l : Int) (w' : World) (hh : w'.heap[bs]? = w.heap[bs]?) :
    (Instr.lookup 48 (.map (some bs)) (.agg #[.int .i64 k, .int .i64 l]) false).run Try.prog w' = .ok (.int .i64 (X.sentOf k l)) w' := by
  rw [← sk_getD]
  exact (h.hs.of_heap hh).lookup keyPl Try.underlying48 (zeroInt w') (k, l)

theorem peer_look_none {w : World} {lo hi b bp bs : Nat} {pb : Int → Nat} {X : Bx} (h : BoxIn w lo hi b bp bs pb X) (k : Int) (hk : X.peers k = none) (w' : World) (hh : w'.heap[bp]? = w.heap[bp]?) :
    (Instr.lookup 47 (.map (some bp)) (.int .i64 k) true).run Try.prog w' = .ok (.tuple #[.pointer none, .bool false]) w' := by
  have := (h.hp.of_heap hh).lookup_ok keyInt Try.underlying47 (zeroPeer w') k
  simpa [pk, hk, encInt] using this
theorem peer_look_some {w : World} {lo hi b bp bs : Nat} {pb : Int → Nat} {X : Bx} (h : BoxIn w lo hi b bp bs pb X) (k : Int) {st : Int × Int} (hk : X.peers k = some st) (w' : World) (hh : w'.heap[bp]? = w.heap[bp]?) :
    (Instr.lookup 47 (.map (some bp)) (.int .i64 k) true).run Try.prog w' = .ok (.tuple #[.pointer (some ⟨pb k, 0, none⟩), .bool true]) w' := by
  have := (h.hp.of_heap hh).lookup_ok keyInt Try.underlying47 (zeroPeer w') k
  simpa [pk, hk, encInt] using this
theorem peer_get_some {w : World} {lo hi b bp bs : Nat} {pb : Int → Nat} {X : Bx} (h : BoxIn w lo hi b bp bs pb X) (k : Int) {st : Int × Int} (hk : X.peers k = some st) (w' : World) (hh : w'.heap[bp]? = w.heap[bp]?) :
    (Instr.lookup 47 (.map (some bp)) (.int .i64 k) false).run Try.prog w' = .ok (.pointer (some ⟨pb k, 0, none⟩)) w' := by
  have := (h.hp.of_heap hh).lookup keyInt Try.underlying47 (zeroPeer w') k
  simpa [pk, hk, encInt] using this

set_option maxHeartbeats 400000 in
theorem sent_raw (w : World) (b bm : Nat) (f : Int) (p l : Int) (hc : w.cell? ⟨b,4,none⟩ = some (.map (some bm)))
   (hl : (Instr.lookup 48 (.map (some bm)) (.agg #[.int .i64 p, .int .i64 l]) false).run Try.prog w = .ok (.int .i64 f) w) :
   Calls Try.prog 10 #[.pointer (some ⟨b,0,none⟩), .int .i64 p, .int .i64 l] w fun e w' => e = .returned (.int .i64 f) ∧ w = w' := by
  go_enter Try.func10, Try.ntmps10
  go_wp2
  go_ret
  exact ⟨rfl, rfl⟩

theorem sent_any {w : World} {lo hi b : Nat} {X : Bx} (h : BoxAt w lo hi b X) (p l : Int) :
   Calls Try.prog 10 #[.pointer (some ⟨b,0,none⟩), .int .i64 p, .int .i64 l] w fun e w' => e = .returned (.int .i64 (X.sentOf p l)) ∧ w = w' := by
  obtain ⟨bp, bs, pb, h⟩ := h
  exact sent_raw w b bs _ p l (by rw [cell_of_block h.hb]; rfl) (sent_look h p l w rfl)

set_option maxHeartbeats 400000 in
theorem due_none (w : World) (b bp : Nat) (k now : Int) (hc : w.cell? ⟨b,3,none⟩ = some (.map (some bp)))
   (hl : (Instr.lookup 47 (.map (some bp)) (.int .i64 k) true).run Try.prog w = .ok (.tuple #[.pointer none, .bool false]) w) :
   Calls Try.prog 14 #[.pointer (some ⟨b,0,none⟩), .int .i64 k, .int .i64 now] w fun e w' => e = .returned (.bool false) ∧ ∃ n, w' = w.drewN n := by
  go_enter Try.func14, Try.ntmps14
  go_wp2
  go_quiet (fail)
  go_wp2
  go_ret
  exact ⟨rfl, _, rfl⟩

set_option maxHeartbeats 400000 in
theorem due_some (w : World) (b bp pb : Nat) (k now due : Int) (hc : w.cell? ⟨b,3,none⟩ = some (.map (some bp)))
   (hl : (Instr.lookup 47 (.map (some bp)) (.int .i64 k) true).run Try.prog w = .ok (.tuple #[.pointer (some ⟨pb,0,none⟩), .bool true]) w)
   (hd : w.cell? ⟨pb,0,none⟩ = some (.int .i64 due)) :
   Calls Try.prog 14 #[.pointer (some ⟨b,0,none⟩), .int .i64 k, .int .i64 now] w fun e w' => e = .returned (.bool (decide (due ≤ clamp now 0 1099511627776))) ∧ ∃ n, w' = w.drewN n := by
  go_enter Try.func14, Try.ntmps14
  go_wp2
  go_quiet ((go_at_call 18; exact Calls.quiet_of_same ((time_any _ _).mono (by rintro e w' ⟨rfl, rfl⟩; exact ⟨rfl, rfl⟩))))
  go_wp2
  go_ret
  exact ⟨rfl, _, rfl⟩

theorem due_any {w : World} {lo hi b : Nat} {X : Bx} (h : BoxAt w lo hi b X) (k now : Int) :
   Calls Try.prog 14 #[.pointer (some ⟨b,0,none⟩), .int .i64 k, .int .i64 now] w fun e w' => e = .returned (.bool (X.due k now)) ∧ ∃ n, w' = w.drewN n := by
  obtain ⟨bp, bs, pb, h⟩ := h
  have hc : w.cell? ⟨b,3,none⟩ = some (.map (some bp)) := by rw [cell_of_block h.hb]; rfl
  cases hk : X.peers k with
  | none =>
    have := due_none w b bp k now hc (peer_look_none h k hk w rfl)
    simpa [Bx.due, hk] using this
  | some st =>
    have := due_some w b bp (pb k) k now st.1 hc (peer_look_some h k hk w rfl) (by rw [cell_of_block (h.hc k st hk)]; rfl)
    simpa [Bx.due, hk] using this

def Bx.give (X : Bx) (k : Int) : Bx := { X with peers := fun j => if j = k then none else X.peers j }

set_option maxHeartbeats 400000 in
theorem give_raw (w : World) (b bp : Nat) (k : Int) (f : Int → Option Value) (hc : w.cell? ⟨b,3,none⟩ = some (.map (some bp))) (hm : MapFn w bp (encInt .i64) f) :
   Calls Try.prog 15 #[.pointer (some ⟨b,0,none⟩), .int .i64 k] w fun e w' => e = .returned (.tuple #[]) ∧ MapFn w' bp (encInt .i64) (fun j => if j = k then none else f j) ∧ w.grownBy w' (some bp) := by
  have HM := Lib.hid hm
  clear hm
  go_enter Try.func15, Try.ntmps15
  go_wp2_with (at_delete; refine wpList_delete_fn rfl _ _ rfl keyInt Try.underlying47 rfl HM.out k rfl ?_; intro w' h1 h2 h3 h4)
  go_end0
  exact ⟨rfl, h1, h2⟩

theorem pk_give (pb : Int → Nat) (X : Bx) (k : Int) : (fun j => if j = k then none else pk pb X j) = pk pb (X.give k) := by
  funext j
  unfold pk Bx.give
  by_cases h : j = k <;> simp [h]

theorem heap_ne {w : World} {a b : Nat} (h : w.heap[a]? ≠ w.heap[b]?) : a ≠ b := fun e => h (by rw [e])

theorem give_any {w : World} {lo hi b : Nat} {X : Bx} (h : BoxAt w lo hi b X) (k : Int) :
   Calls Try.prog 15 #[.pointer (some ⟨b,0,none⟩), .int .i64 k] w fun e w' => e = .returned (.tuple #[]) ∧ BoxAt w' lo hi b (X.give k) ∧ Upd lo hi w w' := by
  obtain ⟨bp, bs, pb, h⟩ := h
  refine (give_raw w b bp k _ (by rw [cell_of_block h.hb]; rfl) h.hp).mono ?_
  rintro e w' ⟨rfl, h1, hg⟩
  obtain ⟨es, clock, l, hbp, _⟩ := h.hp
  have hup : Upd lo hi w w' := (Upd.refl lo hi w).grown hg (fun j hj => by cases hj; exact .inl h.rp)
  have n1 : b ≠ bp := heap_ne (w := w) (by rw [h.hb, hbp]; simp)
  refine ⟨rfl, ⟨bp, bs, pb, ?_⟩, hup⟩
  have old : ∀ j, j < w.heap.size → j ≠ bp → w'.heap[j]? = w.heap[j]? := fun j hj hn => hg.block j hj (by simpa using hn)
  have hbs := h.hps
  exact {
    hb := (old b (Nat.lt_of_lt_of_le h.rb.2 h.top) n1).trans h.hb
    hp := by rw [← pk_give]; exact h1
    hs := h.hs.of_heap (old bs (Nat.lt_of_lt_of_le h.rs.2 h.top) hbs)
    hc := fun j st hj => by
      have hj' : X.peers j = some st := by
        unfold Bx.give at hj; by_cases e : j = k <;> simp [e] at hj; exact hj
      have r := h.rc j (by rw [hj']; rfl)
      refine (old _ (Nat.lt_of_lt_of_le r.2 h.top) (heap_ne (w := w) (by rw [h.hc j st hj', hbp]; simp))).trans (h.hc j st hj')
    inj := fun i j hi' hj' => by
      refine h.inj i j ?_ ?_
      · unfold Bx.give at hi'; by_cases e : i = k <;> simp [e] at hi'; exact hi'
      · unfold Bx.give at hj'; by_cases e : j = k <;> simp [e] at hj'; exact hj'
    hps := h.hps
    rb := h.rb
    rp := h.rp
    rs := h.rs
    rc := fun j hj => h.rc j (by unfold Bx.give at hj; by_cases e : j = k <;> simp [e] at hj; exact hj)
    top := Nat.le_trans h.top hup.size }
end Go.Proofs.Ythbnnifkoomokaa
