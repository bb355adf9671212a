/- A library of lemmas: a statement whose order is drawn, walked in the order of its text; what must hold of the world may differ from operation to operation. No program is run. No condition. -/
import Derived.Orders
import Derived.OrdersHeld
import Derived.RegionTactic
import Derived.Deep.RegionHeld
set_option linter.unusedVariables false
set_option linter.unusedSimpArgs false
namespace Go.Rg
open Go

section
variable {P : Program} {ops : Array Oper} {Q : Exit → Act → World → Prop} {md : Region.Mode} {S : Nat → World → Prop}

/-- any order from here on; S j holds behind operation j -/
def Any (P : Program) (md : Region.Mode) (ops : Array Oper) (Q : Exit → Act → World → Prop) (S : Nat → World → Prop) : Nat → Array Bool → Act → World → Prop
  | 0, l, a, w => Region.ready md ops l = [] ∧ Q .normal a w
  | n + 1, l, a, w => (Region.ready md ops l = [] → Q .normal a w) ∧ ∀ i ∈ Region.ready md ops l, wpOp P ops Q i (fun b v => S i v ∧ Any P md ops Q S n (l.setIfInBounds i true) b v) a w

theorem Any.plain : ∀ (n : Nat) (l : Array Bool) (a : Act) (w : World), Any P md ops Q S n l a w → wpAny P md ops Q n l a w
  | 0, _, _, _, h => h
  | n + 1, _, _, _, h => ⟨h.1, fun i hi => wpOp_mono (fun b v hb => Any.plain n _ b v hb.2) (h.2 i hi)⟩

/-- every operation but those that wait for number i keeps T -/
def Lets (md : Region.Mode) (ops : Array Oper) (i : Nat) (S : Nat → World → Prop) (T : World → Prop) : Prop :=
  ∀ j oj, ops[j]? = some oj → (∀ e ∈ oj.after, Region.binds md e = true → e.on ≠ i) → ∀ w, S j w → T w

theorem Any.first {i : Nat} {oi : Oper} {v : Value} {T : World → Prop} (hi : ops[i]? = some oi) (hsel : Region.noSelect ops = true)
    (hQ : ∀ c a w, Q (.panic c) (a.put oi.dst v) w → Q (.panic c) a w) (hT : Lets md ops i S T) (hSi : ∀ w, T w → S i w) :
    ∀ (n : Nat) (l : Array Bool) (a : Act) (w : World), Region.free md ops l i = true → i ∈ Region.ready md ops l → YieldsIf P ops T oi v a → T w →
      Any P md ops Q S n (l.setIfInBounds i true) (a.put oi.dst v) w → Any P md ops Q S (n + 1) l a w := by
  intro n
  induction n with
  | zero =>
    intro l a w hf hr hy ht H
    refine ⟨fun h => absurd hr (by rw [h]; exact List.not_mem_nil), fun j hj => ?_⟩
    by_cases e : j = i
    · rw [e]; exact hy.wpOp hi ht ⟨hSi _ ht, H⟩
    · have h0 := ready_mono hj e
      rw [H.1] at h0
      exact absurd h0 List.not_mem_nil
  | succ n ih =>
    intro l a w hf hr hy ht H
    refine ⟨fun h => absurd hr (by rw [h]; exact List.not_mem_nil), fun j hj => ?_⟩
    by_cases e : j = i
    · rw [e]; exact hy.wpOp hi ht ⟨hSi _ ht, H⟩
    have hj1 := H.2 j (ready_mono hj e)
    obtain ⟨hjl, oj, hoj, hal⟩ := mem_ready.1 hj
    have hil := (mem_ready.1 hr).1
    have hno : ∀ x ∈ oj.after, Region.binds md x = true → x.on ≠ i := fun x hx hb hxi => by
      have k1 := hal x hx hb
      rw [hxi] at k1
      cases hq : l[i]? with
      | none => simp [Array.getD_eq_getD_getElem?, hq] at k1
      | some b => simp [Array.getD_eq_getD_getElem?, hq] at k1 hil; simp_all
    have hap := Region.free_spec hi hf j oj hoj e hjl hno
    have h2 := wpOp_putIf hoj hap (fun cs b => Region.noSelect_spec hsel i oi cs b hi) (fun cs b => Region.noSelect_spec hsel j oj cs b hoj) hQ hy hj1
    refine wpOp_mono (fun b v h3 => ⟨h3.2.1, ih _ b v ?_ (ready_mono hr (Ne.symm e)) h3.1 (hT j oj hoj hno v h3.2.1) ?_⟩) h2
    · simp only [Region.free, hi, List.all_eq_true, List.mem_range] at hf ⊢
      intro k hk
      have hk2 := hf k hk
      simp only [Bool.or_eq_true] at hk2 ⊢
      rcases hk2 with (hk2 | hk2) | hk2
      · exact .inl (.inl hk2)
      · by_cases hjk : j = k
        · rw [← hjk, hjl] at hk2; cases hk2
        · exact .inl (.inr (by rw [getD_set_ne true hjk]; exact hk2))
      · exact .inr hk2
    · rw [Array.setIfInBounds_comm _ _ e]
      exact h3.2.2

/-- number i comes next: it only reads, and what it reads stays -/
theorem take (i : Nat) {oi : Oper} {v : Value} {T : World → Prop} {n : Nat} {l : Array Bool} {a : Act} {w : World} (hi : ops[i]? = some oi) (hsel : Region.noSelect ops = true) (hf : Region.free md ops l i = true) (hr : (Region.ready md ops l).contains i = true)
    (hQ : ∀ c a w, Q (.panic c) (a.put oi.dst v) w → Q (.panic c) a w) (hT : Lets md ops i S T) (hSi : ∀ w, T w → S i w) (hy : YieldsIf P ops T oi v a) (ht : T w)
    (h : Any P md ops Q S n (l.setIfInBounds i true) (a.put oi.dst v) w) : Any P md ops Q S (n + 1) l a w :=
  Any.first hi hsel hQ hT hSi n l a w hf (by simpa using hr) hy ht h

/-- number i is the only one that may come next -/
theorem only (i : Nat) {oi : Oper} {n : Nat} {l : Array Bool} {a : Act} {w : World} (hr : Region.ready md ops l = [i]) (hi : ops[i]? = some oi)
    (h : ∀ K : Act → World → Prop, Shut (∀ b v, S i v → Any P md ops Q S n (l.setIfInBounds i true) b v → K b v) → if Region.wanted oi (yielded ops a.tmps) = true then Oper.wp P oi a w K Q else K (a.put oi.dst undef) w) : Any P md ops Q S (n + 1) l a w :=
  ⟨fun h0 => (by rw [h0] at hr; cases hr), fun j hj => by
    rw [hr] at hj
    have hji : j = i := by simpa using hj
    subst hji
    exact wpOp_step hi (fun K hK => h K (fun b v h1 h2 => hK b v ⟨h1, h2⟩))⟩

theorem done {l : Array Bool} {a : Act} {w : World} {n : Nat} (hr : Region.ready md ops l = []) (h : Q .normal a w) : Any P md ops Q S n l a w := by
  cases n with
  | zero => exact ⟨hr, h⟩
  | succ n => exact ⟨fun _ => h, fun i hi => absurd hi (by rw [hr]; exact List.not_mem_nil)⟩

theorem begin_ {id : Nat} {a : Act} {w : World} (S : Nat → World → Prop) (hm : P.follows .mixedOrders = true) (h : Any P .any ops Q S ops.size (Array.replicate ops.size false) a w.drew) : (Code.region id ops true).wp P Q a w :=
  wp_region_any hm (Any.plain _ _ _ _ h)

/-- S is asked behind every operation but those of ex -/
def But (ex : List Nat) (T : World → Prop) : Nat → World → Prop := fun j w => ex.contains j = true ∨ T w
theorem But.mk {ex : List Nat} {T : World → Prop} {j : Nat} {w : World} (h : T w) : But ex T j w := .inr h
def waits (md : Region.Mode) (ops : Array Oper) (i : Nat) (ex : List Nat) : Bool :=
  ex.all fun j => match ops[j]? with
    | some oj => oj.after.any (fun e => Region.binds md e && e.on == i)
    | none => true
theorem But.lets {ex : List Nat} {T T' : World → Prop} {i : Nat} (h : waits md ops i ex = true) (hT : ∀ w, T w → T' w) : Lets md ops i (But ex T) T' := by
  intro j oj hj hno w hw
  rcases hw with hw | hw
  · have hm : j ∈ ex := by simpa using hw
    have h1 := List.all_eq_true.1 h j hm
    simp only [hj] at h1
    obtain ⟨e, he, hb⟩ := Array.any_eq_true'.1 h1
    simp only [Bool.and_eq_true, beq_iff_eq] at hb
    exact absurd hb.2 (hno e he hb.1)
  · exact hT w hw
end
end Go.Rg
