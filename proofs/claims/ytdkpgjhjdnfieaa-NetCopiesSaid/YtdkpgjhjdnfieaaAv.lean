/- Plain facts for NetCopies: boxes and messages that stay while calls on the net, and spoil, write elsewhere. No program is run. No condition. -/
import Derived.Test.YtdkpgjhjdnfieaaW
import Derived.Test.YtdkpgjhjdnfieaaY
import Derived.Test.YtdkpgjhjdnfieaaAs
import Derived.Test.YtdkpgjhjdnfieaaAu
set_option linter.unusedVariables false
set_option linter.unusedSimpArgs false
namespace Go.Proofs.Ytdkpgjhjdnfieaa
open Go.RowKit Go.Mf

theorem YF_send {n i j : Nat} (hl : isLink n (i : Int) (j : Int) = true) (l : List (List Value)) (h : l.length < 1024) : (XF n i j l []).sendOk i j = true := by
  unfold Nx.sendOk
  rw [show (XF n i j l []).n = n from rfl, hl]
  simp only [Int.toNat_natCast, XF_q]
  simp [XF, h]
theorem YF_push (n i j : Nat) (l : List (List Value)) (c : List Value) : (XF n i j l []).push (i : Int) (j : Int) c = XF n i j (l ++ [c]) [] := by
  unfold Nx.push
  simp only [Int.toNat_natCast, XF_q, XF_set]
theorem YF_has {n i j : Nat} (hl : isLink n (i : Int) (j : Int) = true) (l : List (List Value)) (k : Nat) (h : k < l.length) : (XF n i j l []).hasAt i j (k : Int) = true := by
  unfold Nx.hasAt
  rw [show (XF n i j l []).n = n from rfl, hl]
  simp only [Int.toNat_natCast, XF_q]
  simp; omega
theorem YF_hasnot {n i j : Nat} (l : List (List Value)) (k : Nat) (h : l.length ≤ k) : (XF n i j l []).hasAt i j (k : Int) = false := by
  unfold Nx.hasAt
  simp only [Int.toNat_natCast, XF_q]
  have : decide ((k : Int) < l.length) = false := by simp; omega
  rw [this, Bool.and_false, Bool.and_false]
theorem YF_twice {n i j : Nat} (hl : isLink n (i : Int) (j : Int) = true) (l : List (List Value)) (k : Nat) (h : k < l.length) (h2 : l.length < 1024) : (XF n i j l []).twiceOk i j (k : Int) = true := by
  unfold Nx.twiceOk
  rw [YF_has hl l k h]
  simp only [Int.toNat_natCast, XF_q]
  simpa using h2
theorem YF_pop (n i j : Nat) (l : List (List Value)) (k : Nat) : (XF n i j l []).pop (i : Int) (j : Int) (k : Int) = XF n i j (l.eraseIdx k) [] := by
  unfold Nx.pop
  simp only [Int.toNat_natCast, XF_q, XF_set]

/-- a load of a whole box that stands behind a guard -/
theorem wpList_load_guarded {ops : Array Oper} {rest : List Oper} {o : Oper} {a : Act} {w : World} {Q : Exit → Act → World → Prop} (hw : Region.wanted o (yielded ops a.tmps) = true) (ty : TypeId) (x : Operand) (ho : o.op = .load ty x)
    (g : Nat) (hx : a.eval x = .pointer (some ⟨g, 0, none⟩)) (t : TypeId) (cs : Array Value) (fr : Nat × Nat) (fs : Array Field) (hg : w.heap[g]? = some (.cells cs t fr))
    (hu : Try.prog.underlying ty = some (.struct fs)) (hi : (Try.prog.info? ty).map (·.size) = some cs.size)
    (h : wpList Try.prog ops Q rest (a.put o.dst (.agg cs)) w) : wpList Try.prog ops Q (o :: rest) a w :=
  wpList_step fun K hK => by
    rw [if_pos hw]
    exact wp_load_row ty x ho g hx t cs fr _ hg hu rfl hi (hK _ _ h)
/-- a box of a message that is none of the net's blocks -/
def Bx (S : Nat → Prop) (b : Nat) (c : List Value) (wr : World) : Prop := ¬ S b ∧ wr.heap[b]? = some (.cells c.toArray 42 (0, 0))
theorem Bx.lt {S : Nat → Prop} {b : Nat} {c : List Value} {a : World} (h : Bx S b c a) : b < a.heap.size := (Array.getElem?_eq_some_iff.1 h.2).1
theorem Bx.fr {S S' : Nat → Prop} {b : Nat} {c : List Value} {a a' : World} (h : Bx S b c a) (hf : Fr S S' a a') : Bx S' b c a' :=
  ⟨fun hs => (hf.new b hs).elim h.1 (fun h' => by have := h.lt; omega), (hf.block b h.lt h.1).trans h.2⟩
theorem Bx.up {S : Nat → Prop} {b : Nat} {c : List Value} {a a' : World} (h : Bx S b c a) (hb : Below a.heap.size a a') : Bx S b c a' := ⟨h.1, (hb.block b h.lt).trans h.2⟩
theorem Bx.sp {S : Nat → Prop} {b lo hi : Nat} {c : List Value} {a a' : World} {T : Nat → Prop} (h : Bx S b c a) (hf : Fr T T a a') (hT : ∀ k, T k → lo ≤ k ∧ k < hi ∧ ¬ S k) (hb : b < lo ∨ hi ≤ b) : Bx S b c a' :=
  ⟨h.1, (hf.block b h.lt (fun ht => by have := hT b ht; omega)).trans h.2⟩

/-- a message whose lists may be written, in the blocks from lo to hi, none of them the net's -/
def Hw (S : Nat → Prop) (lo hi : Nat) (c : List Value) (M : MsgD) (wr : World) : Prop := MsgW wr (fun k => lo ≤ k ∧ k < hi ∧ ¬ S k) c M ∧ hi ≤ wr.heap.size
theorem Hw.fr {S S' : Nat → Prop} {lo hi : Nat} {c : List Value} {M : MsgD} {a a' : World} (h : Hw S lo hi c M a) (hf : Fr S S' a a') : Hw S' lo hi c M a' :=
  ⟨h.1.keep (fun k hk hl => ⟨hk.1, hk.2.1, fun hs => (hf.new k hs).elim hk.2.2 (fun h' => by omega)⟩) (fun k hk hl => hf.block k hl hk.2.2), Nat.le_trans h.2 hf.size⟩
theorem Hw.up {S : Nat → Prop} {lo hi : Nat} {c : List Value} {M : MsgD} {a a' : World} (h : Hw S lo hi c M a) (hb : Below a.heap.size a a') : Hw S lo hi c M a' :=
  ⟨h.1.keep (fun k hk _ => hk) (fun k hk hl => hb.block k hl), Nat.le_trans h.2 hb.size⟩
theorem Hw.sp {S : Nat → Prop} {lo hi lo' hi' : Nat} {c : List Value} {M : MsgD} {a a' : World} {T : Nat → Prop} (h : Hw S lo hi c M a) (hf : Fr T T a a') (hT : ∀ k, T k → lo' ≤ k ∧ k < hi' ∧ ¬ S k) (hd : hi ≤ lo' ∨ hi' ≤ lo) : Hw S lo hi c M a' :=
  ⟨h.1.keep (fun k hk _ => hk) (fun k hk hl => hf.block k hl (fun ht => by have := hT k ht; have := hk.1; have := hk.2.1; omega)), Nat.le_trans h.2 hf.size⟩
theorem Hw.lt {S : Nat → Prop} {lo hi : Nat} {c : List Value} {M : MsgD} {a : World} (h : Hw S lo hi c M a) : ∀ k, (lo ≤ k ∧ k < hi ∧ ¬ S k) → k < a.heap.size := fun k hk => by have := h.2; omega
theorem Hw.new {S : Nat → Prop} {a b : World} {c : List Value} {M : MsgD} (h : MsgW b (fun k => a.heap.size ≤ k ∧ k < b.heap.size ∧ ¬ S k) c M) : Hw S a.heap.size b.heap.size c M b := ⟨h, Nat.le_refl _⟩
theorem Inv.sp {w a a' : World} {S : Nat → Prop} {x lo hi : Nat} {X : Nx} {T : Nat → Prop} (h : Inv w S x X a) (hf : Fr T T a a') (hT : ∀ k, T k → lo ≤ k ∧ k < hi ∧ ¬ S k) (hl : w.heap.size ≤ lo) : Inv w S x X a' :=
  ⟨h.1.keep hf.size (fun k hk hl' => hf.block k hl' (fun ht => (hT k ht).2.2 hk)), h.2.1, h.2.2.trans (hf.below (fun k hk => by have := hT k hk; omega) h.2.2.size)⟩
/-- a message in a new box -/
theorem box_put {a : World} {m : List Value} (hl : m.length = 34) : (a.alloc (.cells zMsg.toArray 42)).there a.heap.size 0 34 ∧ Below a.heap.size a ((a.alloc (.cells zMsg.toArray 42)).setCells a.heap.size 0 m) ∧ ((a.alloc (.cells zMsg.toArray 42)).setCells a.heap.size 0 m).heap[a.heap.size]? = some (.cells m.toArray 42 (0, 0)) := by
  obtain ⟨h1, h2, h3⟩ := box_store (c := m) (z := zMsg) (t := 42) (w := a) hl rfl rfl
  exact ⟨there_block h1, h2, h3⟩
/-- the argument with its ends set, in its box -/
theorem ends_put {w : World} {S : Nat → Prop} {cs : List Value} {M : MsgD} (h : MsgIn w S cs M) (ht : MsgTy M) : ∃ M', MsgIn w S ((cs.set 1 (.int .i64 3)).set 2 (.int .i64 2)) M' ∧ MsgTy M' := by
  obtain ⟨h0, h1, h2, v1, v2, h3, h4, h5, h6⟩ := h
  refine ⟨⟨(M.sc.set 1 (.int .i64 3)).set 2 (.int .i64 2), M.ents, M.nl, M.link⟩, ⟨by simpa using h0, all_set (all_set h1 1 rfl) 2 rfl, ?_, v1, v2, ?_, ?_, h5, h6⟩, (ht.1.put (i := 1) rfl ⟨3, rfl⟩).put (i := 2) rfl ⟨2, rfl⟩, ht.2.1, ht.2.2⟩
  · show _ = (M.sc.set 1 (.int .i64 3)).set 2 (.int .i64 2)
    rw [← h2]
    apply List.ext_getElem
    · simp
    · intro i q1 q2
      simp only [List.getElem_set]
      by_cases e1 : 33 = i
      · subst e1; simp
      · by_cases e2 : 10 = i
        · subst e2; simp
        · simp [e1, e2]
  · rw [List.getElem?_set_ne (by omega), List.getElem?_set_ne (by omega)]; exact h3
  · rw [List.getElem?_set_ne (by omega), List.getElem?_set_ne (by omega)]; exact h4
end Go.Proofs.Ytdkpgjhjdnfieaa
