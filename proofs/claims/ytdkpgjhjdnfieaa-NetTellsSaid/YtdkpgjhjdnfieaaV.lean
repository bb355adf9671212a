/- What a law carries from call to call: the net, the rest of memory, what the messages say. No program is run. No condition. -/
import Derived.Test.YtdkpgjhjdnfieaaU
set_option linter.unusedVariables false
set_option linter.unusedSimpArgs false
namespace Go.Proofs.Ytdkpgjhjdnfieaa
open Go.RowKit Go.Mf
set_option maxRecDepth 100000

def Inv (w : World) (S : Nat → Prop) (x : Nat) (X : Nx) (wr : World) : Prop := NetOk wr S x X ∧ (∀ k, S k → w.heap.size ≤ k) ∧ Below w.heap.size w wr
theorem Inv.fr {w a b : World} {S S' : Nat → Prop} {x : Nat} {X X' : Nx} (h : Inv w S x X a) (hn : NetOk b S' x X') (hf : Fr S S' a b) : Inv w S' x X' b :=
  ⟨hn, fun k hk => (hf.new k hk).elim (h.2.1 k) (fun h' => Nat.le_trans h.2.2.size h'), h.2.2.trans (hf.below h.2.1 h.2.2.size)⟩
theorem Inv.up {w a b : World} {S : Nat → Prop} {x : Nat} {X : Nx} (h : Inv w S x X a) (hb : Below a.heap.size a b) : Inv w S x X b :=
  ⟨netOk_up h.1 hb, h.2.1, h.2.2.trans (hb.mono h.2.2.size)⟩

/-- a message whose lists no call on the net writes -/
def Holds (w : World) (S : Nat → Prop) (cs : List Value) (M : MsgD) : Prop := MsgIn w (fun k => k < w.heap.size ∧ ¬ S k) cs M
theorem Holds.fr {a b : World} {S S' : Nat → Prop} {cs : List Value} {M : MsgD} (h : Holds a S cs M) (hf : Fr S S' a b) : Holds b S' cs M :=
  h.keep (fun k hk _ => ⟨Nat.lt_of_lt_of_le hk.1 hf.size, fun hs => (hf.new k hs).elim hk.2 (fun h' => by have := hk.1; omega)⟩) (fun k hk _ => hf.block k hk.1 hk.2)
theorem Holds.up {a b : World} {S : Nat → Prop} {cs : List Value} {M : MsgD} (h : Holds a S cs M) (hb : Below a.heap.size a b) : Holds b S cs M :=
  h.keep (fun k hk _ => ⟨Nat.lt_of_lt_of_le hk.1 hb.size, hk.2⟩) (fun k hk _ => hb.block k hk.1)
theorem Holds.new {a b : World} {S : Nat → Prop} {cs : List Value} {M : MsgD} (h : MsgW b (fun k => a.heap.size ≤ k ∧ k < b.heap.size ∧ ¬ S k) cs M) : Holds b S cs M :=
  h.to.keep (fun k hk _ => ⟨hk.2.1, hk.2.2⟩) (fun _ _ _ => rfl)

theorem sc_get {cs : List Value} {M : MsgD} {w : World} {S : Nat → Prop} (h : MsgIn w S cs M) {j : Nat} (h1 : j ≠ 10) (h2 : j ≠ 33) : cs[j]? = M.sc[j]? := by
  obtain ⟨_, _, h3, _⟩ := h
  rw [← h3, List.getElem?_set_ne (Ne.symm h2), List.getElem?_set_ne (Ne.symm h1)]

@[simp] theorem set_n (X : Nx) (i j : Nat) (l : List (List Value)) : (X.set i j l).n = X.n := rfl
@[simp] theorem set_off (X : Nx) (i j : Nat) (l : List (List Value)) : (X.set i j l).off = X.off := rfl
@[simp] theorem set_q (X : Nx) (i j : Nat) (l : List (List Value)) : (X.set i j l).q i j = l := by simp [Nx.set]
theorem set_q_ne (X : Nx) {i j i' j' : Nat} (l : List (List Value)) (h : ¬ (i' = i ∧ j' = j)) : (X.set i j l).q i' j' = X.q i' j' := by simp [Nx.set, h]
@[simp] theorem push_n (X : Nx) (a b : Int) (cs : List Value) : (X.push a b cs).n = X.n := rfl
@[simp] theorem push_off (X : Nx) (a b : Int) (cs : List Value) : (X.push a b cs).off = X.off := rfl
@[simp] theorem pop_n (X : Nx) (a b t : Int) : (X.pop a b t).n = X.n := rfl
@[simp] theorem pop_off (X : Nx) (a b t : Int) : (X.pop a b t).off = X.off := rfl
@[simp] theorem cut_n (X : Nx) (a b : Int) (o : Bool) : (X.cut a b o).n = X.n := by unfold Nx.cut; split <;> rfl
@[simp] theorem cut_q (X : Nx) (a b : Int) (o : Bool) : (X.cut a b o).q = X.q := by unfold Nx.cut; split <;> rfl

theorem len_ok {w : World} {S : Nat → Prop} {x : Nat} {X : Nx} (h : NetOk w S x X) (a b : Int) : Calls Try.prog 24 #[.pointer (some ⟨x, 0, none⟩), .int .i64 a, .int .i64 b] w fun e w' => e = .returned (.int .i64 (X.len a b : Nat)) ∧ w' = w := by
  obtain ⟨_, rb, rr, qv, h⟩ := h
  exact len_any h a b
theorem off_ok {w : World} {S : Nat → Prop} {x : Nat} {X : Nx} (h : NetOk w S x X) (a b : Int) : Calls Try.prog 26 #[.pointer (some ⟨x, 0, none⟩), .int .i64 a, .int .i64 b] w fun e w' => e = .returned (.bool (X.cutOf a b)) ∧ w' = w := by
  obtain ⟨_, rb, rr, qv, h⟩ := h
  exact off_any h a b
def CutOkPost (w : World) (S : Nat → Prop) (x : Nat) (X : Nx) (a b : Int) (o : Bool) : Ending → World → Prop := fun e w' => e = .returned (.bool (isLink X.n a b)) ∧ NetOk w' S x (X.cut a b o) ∧ Fr S S w w'
theorem cut_ok {w : World} {S : Nat → Prop} {x : Nat} {X : Nx} (h : NetOk w S x X) (a b : Int) (o : Bool) : Calls Try.prog 21 #[.pointer (some ⟨x, 0, none⟩), .int .i64 a, .int .i64 b, .bool o] w (CutOkPost w S x X a b o) := by
  obtain ⟨hS, rb, rr, qv, h⟩ := h
  exact (cut_any h a b o).mono fun e w' ⟨h1, h2, h3⟩ => ⟨h1, ⟨fun k hk => Nat.lt_of_lt_of_le (hS k hk) h3.size, rb, rr, qv, h2⟩, h3⟩
end Go.Proofs.Ytdkpgjhjdnfieaa
