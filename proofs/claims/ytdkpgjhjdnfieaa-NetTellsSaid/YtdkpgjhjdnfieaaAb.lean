/- Steps in memory, the net of one link, and the state of NetCounts. No program is run. No condition. -/
import Derived.Test.YtdkpgjhjdnfieaaAa
set_option linter.unusedVariables false
set_option linter.unusedSimpArgs false
namespace Go.Proofs.Ytdkpgjhjdnfieaa
open Go.RowKit Go.Mf
set_option maxRecDepth 100000

structure StepD where
  d : Int
  f : Int
  t : Int
  i : Int
  m : MsgD
  mf : Int
  mt : Int
def i64ok (a : Int) : Prop := -9223372036854775808 ≤ a ∧ a ≤ 9223372036854775807
def StepIn (w : World) (S : Nat → Prop) (b p : Nat) (s : StepD) : Prop :=
  w.cell? ⟨b, p, none⟩ = some (.int .i64 s.d) ∧ w.cell? ⟨b, p + 1, none⟩ = some (.int .i64 s.f) ∧ w.cell? ⟨b, p + 2, none⟩ = some (.int .i64 s.t) ∧ w.cell? ⟨b, p + 3, none⟩ = some (.int .i64 s.i) ∧ i64ok s.d ∧ i64ok s.f ∧ i64ok s.t ∧ i64ok s.i ∧
    ∃ cs : List Value, (∀ j u, cs[j]? = some u → w.cell? ⟨b, p + 4 + j, none⟩ = some u) ∧ MsgIn w S cs s.m ∧ cs[1]? = some (.int .i64 s.mf) ∧ cs[2]? = some (.int .i64 s.mt)
def StepsIn (w : World) (S : Nat → Prop) (v : Value) (l : List StepD) : Prop :=
  ∃ a c, v = .slice a l.length c ∧ l.length ≤ 9223372036854775807 ∧ (l ≠ [] → ∃ b o, a = some ⟨b, o, none⟩ ∧ S b ∧ ∀ (j : Nat) (s : StepD), l[j]? = some s → StepIn w S b (o + j * 38) s)
theorem StepIn.keep {w w' : World} {S : Nat → Prop} {b p : Nat} {s : StepD} (h : StepIn w S b p s) (hb : S b) (hw : ∀ k, S k → k < w.heap.size → w'.heap[k]? = w.heap[k]?) : StepIn w' S b p s := by
  obtain ⟨h0, h1, h2, h3, b0, b1, b2, b3, cs, h4, h5, h6, h7⟩ := h
  have hbl := World.block_lt_of_cell? _ _ h0
  have e : ∀ q, w'.cell? ⟨b, q, none⟩ = w.cell? ⟨b, q, none⟩ := fun q => World.cell?_of_block (hw b hb hbl)
  exact ⟨by rw [e]; exact h0, by rw [e]; exact h1, by rw [e]; exact h2, by rw [e]; exact h3, b0, b1, b2, b3, cs, fun j u hu => by rw [e]; exact h4 j u hu, h5.keep (fun _ h _ => h) hw, h6, h7⟩

/-- a net of four servers with messages on one link alone -/
def XC (i j : Nat) (l : List (List Value)) (o : Bool) : Nx := ⟨4, fun a b => if a = i ∧ b = j then l else [], fun a b => if a = i ∧ b = j then o else false⟩
theorem XC_q (i j : Nat) (l : List (List Value)) (o : Bool) : (XC i j l o).q i j = l := by simp [XC]
theorem XC_off (i j : Nat) (l : List (List Value)) (o : Bool) : (XC i j l o).off i j = o := by simp [XC]
theorem XC_set (i j : Nat) (l l' : List (List Value)) (o : Bool) : (XC i j l o).set i j l' = XC i j l' o := by
  unfold XC Nx.set
  simp only [Nx.mk.injEq, true_and, and_true]
  funext a b
  by_cases h : a = i ∧ b = j <;> simp [h]
theorem XC_zero (i j : Nat) : (⟨4, fun _ _ => [], fun _ _ => false⟩ : Nx) = XC i j [] false := by unfold XC; simp
theorem XC_push (i j : Nat) (l : List (List Value)) (o : Bool) (c : List Value) : (XC i j l o).push (i : Int) (j : Int) c = XC i j (l ++ [c]) o := by
  unfold Nx.push; simp only [Int.toNat_natCast, XC_q, XC_set]
theorem XC_pop (i j : Nat) (l : List (List Value)) (o : Bool) (k : Int) : (XC i j l o).pop (i : Int) (j : Int) k = XC i j (l.eraseIdx k.toNat) o := by
  unfold Nx.pop; simp only [Int.toNat_natCast, XC_q, XC_set]
theorem XC_cut {i j : Nat} (hl : isLink 4 (i : Int) (j : Int) = true) (l : List (List Value)) (o o' : Bool) : (XC i j l o).cut (i : Int) (j : Int) o' = XC i j l o' := by
  unfold Nx.cut
  rw [show isLink (XC i j l o).n (i : Int) (j : Int) = true from hl, if_pos rfl]
  unfold XC
  simp only [Nx.mk.injEq, true_and, Int.toNat_natCast]
  funext a b
  by_cases h : a = i ∧ b = j <;> simp [h]
theorem XC_send {i j : Nat} (hl : isLink 4 (i : Int) (j : Int) = true) (l : List (List Value)) (o : Bool) (h : l.length < 1024) : (XC i j l o).sendOk (i : Int) (j : Int) = !o := by
  unfold Nx.sendOk
  rw [show isLink (XC i j l o).n (i : Int) (j : Int) = true from hl]
  simp only [Int.toNat_natCast, XC_q, XC_off]
  simp [h]
theorem XC_has {i j : Nat} (hl : isLink 4 (i : Int) (j : Int) = true) (l : List (List Value)) (o : Bool) (k : Int) : (XC i j l o).hasAt (i : Int) (j : Int) k = (decide (0 ≤ k) && decide (k < l.length)) := by
  unfold Nx.hasAt
  rw [show isLink (XC i j l o).n (i : Int) (j : Int) = true from hl]
  simp only [Int.toNat_natCast, XC_q, Bool.true_and]
theorem XC_twice {i j : Nat} (hl : isLink 4 (i : Int) (j : Int) = true) (l : List (List Value)) (o : Bool) (k : Int) (h : l.length < 1024) : (XC i j l o).twiceOk (i : Int) (j : Int) k = (decide (0 ≤ k) && decide (k < l.length)) := by
  unfold Nx.twiceOk
  rw [XC_has hl]
  simp only [Int.toNat_natCast, XC_q]
  have : decide (l.length < 1024) = true := by simpa using h
  rw [this, Bool.and_true]
theorem XC_len {i j : Nat} (hl : isLink 4 (i : Int) (j : Int) = true) (l : List (List Value)) (o : Bool) : (XC i j l o).len (i : Int) (j : Int) = l.length := by
  unfold Nx.len
  rw [show isLink (XC i j l o).n (i : Int) (j : Int) = true from hl]
  simp only [if_true, Int.toNat_natCast, XC_q]
theorem XC_cutOf {i j : Nat} (hl : isLink 4 (i : Int) (j : Int) = true) (l : List (List Value)) (o : Bool) : (XC i j l o).cutOf (i : Int) (j : Int) = o := by
  unfold Nx.cutOf
  rw [show isLink (XC i j l o).n (i : Int) (j : Int) = true from hl]
  simp only [Int.toNat_natCast, XC_off, Bool.true_and]
theorem XC_total {i j : Nat} (hi : i < 4) (hj : j < 4) (l : List (List Value)) (o : Bool) : (XC i j l o).total = l.length := by
  have h0 : (XC i j [] o).total = 0 := by
    unfold Nx.total
    have : sumTo (fun a => sumTo (fun b => ((XC i j [] o).q a b).length) (XC i j [] o).n) (XC i j [] o).n = sumTo (fun _ => 0) 4 := by
      refine sumTo_congr _ (fun a _ => ?_)
      rw [← sumTo_zero 4]
      refine sumTo_congr _ (fun b _ => ?_)
      simp [XC]
    rw [this, sumTo_zero]
  have h1 := total_set (XC i j [] o) l (show i < (XC i j [] o).n from hi) (show j < (XC i j [] o).n from hj)
  rw [XC_set, XC_q, h0] at h1
  simp at h1
  omega
theorem XC_small {i j : Nat} {l : List (List Value)} (o : Bool) (h : l.length ≤ 1024) : (XC i j l o).Small := by
  refine ⟨by simp [XC], fun a b => ?_⟩
  unfold XC
  simp only
  split
  · exact h
  · simp

/-- an int row of the call's own that no call on the net writes -/
def Row (w0 w : World) (S : Nat → Prop) (v : Value) (xs : List Int) : Prop := w.ownsRow w0.heap.size 3 1 v xs.length (xs.map (Value.int .i64)) ∧ ∀ g, v.ownBlock = some g → ¬ S g
theorem Row.fr {w0 a b : World} {S S' : Nat → Prop} {v : Value} {xs : List Int} (h : Row w0 a S v xs) (hf : Fr S S' a b) : Row w0 b S' v xs :=
  ⟨own_heap h.1 (fun g hg hl => hf.block g hl (h.2 g hg)), fun g hg hs => (hf.new g hs).elim (h.2 g hg) (fun h' => by have := (h.1.lt g hg).2; omega)⟩
theorem Row.up {w0 a b : World} {S : Nat → Prop} {v : Value} {xs : List Int} (h : Row w0 a S v xs) (hb : Below a.heap.size a b) : Row w0 b S v xs :=
  ⟨own_heap h.1 (fun g hg hl => hb.block g hl), h.2⟩

/-- a write to the row alone, or new blocks: the net stays -/
theorem Inv.row {w a b : World} {S : Nat → Prop} {x : Nat} {X : Nx} {v : Value} {xs : List Int} (h : Inv w S x X a) (hr : Row w a S v xs) (hg : a.grownBy b v.ownBlock) : Inv w S x X b :=
  ⟨h.1.keep hg.size (fun k hk hl => hg.block k hl (fun e => hr.2 k e.symm hk)), h.2.1, h.2.2.grown hg h.2.2.size (fun q hq => (hr.1.lt q hq).1)⟩
theorem own_base {w : World} {base base' : Nat} {e : TypeId} {sz : Nat} {v : Value} {n : Nat} {xs : List Value} (h : w.ownsRow base e sz v n xs) (hb : base' ≤ base) : w.ownsRow base' e sz v n xs := by
  refine ⟨h.1, ?_⟩
  rcases h.2 with h1 | ⟨g, cap, cur, h1, h2, h3⟩
  · exact .inl h1
  · exact .inr ⟨g, cap, cur, h1, Nat.le_trans hb h2, h3⟩

/-- the receipts of a link: their lists are nil, so nothing of them can be written -/
def Nums (l : List (List Value)) (i j : Nat) (on : List Int) : Prop := l.length = on.length ∧ ∀ (p : Nat) (c : List Value) (n : Int), l[p]? = some c → on[p]? = some n → ∃ w S, MsgIn w S c (rcptM i j n)
def CntSt (w : World) (x i j : Nat) (on : List Int) (o : Bool) (v : Value) (wr : World) : Prop :=
  ∃ S l, Inv w S x (XC i j l o) wr ∧ Row w wr S v on ∧ Nums l i j on

/-- a message without lists reads so in any memory -/
theorem rcpt_any_world {w w' : World} {S S' : Nat → Prop} {c : List Value} {a b n : Int} (h : MsgIn w S c (rcptM a b n)) : MsgIn w' S' c (rcptM a b n) := by
  obtain ⟨h0, h1, h2, v1, v2, h3, h4, ⟨a1, c1, css, e1, e2, e3, e4, e5⟩, ⟨a2, c2, f1, f2, f3, f4, f5, f6⟩⟩ := h
  refine ⟨h0, h1, h2, v1, v2, h3, h4, ⟨a1, c1, css, e1, e2, e3, fun j cs E hcs hE => ?_, fun hn => absurd hn (Nat.lt_irrefl 0)⟩, ⟨a2, c2, f1, f2, f3, f4, f5, fun hn => absurd hn (Nat.lt_irrefl 0)⟩⟩
  simp [rcptM] at hE

theorem Nums.push {l : List (List Value)} {i j : Nat} {on : List Int} (h : Nums l i j on) {w : World} {S : Nat → Prop} {c : List Value} {n : Int} (hc : MsgIn w S c (rcptM i j n)) : Nums (l ++ [c]) i j (on ++ [n]) := by
  refine ⟨by simp [h.1], fun p c' n' h1 h2 => ?_⟩
  by_cases e : p < l.length
  · rw [List.getElem?_append_left e] at h1
    rw [List.getElem?_append_left (by rw [← h.1]; exact e)] at h2
    exact h.2 p c' n' h1 h2
  · rw [List.getElem?_append_right (by omega)] at h1
    rw [List.getElem?_append_right (by rw [← h.1]; omega), ← h.1] at h2
    have hp : p - l.length = 0 := by
      have := (List.getElem?_eq_some_iff.1 h1).1
      simp at this; omega
    rw [hp] at h1 h2
    simp at h1 h2
    subst h1; subst h2
    exact ⟨w, S, hc⟩
theorem Nums.erase {l : List (List Value)} {i j : Nat} {on : List Int} (h : Nums l i j on) {k : Nat} (hk : k < l.length) : Nums (l.eraseIdx k) i j (on.eraseIdx k) := by
  refine ⟨by rw [List.length_eraseIdx_of_lt hk, List.length_eraseIdx_of_lt (by rw [← h.1]; exact hk), h.1], fun p c n h1 h2 => ?_⟩
  rw [List.getElem?_eraseIdx] at h1 h2
  by_cases e : p < k
  · rw [if_pos e] at h1 h2; exact h.2 _ _ _ h1 h2
  · rw [if_neg e] at h1 h2; exact h.2 _ _ _ h1 h2
end Go.Proofs.Ytdkpgjhjdnfieaa
