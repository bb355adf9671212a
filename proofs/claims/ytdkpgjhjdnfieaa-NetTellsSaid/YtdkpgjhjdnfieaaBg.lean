/- What each step of NetTells does to both nets. No program is run. No condition. -/
import Derived.Test.YtdkpgjhjdnfieaaBf
import Derived.Test.YtdkpgjhjdnfieaaAu
set_option linter.unusedVariables false
set_option linter.unusedSimpArgs false
namespace Go.Proofs.Ytdkpgjhjdnfieaa
open Go.RowKit Go.Mf
set_option maxRecDepth 100000

structure TS (w0 w : World) (S T : Nat → Prop) (x y : Nat) (X : Nx) (L C : Value) (l : List RM) (cuts : List (Int × Int)) (k : Nat) : Prop where
  sim : Sim w0 w S T x y X L C l cuts
  n20 : X.n ≤ 20
  ll : l.length ≤ k
  lc : cuts.length ≤ k
  lq : ∀ i j, (X.q i j).length ≤ k
def TSt (w0 : World) (x y k : Nat) (w : World) : Prop := ∃ S T X L C l cuts, TS w0 w S T x y X L C l cuts k
/-- what stands outside the net's blocks and beside y stays -/
def KeptB (S : Nat → Prop) (y : Nat) (a b : World) : Prop := a.heap.size ≤ b.heap.size ∧ ∀ q, q < a.heap.size → ¬ S q → q ≠ y → b.heap[q]? = a.heap[q]?
theorem KeptB.mk' {S S1 T T2 : Nat → Prop} {y : Nat} {a b c : World} (hf : Fr S S1 a b) (hr : RFr T T2 y b c) : KeptB S y a c :=
  ⟨Nat.le_trans hf.size hr.1.size, fun q hq hn hy => by rw [hr.1.block q (Nat.lt_of_lt_of_le hq hf.size) hy]; exact hf.block q hq hn⟩

section
variable {w0 w : World} {S T : Nat → Prop} {x y k : Nat} {X : Nx} {L C : Value} {l : List RM} {cuts : List (Int × Int)}
theorem TS.up {w1 : World} (h : TS w0 w S T x y X L C l cuts k) (hb : Below w.heap.size w w1) : TS w0 w1 S T x y X L C l cuts k := ⟨h.sim.up hb, h.n20, h.ll, h.lc, h.lq⟩
theorem TS.small (h : TS w0 w S T x y X L C l cuts k) (hk : k ≤ 1000) : X.Small := ⟨h.n20, fun i j => by have := h.lq i j; omega⟩
theorem TS.sendOk (h : TS w0 w S T x y X L C l cuts k) (hk : k ≤ 1000) (f t : Int) : X.sendOk f t = rsendOk X.n cuts f t := by
  unfold Nx.sendOk rsendOk
  cases hl : isLink X.n f t with
  | false => rfl
  | true =>
    have h1 := h.lq f.toNat t.toNat
    have h2 : decide ((X.q f.toNat t.toNat).length < 1024) = true := by simp; omega
    rw [h.sim.off f t hl, h2]; simp
theorem lq_set {X : Nx} {k i j : Nat} {l : List (List Value)} (h : ∀ i j, (X.q i j).length ≤ k) (hl : l.length ≤ k + 1) : ∀ a b, ((X.set i j l).q a b).length ≤ k + 1 := fun a b => by
  unfold Nx.set
  by_cases e : a = i ∧ b = j
  · simp only [e, and_self, if_true]; exact hl
  · simp only [if_neg e]; have := h a b; omega
theorem t_send (h : TS w0 w S T x y X L C l cuts k) (hk : k ≤ 1000) (m : RM) {M : MsgD} (hM : MsgIn w (Old w0) m.c M) (hT : MsgTy M) {e1 : Ending} {w1 : World} (p1 : AddedPost w S x X m.f m.t M (X.sendOk m.f m.t) e1 w1) :
    e1 = .returned (.bool (rsendOk X.n cuts m.f m.t)) ∧ RefIn w1 T y X.n L C l cuts ∧ ∀ e2 w2, RSendPost w1 T y X.n C l (l ++ [m]) cuts (rsendOk X.n cuts m.f m.t) e2 w2 → e2 = .returned (.bool (rsendOk X.n cuts m.f m.t)) ∧ TSt w0 x y (k + 1) w2 ∧ KeptB S y w w2 := by
  obtain ⟨S1, X1, rfl, hn, hf, hno, hyes⟩ := p1
  have he := h.sendOk hk m.f m.t
  rw [he] at hno hyes ⊢
  refine ⟨rfl, h.sim.mid hf, fun e2 w2 p2 => ?_⟩
  obtain ⟨rfl, T2, L2, hr, hrf⟩ := p2
  refine ⟨rfl, ?_, KeptB.mk' hf hrf⟩
  cases hok : rsendOk X.n cuts m.f m.t with
  | false =>
    rw [hok] at hr hno
    obtain ⟨rfl, rfl⟩ := hno rfl
    rw [if_neg (by decide)] at hr
    exact ⟨_, _, _, _, _, _, _, h.sim.none hn hf hr hrf, h.n20, by have := h.ll; omega, by have := h.lc; omega, fun i j => by have := h.lq i j; omega⟩
  | true =>
    rw [hok] at hr hyes
    obtain ⟨c, rfl, hw⟩ := hyes rfl
    rw [if_pos rfl] at hr
    have hl : isLink X.n m.f m.t = true := by
      cases hl : isLink X.n m.f m.t with
      | true => rfl
      | false => unfold rsendOk at hok; rw [hl] at hok; cases hok
    have hyw : y < w.heap.size := h.sim.ref.lt y h.sim.ref.ty
    have hp : Pair w1 S1 y (Old w0) c m := ⟨M, hw.to.keep (fun q hq _ => ⟨hq.2.1, fun e => e.elim hq.2.2 (fun e => by have := hq.1; omega)⟩) (fun _ _ _ => rfl),
      hM.keep (fun _ h _ => h) (fun q hq hl => hf.block q hl (fun hs => h.sim.old q hq (.inl hs))), hT⟩
    have hlq : ∀ i j, ((X.push m.f m.t c).q i j).length ≤ k + 1 := lq_set h.lq (by rw [List.length_append]; have := h.lq m.f.toNat m.t.toNat; simpa using this)
    exact ⟨_, _, _, _, _, _, _, h.sim.push hl hn hf hr hrf hp, h.n20, by rw [List.length_append]; have := h.ll; simpa using this, by have := h.lc; omega, hlq⟩
theorem TS.at_link (h : TS w0 w S T x y X L C l cuts k) {a b i : Int} {r : Nat} (hat : AtSpec l a b i (some r)) : isLink X.n a b = true := by
  obtain ⟨j, m, rfl, hm, hma, hmb, _, _, _, hmem⟩ := at_some hat
  rw [← hma, ← hmb]; exact h.sim.lk m hmem
theorem TS.popped {S1 T2 : Nat → Prop} {X1 : Nx} {L2 : Value} {w1 w2 : World} (h : TS w0 w S T x y X L C l cuts k) {a b i : Int} {r : Option Nat} (hn : NetOk w1 S1 x X1) (hf : Fr S S1 w w1) (hno : X.hasAt a b i = false → X1 = X) (hyes : X.hasAt a b i = true → X1 = X.pop a b i)
    (hr : RefIn w2 T2 y X.n L2 C (match r with | none => l | some k => l.eraseIdx k) cuts) (hat : AtSpec l a b i r) (hrf : RFr T T2 y w1 w2) : TSt w0 x y (k + 1) w2 := by
  have hh := h.sim.has hat
  cases r with
  | none =>
    obtain rfl := hno hh
    exact ⟨_, _, _, _, _, _, _, h.sim.none hn hf hr hrf, h.n20, by have := h.ll; omega, by have := h.lc; omega, fun i j => by have := h.lq i j; omega⟩
  | some q =>
    obtain rfl := hyes hh
    have hle : (l.eraseIdx q).length ≤ l.length := by rw [List.length_eraseIdx]; split <;> omega
    refine ⟨_, _, _, _, _, _, _, h.sim.pop hat hn hf hr hrf, h.n20, by have := h.ll; omega, by have := h.lc; omega, ?_⟩
    exact lq_set h.lq (by have := h.lq a.toNat b.toNat; rw [List.length_eraseIdx]; split <;> omega)
theorem t_lose (h : TS w0 w S T x y X L C l cuts k) (a b i : Int) {e1 : Ending} {w1 : World} (p1 : LosePost w S x X a b i (X.hasAt a b i) e1 w1) :
    e1 = .returned (.bool (X.hasAt a b i)) ∧ RefIn w1 T y X.n L C l cuts ∧ ∀ e2 w2, RLosePost w1 T y X.n C l cuts a b i e2 w2 → e2 = .returned (.bool (X.hasAt a b i)) ∧ TSt w0 x y (k + 1) w2 ∧ KeptB S y w w2 := by
  obtain ⟨X1, rfl, hn, hf, hno, hyes⟩ := p1
  refine ⟨rfl, h.sim.mid hf, fun e2 w2 p2 => ?_⟩
  obtain ⟨r, hat, rfl, T2, L2, hr, hrf⟩ := p2
  exact ⟨by rw [h.sim.has hat], h.popped hn hf hno hyes hr hat hrf, KeptB.mk' hf hrf⟩
theorem t_twice (h : TS w0 w S T x y X L C l cuts k) (hk : k ≤ 1000) (a b i : Int) : ∃ M, (X.twiceOk a b i = true → ∃ cs, (X.q a.toNat b.toNat)[i.toNat]? = some cs ∧ MsgIn w (fun q => q < w.heap.size) cs M) ∧
    ∀ e1 w1, AddedPost w S x X a b M (X.twiceOk a b i) e1 w1 → e1 = .returned (.bool (X.twiceOk a b i)) ∧ RefIn w1 T y X.n L C l cuts ∧ ∀ e2 w2, RTwicePost w1 T y X.n C l cuts a b i e2 w2 → e2 = .returned (.bool (X.twiceOk a b i)) ∧ TSt w0 x y (k + 1) w2 ∧ KeptB S y w w2 := by
  have htw : X.twiceOk a b i = X.hasAt a b i := by
    unfold Nx.twiceOk
    have h2 : decide ((X.q a.toNat b.toNat).length < 1024) = true := by have := h.lq a.toNat b.toNat; simp; omega
    rw [h2, Bool.and_true]
  have hM : ∃ M : MsgD, X.hasAt a b i = true → ∃ cs, (X.q a.toNat b.toNat)[i.toNat]? = some cs ∧ MsgIn w (fun q => q < w.heap.size) cs M ∧ ∃ m : RM, (flt l a b)[i.toNat]? = some m ∧ MsgIn w (Old w0) m.c M ∧ MsgTy M := by
    cases hh : X.hasAt a b i with
    | false => exact ⟨default, fun h => by cases h⟩
    | true =>
      have hl := (show isLink X.n a b = true by unfold Nx.hasAt at hh; simp only [Bool.and_eq_true] at hh; exact hh.1)
      obtain ⟨_, h0, h1⟩ : isLink X.n a b = true ∧ 0 ≤ i ∧ i < (X.q a.toNat b.toNat).length := by
        unfold Nx.hasAt at hh; simp only [Bool.and_eq_true, decide_eq_true_eq] at hh; exact ⟨hl, hh.2.1, hh.2.2⟩
      have hlen := h.sim.len a b hl
      obtain ⟨c, hc⟩ : ∃ c, (X.q a.toNat b.toNat)[i.toNat]? = some c := ⟨(X.q a.toNat b.toNat)[i.toNat]'(by omega), List.getElem?_eq_getElem _⟩
      obtain ⟨m, hm⟩ : ∃ m, (flt l a b)[i.toNat]? = some m := ⟨(flt l a b)[i.toNat]'(by omega), List.getElem?_eq_getElem _⟩
      obtain ⟨M, q1, q2, q3⟩ := h.sim.par a b hl _ c m hc hm
      exact ⟨M, fun _ => ⟨c, hc, q1.keep (fun q hq _ => hq.1) (fun _ _ _ => rfl), m, hm, q2, q3⟩⟩
  obtain ⟨M, hM⟩ := hM
  refine ⟨M, fun ht => ?_, fun e1 w1 p1 => ?_⟩
  · obtain ⟨cs, h1, h2, _⟩ := hM (by rw [← htw]; exact ht)
    exact ⟨cs, h1, h2⟩
  obtain ⟨S1, X1, rfl, hn, hf, hno, hyes⟩ := p1
  refine ⟨rfl, h.sim.mid hf, fun e2 w2 p2 => ?_⟩
  obtain ⟨r, hat, rfl, T2, L2, hr, hrf⟩ := p2
  have hh := h.sim.has hat
  refine ⟨by rw [htw, hh], ?_, KeptB.mk' hf hrf⟩
  cases r with
  | none =>
    obtain ⟨rfl, rfl⟩ := hno (by rw [htw, hh]; rfl)
    exact ⟨_, _, _, _, _, _, _, h.sim.none hn hf hr hrf, h.n20, by have := h.ll; omega, by have := h.lc; omega, fun i j => by have := h.lq i j; omega⟩
  | some q =>
    obtain ⟨c, rfl, hw⟩ := hyes (by rw [htw, hh]; rfl)
    obtain ⟨cs, hc, _, m', hm', hMm, hMt⟩ := hM hh
    have hl := h.at_link hat
    obtain ⟨j, m, rfl, hm, hma, hmb, hj, _, _, hmem⟩ := at_some hat
    rw [Int.toNat_natCast, hj] at hm'
    obtain rfl : m = m' := Option.some.inj hm'
    have hyw : y < w.heap.size := h.sim.ref.lt y h.sim.ref.ty
    have hr' : RefIn w2 T2 y X.n L2 C (l ++ [m]) cuts := by
      have : (l[q]?).toList = [m] := by rw [hm]; rfl
      rw [← this]; exact hr
    have hp : Pair w1 S1 y (Old w0) c m := ⟨M, hw.to.keep (fun q hq _ => ⟨hq.2.1, fun e => e.elim hq.2.2 (fun e => by have := hq.1; omega)⟩) (fun _ _ _ => rfl),
      hMm.keep (fun _ h _ => h) (fun q hq hl => hf.block q hl (fun hs => h.sim.old q hq (.inl hs))), hMt⟩
    subst hma hmb
    have hlq : ∀ i j, ((X.push m.f m.t c).q i j).length ≤ k + 1 := lq_set h.lq (by rw [List.length_append]; have := h.lq m.f.toNat m.t.toNat; simpa using this)
    exact ⟨_, _, _, _, _, _, _, h.sim.push hl hn hf hr' hrf hp, h.n20, by rw [List.length_append]; have := h.ll; simpa using this, by have := h.lc; omega, hlq⟩

def zM : MsgD := ⟨zMsg, [], 0, []⟩
theorem zmsg_in (w : World) (O : Nat → Prop) : MsgIn w O zMsg zM :=
  ⟨rfl, List.all_eq_true.1 (show zMsg.all (·.oneCell') = true by decide +kernel), rfl, nilS, nilS, rfl, rfl, ⟨none, 0, [], rfl, by simp [zM], rfl, fun j _ _ h => by simp at h, fun h => absurd h (Nat.lt_irrefl _)⟩,
    none, 0, rfl, rfl, by simp [zM], by simp [zM], fun u hu => by simp [zM] at hu, fun h => absurd h (Nat.lt_irrefl _)⟩
theorem zmsg_ty : MsgTy zM := by
  refine ⟨All2.mk rfl (fun j K hj => ?_), fun E hE => by simp [zM] at hE, fun u hu => by simp [zM] at hu⟩
  have hj' : j < 34 := (List.getElem?_eq_some_iff.1 hj).1
  have hall : (List.range 34).all (fun j => match K42[j]?, zM.sc[j]? with | some (.int .i64), some (.int .i64 _) => true | some .str, some (.string _) => true | some .sl, some (.slice _ _ _) => true | _, _ => false) = true := by decide +kernel
  have h1 := List.all_eq_true.1 hall j (List.mem_range.2 hj')
  rw [hj] at h1
  split at h1
  · rename_i n e1 e2; simp only [Option.some.injEq] at e1; subst e1; exact ⟨_, e2, _, rfl⟩
  · rename_i n e1 e2; simp only [Option.some.injEq] at e1; subst e1; exact ⟨_, e2, _, rfl⟩
  · rename_i n e1 e2 e3 e4; simp only [Option.some.injEq] at e3; subst e3; exact ⟨_, e4, _, _, _, rfl⟩
  · cases h1
/-- two messages that read alike -/
def Alike2 (w : World) (c1 c2 : List Value) : Prop := ∃ M, MsgIn w (fun q => q < w.heap.size) c1 M ∧ MsgIn w (fun q => q < w.heap.size) c2 M ∧ MsgTy M
theorem alike_z (w : World) : Alike2 w zMsg zMsg := ⟨zM, zmsg_in _ _, zmsg_in _ _, zmsg_ty⟩
theorem Alike2.up {a b : World} {c1 c2 : List Value} (h : Alike2 a c1 c2) (hb : Below a.heap.size a b) : Alike2 b c1 c2 := by
  obtain ⟨M, h1, h2, h3⟩ := h
  exact ⟨M, h1.keep (fun q hq _ => Nat.lt_of_lt_of_le hq hb.size) (fun q _ hl => hb.block q hl), h2.keep (fun q hq _ => Nat.lt_of_lt_of_le hq hb.size) (fun q _ hl => hb.block q hl), h3⟩
theorem fr_chain {w W1 w5 V w6 w7 : World} {S T T2 : Nat → Prop} {y B10 B11 : Nat} (hb1 : Below w.heap.size w W1) (hf : Fr S S W1 w5) (h10 : Only B10 w5 V) (l10 : w.heap.size ≤ B10) (hr : RFr T T2 y V w6) (h11 : Only B11 w6 w7) (l11 : w.heap.size ≤ B11) :
    Fr (fun k => S k ∨ k = y) (fun k => S k ∨ k = y) w w7 := by
  have s1 := hb1.size
  have s2 := hf.size
  have s3 := h10.size
  have s4 := hr.1.size
  have s5 := h11.size
  refine ⟨?_, ?_, ?_, by omega, fun k hk hn => ?_, fun k hk => .inl hk⟩
  · exact h11.os.trans (hr.1.os.trans (h10.os.trans (hf.os.trans hb1.os)))
  · exact h11.tape.trans (hr.1.tape.trans (h10.tape.trans (hf.tape.trans hb1.tape)))
  · exact h11.output.trans (hr.1.output.trans (h10.output.trans (hf.output.trans hb1.output)))
  · rw [h11.block k (by omega), hr.1.block k (by omega) (fun e => hn (.inr e)), h10.block k (by omega), hf.block k (by omega) (fun e => hn (.inl e)), hb1.block k hk]
theorem Sim.step2 {w0 w w2 : World} {S S1 T T2 : Nat → Prop} {x y : Nat} {X X1 : Nx} {L C L2 C2 : Value} {l l2 : List RM} {cuts : List (Int × Int)} (h : Sim w0 w S T x y X L C l cuts) (hn : NetOk w2 S1 x X1) (hf : Fr (fun k => S k ∨ k = y) (fun k => S1 k ∨ k = y) w w2) (hr : RefIn w2 T2 y X1.n L2 C2 l2 cuts) (st : ∀ k, S1 k → T2 k → False)
    (hX : X1.n = X.n) (hO : X1.off = X.off) (lk : ∀ m ∈ l2, isLink X.n m.f m.t = true) (len : ∀ a b : Int, isLink X.n a b = true → (X1.q a.toNat b.toNat).length = (flt l2 a b).length)
    (par : ∀ a b : Int, isLink X.n a b = true → ∀ (p : Nat) (c : List Value) (m : RM), (X1.q a.toNat b.toNat)[p]? = some c → (flt l2 a b)[p]? = some m → Pair w S y (Old w0) c m) (tot : X1.total = l2.length) : Sim w0 w2 S1 T2 x y X1 L2 C2 l2 cuts := by
  have hold := h.old
  refine ⟨⟨hn, fun k hk => ?_, ⟨hf.os.trans h.inv.2.2.os, hf.tape.trans h.inv.2.2.tape, hf.output.trans h.inv.2.2.output, Nat.le_trans h.inv.2.2.size hf.size, fun k hk => ?_⟩⟩, hr, st, h.yl, by rw [hX]; exact lk, by rw [hX]; exact len, by rw [hX]; exact fun a b hl p c m h1 h2 => (par a b hl p c m h1 h2).fr hf hold, by rw [hX, hO]; exact h.off, by rw [hX]; exact h.ofl, tot⟩
  · rcases hf.new k (.inl hk) with hs | hs
    · rcases hs with hs | hs
      · exact h.inv.2.1 k hs
      · rw [hs]; exact h.yl
    · exact Nat.le_trans h.inv.2.2.size hs
  · rw [hf.block k (Nat.lt_of_lt_of_le hk h.inv.2.2.size) (hold k hk)]
    exact h.inv.2.2.block k hk
theorem t_take {w0 w W1 w5 : World} {S T : Nat → Prop} {x y k : Nat} {X : Nx} {L C : Value} {l : List RM} {cuts : List (Int × Int)} (h : TS w0 w S T x y X L C l cuts k) (hb1 : Below w.heap.size w W1) (a b i : Int) {e1 : Ending} (p1 : TakePost W1 S x X a b i (X.hasAt a b i) e1 w5) :
    ∃ c1, e1 = .returned (.tuple #[.agg c1.toArray, .bool (X.hasAt a b i)]) ∧ (c1.length = 34 ∧ ∀ u ∈ c1, u.oneCell' = true) ∧ W1.heap.size ≤ w5.heap.size ∧ (∀ B, w.heap.size ≤ B → B < W1.heap.size → w5.heap[B]? = W1.heap[B]?) ∧
      ∀ B10 V, Only B10 w5 V → w.heap.size ≤ B10 → RefIn V T y X.n L C l cuts ∧ ∀ e2 w6, RTakePost V T y X.n C l cuts a b i e2 w6 →
        ∃ c2, e2 = .returned (.tuple #[.agg c2.toArray, .bool (X.hasAt a b i)]) ∧ (c2.length = 34 ∧ ∀ u ∈ c2, u.oneCell' = true) ∧ V.heap.size ≤ w6.heap.size ∧ (∀ B, B < V.heap.size → B ≠ y → w6.heap[B]? = V.heap[B]?) ∧
          ∀ B11 w7, Only B11 w6 w7 → w.heap.size ≤ B11 → B11 < V.heap.size → TSt w0 x y (k + 1) w7 ∧ Alike2 w7 c1 c2 := by
  obtain ⟨X1, c1, rfl, hn, hf, hl1, ho1, hno, hyes⟩ := p1
  have hS := h.sim.inv.1.1
  have hTl := h.sim.ref.lt
  refine ⟨c1, rfl, ⟨hl1, ho1⟩, hf.size, fun B hB hlt => hf.block B hlt (fun hs => by have := hS B hs; omega), fun B10 V h10 l10 => ?_⟩
  have s1 := hb1.size
  have s2 := hf.size
  have s3 := h10.size
  have hfV : Fr S S w V := ⟨h10.os.trans (hf.os.trans hb1.os), h10.tape.trans (hf.tape.trans hb1.tape), h10.output.trans (hf.output.trans hb1.output), by omega, fun q hq hq' => by rw [h10.block q (by omega), hf.block q (by omega) hq', hb1.block q hq], fun q hq => .inl hq⟩
  refine ⟨h.sim.mid hfV, fun e2 w6 p2 => ?_⟩
  obtain ⟨r, c2, hat, rfl, hc, hl2, ho2, T2, L2, hr, hrf⟩ := p2
  have hh := h.sim.has hat
  refine ⟨c2, by rw [hh], ⟨hl2, ho2⟩, hrf.1.size, fun B hB hy => hrf.1.block B hB hy, fun B11 w7 h11 l11 b11 => ?_⟩
  have hfc := fr_chain hb1 hf h10 l10 hrf h11 l11
  have hyw := hTl y h.sim.ref.ty
  have hSy : ¬ S y := fun hs => h.sim.st y hs h.sim.ref.ty
  have hnV : NetOk V S x X1 := hn.keep (by omega) (fun q hq hl => h10.block q (by have := hS q hq; omega))
  have hn7 : NetOk w7 S x X1 := hnV.keep (by have := hrf.1.size; have := h11.size; omega) (fun q hq hl => by
    have := hS q hq
    rw [h11.block q (by omega), hrf.1.block q hl (fun e => hSy (by rw [← e]; exact hq))])
  have hr7 := hr.keep (w' := w7) (by rw [h11.size]; exact Nat.le_refl _) (fun q hq hl => h11.block q (fun e => by
    rcases hrf.2 q hq with h' | h'
    · have := hTl q h'; omega
    · omega))
  have st7 : ∀ q, S q → T2 q → False := fun q hs ht => by
    rcases hrf.2 q ht with h' | h'
    · exact h.sim.st q hs h'
    · have := hS q hs; omega
  have hs7 : w0.heap.size ≤ w7.heap.size := by have := h.sim.inv.2.2.size; have := hfc.size; omega
  cases r with
  | none =>
    have hc' : c2 = zMsg := hc
    obtain rfl := (hno hh).1
    rw [hc', (hno hh).2]
    have hr8 : RefIn w7 T2 y X1.n L2 C l cuts := hr7
    exact ⟨⟨_, _, _, _, _, _, _, h.sim.step2 hn7 hfc hr8 st7 rfl rfl h.sim.lk h.sim.len h.sim.par h.sim.tot, h.n20, by have := h.ll; omega, by have := h.lc; omega, fun i j => by have := h.lq i j; omega⟩, alike_z _⟩
  | some q =>
    obtain ⟨m', hm', rfl⟩ := hc
    have hl := h.at_link hat
    obtain ⟨j, m, rfl, hm, hma, hmb, hj, he, hother, hmem⟩ := at_some hat
    rw [hm] at hm'
    obtain rfl : m = m' := Option.some.inj hm'
    have hc1 := (hyes hh).2
    obtain rfl := (hyes hh).1
    rw [Int.toNat_natCast] at hc1
    have hlen := h.sim.len a b hl
    have hjl := (List.getElem?_eq_some_iff.1 hj).1
    obtain ⟨M, q1, q2, q3⟩ := h.sim.par a b hl j c1 m hc1 hj
    have hle : (l.eraseIdx q).length ≤ l.length := by rw [List.length_eraseIdx]; split <;> omega
    have hr8 : RefIn w7 T2 y (X.pop a b j).n L2 C (l.eraseIdx q) cuts := hr7
    refine ⟨⟨_, _, _, _, _, _, _, h.sim.step2 hn7 hfc hr8 st7 rfl rfl (fun q hq => h.sim.lk q (List.mem_of_mem_eraseIdx hq)) (fun a' b' hab => ?_) (fun a' b' hab p c' m' h1 h2 => ?_) ?_, h.n20, by have := h.ll; omega, by have := h.lc; omega, lq_set h.lq (by have := h.lq a.toNat b.toNat; rw [List.length_eraseIdx]; split <;> omega)⟩,
      M, (q1.fr hfc).keep (fun q hq _ => hq.1) (fun _ _ _ => rfl), q2.keep (fun q hq _ => Nat.lt_of_lt_of_le hq hs7) (fun q hq hlt => hfc.block q hlt (h.sim.old q hq)), q3⟩
    · rw [pop_q hab hl]
      by_cases e : a' = a ∧ b' = b
      · rw [if_pos e, e.1, e.2, he, Int.toNat_natCast, List.length_eraseIdx_of_lt (by omega), List.length_eraseIdx_of_lt hjl, hlen]
      · rw [if_neg e, hother a' b' e, h.sim.len a' b' hab]
    · rw [pop_q hab hl] at h1
      by_cases e : a' = a ∧ b' = b
      · rw [if_pos e, Int.toNat_natCast] at h1
        rw [e.1, e.2] at h1
        rw [e.1, e.2, he] at h2
        rw [List.getElem?_eraseIdx] at h1 h2
        split at h1
        · rename_i hpj
          rw [if_pos hpj] at h2
          exact h.sim.par a b hl p c' m' h1 h2
        · rename_i hpj
          rw [if_neg hpj] at h2
          exact h.sim.par a b hl (p + 1) c' m' h1 h2
      · rw [if_neg e] at h1
        rw [hother a' b' e] at h2
        exact h.sim.par a' b' hab p c' m' h1 h2
    · obtain ⟨hi, hj'⟩ := isLink_lt hl
      have := total_set X ((X.q a.toNat b.toNat).eraseIdx j) hi hj'
      rw [List.length_eraseIdx_of_lt (by omega)] at this
      have hkl := (List.getElem?_eq_some_iff.1 hm).1
      rw [List.length_eraseIdx_of_lt hkl]
      have htt := h.sim.tot
      show (X.set a.toNat b.toNat ((X.q a.toNat b.toNat).eraseIdx (j : Int).toNat)).total = _
      rw [Int.toNat_natCast]
      omega
theorem t_cut {w0 w : World} {S T : Nat → Prop} {x y k : Nat} {X : Nx} {L C : Value} {l : List RM} {cuts : List (Int × Int)} (h : TS w0 w S T x y X L C l cuts k) (a b : Int) (o : Bool) {w1 : World} (hn : NetOk w1 S x (X.cut a b o)) (hf : Fr S S w w1) :
    RefIn w1 T y X.n L C l cuts ∧ ∀ e2 w2, RCutPost w1 T y X.n L l cuts a b o e2 w2 → e2 = .returned (.bool (isLink X.n a b)) ∧ TSt w0 x y (k + 1) w2 ∧ KeptB S y w w2 := by
  refine ⟨h.sim.mid hf, fun e2 w2 p2 => ?_⟩
  obtain ⟨rfl, T2, C2, hr, hrf⟩ := p2
  have hcq : (X.cut a b o).q = X.q := by unfold Nx.cut; split <;> rfl
  have hcn : (X.cut a b o).n = X.n := by unfold Nx.cut; split <;> rfl
  have hk : (keepC cuts a b cuts.length).length ≤ cuts.length := keepC_le _ _ _ _
  refine ⟨rfl, ⟨_, _, _, _, _, _, _, h.sim.cut hn hf hr hrf, by rw [hcn]; exact h.n20, by have := h.ll; omega, ?_, fun i j => by rw [hcq]; have := h.lq i j; omega⟩, KeptB.mk' hf hrf⟩
  have := h.lc
  unfold rcuts
  split
  · rw [List.length_append]; split <;> simp <;> omega
  · omega
end
end Go.Proofs.Ytdkpgjhjdnfieaa
