/- Plain facts on the distances of plans, and on what a plan leaves in memory. -/
import Derived.Test.YthbnnifkoomokaaI
set_option linter.unusedVariables false
set_option linter.unusedSimpArgs false
namespace Go.Proofs.Ythbnnifkoomokaa
open Go.RowKit Go.Mf

theorem shl_run (s : Int) (h0 : 0 ≤ s) (h1 : s ≤ 10) : ∃ q : Int, (1 ≤ q ∧ q ≤ 1024) ∧ min q 16 = pw s ∧ ∀ w, (binOp .shl 3 (.int .i64 1) (.int .i64 s)).run Try.prog w = .ok (.int .i64 q) w := by
  have hs : s = 0 ∨ s = 1 ∨ s = 2 ∨ s = 3 ∨ s = 4 ∨ s = 5 ∨ s = 6 ∨ s = 7 ∨ s = 8 ∨ s = 9 ∨ s = 10 := by omega
  rcases hs with rfl | rfl | rfl | rfl | rfl | rfl | rfl | rfl | rfl | rfl | rfl
  · exact ⟨1, by omega, by decide, fun w => by kernel_rfl⟩
  · exact ⟨2, by omega, by decide, fun w => by kernel_rfl⟩
  · exact ⟨4, by omega, by decide, fun w => by kernel_rfl⟩
  · exact ⟨8, by omega, by decide, fun w => by kernel_rfl⟩
  · exact ⟨16, by omega, by decide, fun w => by kernel_rfl⟩
  · exact ⟨32, by omega, by decide, fun w => by kernel_rfl⟩
  · exact ⟨64, by omega, by decide, fun w => by kernel_rfl⟩
  · exact ⟨128, by omega, by decide, fun w => by kernel_rfl⟩
  · exact ⟨256, by omega, by decide, fun w => by kernel_rfl⟩
  · exact ⟨512, by omega, by decide, fun w => by kernel_rfl⟩
  · exact ⟨1024, by omega, by decide, fun w => by kernel_rfl⟩

theorem pw_big {s : Int} (h : 10 ≤ s) : pw s = pw 10 := by
  unfold pw; rw [if_neg (by omega), if_neg (by omega), if_neg (by omega), if_neg (by omega)]; decide

theorem bump_box {w w' : World} {lo hi b bp bs : Nat} {pb : Int → Nat} {X : Bx} (h : BoxIn w lo hi b bp bs pb X) {p now : Int} {st : Int × Int} (hk : X.peers p = some st)
    (h1 : w'.heap[pb p]? = some (.cells #[.int .i64 (now + pw st.2), .int .i64 (st.2 + 1)] 53 (0, 0))) (h2 : ∀ j, lo ≤ j → j < hi → j ≠ pb p → w'.heap[j]? = w.heap[j]?) (h3 : w.heap.size ≤ w'.heap.size) :
    BoxIn w' lo hi b bp bs pb (X.bump p now) := by
  obtain ⟨es, clock, ll, hbp, _⟩ := h.hp
  obtain ⟨es2, clock2, ll2, hbs, _⟩ := h.hs
  have hck := h.hc p st hk
  have hsome : ∀ j, ((X.bump p now).peers j).isSome = (X.peers j).isSome := by
    intro j; unfold Bx.bump
    by_cases e : j = p
    · simp [e]
    · simp [e]
  exact {
    hb := (h2 b h.rb.1 h.rb.2 (heap_ne (w := w) (by rw [h.hb, hck]; simp))).trans h.hb
    hp := by
      have : pk pb (X.bump p now) = pk pb X := by
        funext j; unfold pk
        have := hsome j
        cases h4 : X.peers j <;> cases h5 : (X.bump p now).peers j <;> simp_all
      rw [this]
      exact h.hp.of_heap (h2 bp h.rp.1 h.rp.2 (heap_ne (w := w) (by rw [hbp, hck]; simp)))
    hs := h.hs.of_heap (h2 bs h.rs.1 h.rs.2 (heap_ne (w := w) (by rw [hbs, hck]; simp)))
    hc := fun j s hj => by
      by_cases e : j = p
      · subst e
        have : s = (now + pw st.2, st.2 + 1) := by simpa [Bx.bump, hk] using hj.symm
        subst this; exact h1
      · have hj' : X.peers j = some s := by simpa [Bx.bump, e] using hj
        have r := h.rc j (by rw [hj']; rfl)
        exact (h2 (pb j) r.1 r.2 (fun e2 => e (h.inj j p (by rw [hj']; rfl) (by rw [hk]; rfl) e2))).trans (h.hc j s hj')
    inj := fun i j hi' hj' => h.inj i j (by rw [← hsome]; exact hi') (by rw [← hsome]; exact hj')
    hps := h.hps
    rb := h.rb
    rp := h.rp
    rs := h.rs
    rc := fun j hj => h.rc j (by rw [← hsome]; exact hj)
    top := Nat.le_trans h.top h3 }

theorem ownsRow_below {w w' : World} {base : Nat} {e : TypeId} {size : Nat} {v : Value} {n : Nat} {xs : List Value} (h : w.ownsRow base e size v n xs) (hb : Below w.heap.size w w') : w'.ownsRow base e size v n xs :=
  h.kept (row := none) ⟨hb.os, hb.tape, hb.output, hb.size, fun k hk _ => hb.block k hk⟩ (by cases v.ownBlock <;> simp)

def PlanPost (w : World) (lo hi b : Nat) (r : List Snd × Bx) : Ending → World → Prop := fun e w' =>
  ∃ u, e = .returned u ∧ w'.ownsRow w.heap.size 34 4 u r.1.length (flat r.1) ∧ BoxAt w' lo hi b r.2 ∧ Upd lo hi w w'

theorem clamp_clamp (x : Int) : clamp (clamp x 0 1099511627776) 0 1099511627776 = clamp x 0 1099511627776 := by unfold clamp; repeat' split <;> omega
theorem clamp_bounds (x : Int) : 0 ≤ clamp x 0 1099511627776 ∧ clamp x 0 1099511627776 ≤ 1099511627776 := by unfold clamp; repeat' split <;> omega

theorem i34 : ∃ i, Try.prog.info? 34 = some i ∧ i.zero = some (.agg #[.int .i64 0, .int .i64 0, .int .i64 0, .int .i64 0]) ∧ i.size = 4 ∧ i.bytes = 32 := by
  obtain ⟨i0, hi, hz0, hz1, hz2⟩ := info_parts info34
  exact ⟨i0, hi, hz0, hz1, hz2⟩
theorem flat_one (l : List Snd) : ∀ u ∈ flat l, u.oneCell' = true := by
  intro u hu
  simp only [flat, List.mem_flatMap] at hu
  obtain ⟨s, _, hs⟩ := hu
  exact sndCells_one s u hs
theorem flat_append (l l' : List Snd) : flat (l ++ l') = flat l ++ flat l' := by simp [flat]
theorem cells_own {W : World} {base : Nat} {e : TypeId} {size g ll cap : Nat} {xs : List Value} (h : W.ownsRow base e size (.slice (some ⟨g, 0, none⟩) ll cap) ll xs) : ∀ (j : Nat) (u : Value), xs[j]? = some u → W.cell? ⟨g, j, none⟩ = some u := by
  intro j u hu
  have := h.cells (g := g) rfl j u hu
  have hadd : (⟨g, 0, none⟩ : Addr).add j = ⟨g, j, none⟩ := by unfold Addr.add; split <;> simp_all
  rwa [hadd] at this

theorem sh_val (s : Int) (h0 : 0 ≤ s) (h1 : s ≤ 10) : (1 ≤ wrap64 (2 ^ s.toNat) ∧ wrap64 (2 ^ s.toNat) ≤ 1024) ∧ min (wrap64 (2 ^ s.toNat)) 16 = pw s := by
  have hs : s = 0 ∨ s = 1 ∨ s = 2 ∨ s = 3 ∨ s = 4 ∨ s = 5 ∨ s = 6 ∨ s = 7 ∨ s = 8 ∨ s = 9 ∨ s = 10 := by omega
  rcases hs with rfl | rfl | rfl | rfl | rfl | rfl | rfl | rfl | rfl | rfl | rfl <;> decide +kernel

theorem sh_cases (s : Int) (h0 : 0 ≤ s) : (∃ q, s ≤ 10 ∧ wrap64 (2 ^ s.toNat) = q ∧ 16 < q ∧ q ≤ 1024 ∧ pw s = 16) ∨ (∃ q, s ≤ 10 ∧ wrap64 (2 ^ s.toNat) = q ∧ 1 ≤ q ∧ q ≤ 16 ∧ pw s = q) ∨ (10 < s ∧ pw s = 16) := by
  by_cases h : s ≤ 10
  · have := sh_val s h0 h
    by_cases h2 : 16 < wrap64 (2 ^ s.toNat)
    · exact .inl ⟨_, h, rfl, h2, by omega, by omega⟩
    · exact .inr (.inl ⟨_, h, rfl, by omega, by omega, by omega⟩)
  · exact .inr (.inr ⟨by omega, by rw [pw_big (by omega)]; decide⟩)

theorem plan_bump {w2 w4 : World} {lo hi b bp bs : Nat} {pb : Int → Nat} {X : Bx} (h : BoxIn w2 lo hi b bp bs pb X) {k t : Int} {pd pu : Int} (hk : X.peers k = some (pd, pu)) {x y : Int} (hx : x = pu + 1) (hy : y = t + pw pu)
    {row : Option Nat} (hg : ((w2.setCell ⟨pb k, 1, none⟩ (.int .i64 x)).setCell ⟨pb k, 0, none⟩ (.int .i64 y)).grownBy w4 row) (hrow : ∀ j, row = some j → hi ≤ j) : BoxIn w4 lo hi b bp bs pb (X.bump k t) := by
  subst hx; subst hy
  have hc := h.hc k (pd, pu) hk
  have hr := h.rc k (by rw [hk]; rfl)
  have ht := h.top
  have e1 := setCell_block hc 1 (.int .i64 (pu + 1))
  have e2 := setCell_block e1 0 (.int .i64 (t + pw pu))
  refine bump_box h hk ?_ ?_ ?_
  · rw [hg.block (pb k) (by simp only [World.size_setCell]; omega) (fun e => by have := hrow _ e.symm; omega), e2]; rfl
  · intro j h1 h2 hn
    rw [hg.block j (by simp only [World.size_setCell]; omega) (fun e => by have := hrow _ e.symm; omega), Below.heap_setCell _ _ _ _ hn, Below.heap_setCell _ _ _ _ hn]
  · have := hg.size; simpa only [World.size_setCell] using this

end Go.Proofs.Ythbnnifkoomokaa
