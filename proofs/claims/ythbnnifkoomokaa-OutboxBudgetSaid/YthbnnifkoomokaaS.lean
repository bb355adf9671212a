/- OutboxMoves, whatever its input: it returns true, and its input reads as it did. No condition. -/
import Derived.Test.YthbnnifkoomokaaR
import Derived.ProofKit
import Derived.OpenShut
import Derived.ShutString
import Derived.ChangeOld
import Derived.Deep.Slices
set_option linter.unusedVariables false
set_option linter.unusedSimpArgs false
namespace Go.Proofs.Ythbnnifkoomokaa
open Go.ChangeShapes Go.WideShapes Go.ChangeAt Go.RowKit
open Go.Deep (open_slice)

theorem own : ownKnob Try.prog.godebug = none := by kernel_rfl
theorem laidOut : laidOutB Try.prog = true := by kernel_rfl
theorem cells41 : Try.prog.cellsOf 41 = 5 := by kernel_rfl
theorem cells3 : Try.prog.cellsOf 3 = 1 := by kernel_rfl

theorem addr_at {w : World} {a : Addr} {n : Nat} {v : Value} (h : w.cell? (a.add n) = some v) (h0 : a.spot = none) : w.cell? ⟨a.block, a.off + n, none⟩ = some v := by
  obtain ⟨b, o, s⟩ := a
  dsimp only at h0
  subst h0
  unfold Addr.add at h
  split at h
  · rename_i e; subst e; simpa using h
  · exact h

theorem int_field {H : Type} {enc : TypeId × Value → H} {w : World} {base : Nat} {spare : Nat → Bool} {held : Bool} {n : Nat} {cs : List Value} {x : DataW H × List MemPlace} {j : Nat} (hj : j < cs.length)
    (h : DataW.trod enc Try.prog w base spare held n 3 ((cs.drop j).take (Try.prog.cellsOf 3)) = some x) : ∃ k, cs[j]? = some (.int .i64 k) ∧ (Lit.int .i64 k).wf = true := by
  rw [cells3] at h
  obtain ⟨k, h1, _, h2⟩ := DataW.trod_int Try.underlying3 h
  rw [List.drop_eq_getElem_cons hj, List.take_succ_cons, List.take_zero] at h1
  simp only [List.cons.injEq, and_true] at h1
  exact ⟨k, by rw [List.getElem?_eq_getElem hj, h1], h2⟩

theorem acts_of_trod {H : Type} {enc : TypeId × Value → H} {w : World} {v : Value} {d : DataW H} {p : List MemPlace} {base : Nat} (hv : Value.okWide Try.prog w .any base 39 v)
    (h : DataW.Trod enc Try.prog w 0 (fun _ => true) true 39 v d p) : ∃ l, ActsAt w v l := by
  obtain ⟨a, len, cap, rfl⟩ := okWide_slice Try.underlying39 hv
  obtain ⟨fuel, hf⟩ := h
  rcases open_slice Try.underlying39 hf with ⟨hcs, _⟩ | ⟨a', len', cap', m, n, D, Pl, hcs, _, hl, hm, hmm, _, hi⟩
  · simp [Value.cells] at hcs
    obtain ⟨rfl, rfl, rfl⟩ := hcs
    exact ⟨[], _, _, rfl, by simp, fun h => absurd rfl h⟩
  · simp [Value.cells] at hcs
    obtain ⟨rfl, rfl, rfl⟩ := hcs
    simp only [if_true] at hmm
    have each : ∀ i, i < len → ∃ s : Act, w.cell? (a'.add (i * 5)) = some (.int .i64 s.do_) ∧ w.cell? ((a'.add (i * 5)).add 1) = some (.int .i64 s.peer) ∧ w.cell? ((a'.add (i * 5)).add 2) = some (.int .i64 s.log) ∧
        w.cell? ((a'.add (i * 5)).add 3) = some (.int .i64 s.n) ∧ w.cell? ((a'.add (i * 5)).add 4) = some (.int .i64 s.now) ∧ (-9223372036854775808 ≤ s.n ∧ s.n ≤ 9223372036854775807) := by
      intro i hil
      obtain ⟨cs', hc, ht'⟩ := hi i (by omega)
      rw [cells41] at hc
      obtain ⟨_, hcl, hat⟩ := World.cells?_some hc
      obtain ⟨xs, n', _, _, _, hxl, hf⟩ := DataW.trod_struct Try.underlying41 ht'
      have hx : ∀ j, j < 5 → ∃ x, xs[j]? = some x := fun j hj => ⟨xs[j]'(by rw [hxl]; exact hj), List.getElem?_eq_getElem _⟩
      obtain ⟨x0, hx0⟩ := hx 0 (by omega)
      obtain ⟨x1, hx1⟩ := hx 1 (by omega)
      obtain ⟨x2, hx2⟩ := hx 2 (by omega)
      obtain ⟨x3, hx3⟩ := hx 3 (by omega)
      obtain ⟨x4, hx4⟩ := hx 4 (by omega)
      obtain ⟨k0, g0, _⟩ := int_field (j := 0) (by omega) ((hf 0 _ rfl).trans hx0)
      obtain ⟨k1, g1, _⟩ := int_field (j := 1) (by omega) ((hf 1 _ rfl).trans hx1)
      obtain ⟨k2, g2, _⟩ := int_field (j := 2) (by omega) ((hf 2 _ rfl).trans hx2)
      obtain ⟨k3, g3, w3⟩ := int_field (j := 3) (by omega) ((hf 3 _ rfl).trans hx3)
      obtain ⟨k4, g4, _⟩ := int_field (j := 4) (by omega) ((hf 4 _ rfl).trans hx4)
      refine ⟨⟨k0, k1, k2, k3, k4⟩, ?_, ?_, ?_, ?_, ?_, Go.bounds_i64 w3⟩
      · have := hat 0 (by omega); rw [g0] at this; simpa [Addr.add] using this
      · exact (hat 1 (by omega)).trans g1
      · exact (hat 2 (by omega)).trans g2
      · exact (hat 3 (by omega)).trans g3
      · exact (hat 4 (by omega)).trans g4
    have hex : ∃ f : Nat → Act, ∀ i, i < len → w.cell? (a'.add (i * 5)) = some (.int .i64 (f i).do_) ∧ w.cell? ((a'.add (i * 5)).add 1) = some (.int .i64 (f i).peer) ∧ w.cell? ((a'.add (i * 5)).add 2) = some (.int .i64 (f i).log) ∧
        w.cell? ((a'.add (i * 5)).add 3) = some (.int .i64 (f i).n) ∧ w.cell? ((a'.add (i * 5)).add 4) = some (.int .i64 (f i).now) ∧ (-9223372036854775808 ≤ (f i).n ∧ (f i).n ≤ 9223372036854775807) := by
      classical
      refine ⟨fun i => if hi : i < len then Classical.choose (each i hi) else ⟨0, 0, 0, 0, 0⟩, fun i hi => ?_⟩
      simp only [dif_pos hi]
      exact Classical.choose_spec (each i hi)
    obtain ⟨f, hf⟩ := hex
    refine ⟨(List.range len).map f, some a', cap, by simp, by simpa [maxLen] using Nat.le_trans hl hm, fun hne => ?_⟩
    have hlen : 0 < len := by
      rcases Nat.eq_zero_or_pos len with h | h
      · subst h; simp at hne
      · exact h
    have hsp : a'.spot = none := by
      have := World.cell?_spot (hf 0 hlen).1
      simpa [Addr.add] using this
    refine ⟨a'.block, a'.off, by rw [← hsp], fun j hj => ?_⟩
    simp at hj
    obtain ⟨h0, h1, h2, h3, h4, h5⟩ := hf j hj
    refine ⟨f j, by simp [hj], addr_at h0 hsp, ?_, ?_, ?_, ?_, h5⟩
    all_goals
      rw [Nat.add_assoc]
      apply addr_at _ hsp
      rw [← Go.Deep.add_add]
      assumption

set_option maxRecDepth 100000 in
theorem moves_lifted (os : Os) (started : os.Started) (H : Type) (enc : TypeId × Value → H) :
    ReturnsInHanded {} Try.checked os 5 .any (Rows.outboxMovesSpec.pre6 enc Try.prog Try.f5 Rows.outboxMovesRow.domain false) (Rows.outboxMovesSpec.post enc Try.prog Try.f5 false true false false) := by
  refine returnsInHanded_of_change (C := Try.checked) own started (by kernel_rfl) Try.func5
    (ChangeSpec.witness6 (enc := enc) (C := Try.checked) false ⟨#[], #[.int .i64 0, .int .i64 0, .slice none 0 0], []⟩ 8 (by kernel_rfl) (by kernel_rfl) (by kernel_rfl) (by kernel_rfl)) ?_
  intro W base args ds gs before hval0 hW hcnd _
  have hval : ∀ (j : Nat) t v, Try.f5.params[j]? = some t → args[j]? = some v → Value.okWide Try.prog W .any base t v := hval0
  have hW' := hW
  obtain ⟨p, q, hA0, hV, rfl, hfz, hnd⟩ := hW
  have hA : DataW.TrodAll enc Try.prog W 0 (fun _ => true) true Try.f5.params.toList args.toList ds p := hA0
  rw [Try.params5] at hA hval
  obtain ⟨v0, vs0, d0, ds0, p0, q0, hargs, rfl, rfl, h0, r0⟩ := trodAll_cons hA
  obtain ⟨v1, vs1, d1, ds1, p1, q1, rfl, rfl, rfl, h1, r1⟩ := trodAll_cons r0
  obtain ⟨v2, vs2, d2, ds2, p2, q2, rfl, rfl, rfl, h2, r2⟩ := trodAll_cons r1
  obtain ⟨rfl, rfl, rfl⟩ := trodAll_nil r2
  obtain rfl : args = #[v0, v1, v2] := by cases args; simp_all
  obtain ⟨rfl, rfl⟩ := trodVars_none hV
  have k2 := h2
  have lt2 : ∀ x ∈ p2, x.block < W.heap.size := by obtain ⟨m, hm⟩ := k2; exact DataW.trod_lt m _ _ _ hm
  obtain ⟨l, hl⟩ := acts_of_trod (hval 2 39 v2 rfl rfl) h2
  obtain ⟨a0, rfl, rfl, rfl, w0⟩ := open_int Try.underlying3 (hval 0 3 v0 rfl rfl) h0
  obtain ⟨a1, rfl, rfl, rfl, w1⟩ := open_int Try.underlying3 (hval 1 3 v1 rfl rfl) h1
  clear hA0 hval0
  refine (moves_raw W a0 a1 v2 l hl).mono fun e W' ⟨he, bel⟩ => ?_
  subst he
  exact ⟨_, rfl, _, _, _, [], _, [], hW', trodAll_mk1 (shut_bool Try.underlying4 _), (trodAll_cons_mk (shut_int Try.underlying3 w0) (trodAll_cons_mk (shut_int Try.underlying3 w1) (trodAll_cons_mk (Below.trod laidOut (by kernel_rfl) (of_decide_eq_true (by kernel_rfl)) k2 bel lt2) trodAll_mk0))), rfl, bel.frame _, fun h => by cases h⟩

theorem moves_holds : Rows.OutboxMovesSaid :=
  OpenClaim.holds_of_wide 5 Try.f5 rfl rfl rfl rfl rfl rfl rfl ⟨rfl, rfl, rfl, rfl, rfl⟩ rfl rfl rfl rfl rfl (by kernel_rfl) Try.func5 (by kernel_rfl)
    (of_decide_eq_true (by kernel_rfl)) (by unfold Func.isWrapper; first | (rw [if_pos (by decide +kernel)]; kernel_rfl) | (rw [if_neg (by decide +kernel)]; exact ⟨rfl, rfl⟩))
    (fun os started H enc _ => moves_lifted os started H enc)
#print axioms moves_holds
end Go.Proofs.Ythbnnifkoomokaa
