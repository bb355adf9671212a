/- NetTells, whatever its input: it returns true, and its input reads as it did. No condition. -/
import Derived.Test.YtdkpgjhjdnfieaaBh
set_option linter.unusedVariables false
set_option linter.unusedSimpArgs false
namespace Go.Proofs.Ytdkpgjhjdnfieaa
open Go.ChangeShapes Go.WideShapes Go.ChangeAt Go.RowKit Go.Mf

theorem Reads.stepT {H : Type} {enc : TypeId × Value → H} {w : World} {cs : List Value} {b p : Nat} (h : Reads enc w 44 cs) (hc : ∀ j u, cs[j]? = some u → w.cell? ⟨b, p + j, none⟩ = some u) : ∃ s, StepIn w (Old w) b p s ∧ MsgTy s.m := by
  have hl := (h.field Try.underlying44).1
  rw [cells44] at hl
  have h0 := h.sub Try.underlying44 0 0 3 1 rfl rfl rfl cells3
  have h1 := h.sub Try.underlying44 1 1 3 1 rfl rfl rfl cells3
  have h2 := h.sub Try.underlying44 2 2 3 1 rfl rfl rfl cells3
  have h3 := h.sub Try.underlying44 3 3 3 1 rfl rfl rfl cells3
  have h4 := h.sub Try.underlying44 4 4 42 34 rfl rfl rfl cells42
  obtain ⟨d, d1, d2⟩ := h0.intCell (by omega)
  obtain ⟨f, f1, f2⟩ := h1.intCell (by omega)
  obtain ⟨t, t1, t2⟩ := h2.intCell (by omega)
  obtain ⟨i, i1, i2⟩ := h3.intCell (by omega)
  obtain ⟨M, mf, mt, m1, m2, m3, m4⟩ := h4.msgT
  refine ⟨⟨d, f, t, i, M, mf, mt⟩, ⟨hc 0 _ d1, hc 1 _ f1, hc 2 _ t1, hc 3 _ i1, d2, f2, t2, i2, _, fun j u hu => ?_, m1, m2, m3⟩, m4⟩
  rw [List.getElem?_take] at hu
  split at hu
  · rw [List.getElem?_drop] at hu
    rw [Nat.add_assoc]
    exact hc _ u hu
  · cases hu

theorem Reads.stepsT {H : Type} {enc : TypeId × Value → H} {w : World} {v : Value} (h : Reads enc w 22 [v]) : ∃ l, StepsIn w (Old w) v l ∧ ∀ s ∈ l, MsgTy s.m := by
  obtain ⟨a, n, c, rfl, hby, hn, css, hcss, hcell⟩ := h.rows Try.underlying22 cells44 (by omega)
  rcases Nat.eq_zero_or_pos n with h0 | hpos
  · subst h0
    exact ⟨[], ⟨a, c, rfl, by simp, fun h => absurd rfl h⟩, fun s hs => by simp at hs⟩
  · obtain ⟨b, o, h1, h2, h3⟩ := hcell hpos
    obtain ⟨s, hs⟩ := Go.Deep.choose_lt (α := StepD) (p := fun i s => StepIn w (Old w) b (o + i * 38) s ∧ MsgTy s.m) (fun i hi => (hcss i hi).2.stepT (fun j u hu => by rw [Nat.add_assoc]; exact h3 i hi j u hu))
    refine ⟨(List.range n).map s, ⟨a, c, by simp, by simpa [maxLen] using hn, fun _ => ⟨b, o, h1, h2, fun j t ht => ?_⟩⟩, fun t ht => ?_⟩
    · have hj : j < n := by have := (List.getElem?_eq_some_iff.1 ht).1; simpa using this
      rw [List.getElem?_map, List.getElem?_range hj] at ht
      simp only [Option.map_some, Option.some.injEq] at ht
      subst ht
      exact (hs j hj).1
    · obtain ⟨i, hi, rfl⟩ := List.mem_map.1 ht
      exact (hs i (List.mem_range.1 hi)).2

theorem own3 : ownKnob Try.prog.godebug = none := by kernel_rfl
theorem laidOut3 : laidOutB Try.prog = true := by kernel_rfl

set_option maxRecDepth 100000 in
theorem tells_lifted (os : Os) (started : os.Started) (H : Type) (enc : TypeId × Value → H) :
    ReturnsInHanded {} Try.checked os 3 .any (Rows.netTellsSpec.pre6 enc Try.prog Try.f3 Rows.netTellsRow.domain false) (Rows.netTellsSpec.post enc Try.prog Try.f3 false true false false) := by
  refine returnsInHanded_of_change_sized (C := Try.checked) own3 started (by kernel_rfl) Try.func3
    (ChangeSpec.witness6 (enc := enc) (C := Try.checked) false ⟨#[], #[.int .i64 0, .slice none 0 0], []⟩ 12 (by kernel_rfl) (by kernel_rfl) (by kernel_rfl) (by kernel_rfl)) ?_
  intro W base args ds gs before hval0 hW hcnd hsz0 _
  have hval : ∀ (j : Nat) t v, Try.f3.params[j]? = some t → args[j]? = some v → Value.okWide Try.prog W .any base t v := hval0
  have hsz : (DataW.weightsEach Try.prog (Try.f3.params.toList ++ Rows.netTellsSpec.plain.varTypes Try.prog) (ds ++ gs)).all (· ≤ reachBytes) = true := hsz0
  have hW' := hW
  obtain ⟨p, q, hA0, hV, rfl, hfz, hnd⟩ := hW
  have hA : DataW.TrodAll enc Try.prog W 0 (fun _ => true) true Try.f3.params.toList args.toList ds p := hA0
  rw [Try.params3] at hA hval hsz
  obtain ⟨v0, vs0, d0, ds0, p0, q0, hargs, rfl, rfl, h0, r0⟩ := trodAll_cons hA
  obtain ⟨v1, vs1, d1, ds1, p1, q1, rfl, rfl, rfl, h1, r1⟩ := trodAll_cons r0
  obtain ⟨rfl, rfl, rfl⟩ := trodAll_nil r1
  obtain rfl : args = #[v0, v1] := by cases args; simp_all
  obtain ⟨rfl, rfl⟩ := trodVars_none hV
  have k0 := h0
  have k1 := h1
  have lt0 : ∀ x ∈ p0, x.block < W.heap.size := by obtain ⟨m, hm⟩ := k0; exact DataW.trod_lt m _ _ _ hm
  have lt1 : ∀ x ∈ p1, x.block < W.heap.size := by obtain ⟨m, hm⟩ := k1; exact DataW.trod_lt m _ _ _ hm
  obtain ⟨n0, rfl⟩ := okWide_int Try.underlying3 (hval 0 3 v0 rfl rfl)
  obtain ⟨av, nv, cv, rfl⟩ := okWide_slice Try.underlying22 (hval 1 22 v1 rfl rfl)
  have hr1 : Reads enc W 22 [.slice av nv cv] := by
    obtain ⟨fuel, hf⟩ := h1
    refine ⟨fuel, _, hf, fun x hx => ?_⟩
    have := List.all_eq_true.1 hsz x (DataW.weights_mem_each (j := 1) rfl rfl x hx)
    simpa using this
  obtain ⟨l, hl, hT⟩ := hr1.stepsT
  clear hA0 hval0 hsz0
  refine (tells_raw W (Old W) n0 _ l hl (fun k h => h) hT).mono fun e W' ⟨he, bel⟩ => ?_
  subst he
  exact ⟨_, rfl, _, _, _, [], _, [], hW', trodAll_mk1 (shut_bool Try.underlying4 _), (trodAll_cons_mk (Below.trod laidOut3 (by kernel_rfl) (of_decide_eq_true (by kernel_rfl)) k0 bel lt0) (trodAll_cons_mk (Below.trod laidOut3 (by kernel_rfl) (of_decide_eq_true (by kernel_rfl)) k1 bel lt1) trodAll_mk0)), rfl, bel.frame _, fun h => by cases h⟩

theorem tells_holds : Rows.NetTellsSaid :=
  OpenClaim.holds_of_wide 3 Try.f3 rfl rfl rfl rfl rfl rfl rfl ⟨rfl, rfl, rfl, rfl, rfl⟩ rfl rfl rfl rfl rfl (by kernel_rfl) Try.func3 (by kernel_rfl)
    (of_decide_eq_true (by kernel_rfl)) (by unfold Func.isWrapper; first | (rw [if_pos (by decide +kernel)]; kernel_rfl) | (rw [if_neg (by decide +kernel)]; exact ⟨rfl, rfl⟩))
    (fun os started H enc _ => tells_lifted os started H enc)
#print axioms tells_holds
end Go.Proofs.Ytdkpgjhjdnfieaa
