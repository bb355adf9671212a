/- NetApart, whatever its input: it returns true, and its input reads as it did. No condition. -/
import Derived.Test.YtdkpgjhjdnfieaaAi
import Derived.Test.YtdkpgjhjdnfieaaAd
set_option linter.unusedVariables false
set_option linter.unusedSimpArgs false
namespace Go.Proofs.Ytdkpgjhjdnfieaa
open Go.ChangeShapes Go.WideShapes Go.ChangeAt Go.RowKit Go.Mf

theorem own5 : ownKnob Try.prog.godebug = none := by kernel_rfl
theorem laidOut5 : laidOutB Try.prog = true := by kernel_rfl

theorem Reads.stepCells {H : Type} {enc : TypeId × Value → H} {w : World} {cs : List Value} (h : Reads enc w 44 cs) :
    ∃ (d f t i mf mt : Int) (ms : List Value) (M : MsgD), cs = Ytdkpgjhjdnfieaa.stepCells d f t i ms ∧ MsgIn w (Old w) ms M ∧ ms[1]? = some (.int .i64 mf) ∧ ms[2]? = some (.int .i64 mt) ∧ i64ok d := by
  have hl := (h.field Try.underlying44).1
  rw [cells44] at hl
  have h0 := h.sub Try.underlying44 0 0 3 1 rfl rfl rfl cells3
  have h1 := h.sub Try.underlying44 1 1 3 1 rfl rfl rfl cells3
  have h2 := h.sub Try.underlying44 2 2 3 1 rfl rfl rfl cells3
  have h3 := h.sub Try.underlying44 3 3 3 1 rfl rfl rfl cells3
  have h4 := h.sub Try.underlying44 4 4 42 34 rfl rfl rfl cells42
  obtain ⟨d, d1, d2⟩ := h0.intCell (by omega)
  obtain ⟨f, f1, f2⟩ := h1.intCell (by omega)
  obtain ⟨t, t1, t2⟩ := h2.intCell (by omega)
  obtain ⟨i, i1, i2⟩ := h3.intCell (by omega)
  obtain ⟨M, mf, mt, m1, m2, m3⟩ := h4.msg
  refine ⟨d, f, t, i, mf, mt, _, M, ?_, m1, m2, m3, d2⟩
  match cs, hl, d1, f1, t1, i1 with
  | a0 :: a1 :: a2 :: a3 :: r, hl, d1, f1, t1, i1 =>
    simp only [List.getElem?_cons_zero, List.getElem?_cons_succ, Option.some.injEq] at d1 f1 t1 i1
    subst d1 f1 t1 i1
    have hr : r.length = 34 := by simpa using hl
    unfold Ytdkpgjhjdnfieaa.stepCells
    simp [List.take_of_length_le (Nat.le_of_eq hr)]

set_option maxRecDepth 100000 in
theorem apart_lifted (os : Os) (started : os.Started) (H : Type) (enc : TypeId × Value → H) :
    ReturnsInHanded {} Try.checked os 5 .any (Rows.netApartSpec.pre6 enc Try.prog Try.f5 Rows.netApartRow.domain false) (Rows.netApartSpec.post enc Try.prog Try.f5 false true false false) := by
  refine returnsInHanded_of_change_sized (C := Try.checked) own5 started (by kernel_rfl) Try.func5
    (ChangeSpec.witness6 (enc := enc) (C := Try.checked) false ⟨#[], #[.slice none 0 0, .agg ((List.replicate 4 (Value.int .i64 0)) ++ zMsg).toArray], []⟩ 12 (by kernel_rfl) (by kernel_rfl) (by kernel_rfl) (by kernel_rfl)) ?_
  intro W base args ds gs before hval0 hW hcnd hsz0 _
  have hval : ∀ (j : Nat) t v, Try.f5.params[j]? = some t → args[j]? = some v → Value.okWide Try.prog W .any base t v := hval0
  have hsz : (DataW.weightsEach Try.prog (Try.f5.params.toList ++ Rows.netApartSpec.plain.varTypes Try.prog) (ds ++ gs)).all (· ≤ reachBytes) = true := hsz0
  have hW' := hW
  obtain ⟨p, q, hA0, hV, rfl, hfz, hnd⟩ := hW
  have hA : DataW.TrodAll enc Try.prog W 0 (fun _ => true) true Try.f5.params.toList args.toList ds p := hA0
  rw [Try.params5] at hA hval hsz
  obtain ⟨v0, vs0, d0, ds0, p0, q0, hargs, rfl, rfl, h0, r0⟩ := trodAll_cons hA
  obtain ⟨v1, vs1, d1, ds1, p1, q1, rfl, rfl, rfl, h1, r1⟩ := trodAll_cons r0
  obtain ⟨rfl, rfl, rfl⟩ := trodAll_nil r1
  obtain rfl : args = #[v0, v1] := by cases args; simp_all
  obtain ⟨rfl, rfl⟩ := trodVars_none hV
  have k0 := h0
  have k1 := h1
  have lt0 : ∀ x ∈ p0, x.block < W.heap.size := by obtain ⟨m, hm⟩ := k0; exact DataW.trod_lt m _ _ _ hm
  have lt1 : ∀ x ∈ p1, x.block < W.heap.size := by obtain ⟨m, hm⟩ := k1; exact DataW.trod_lt m _ _ _ hm
  obtain ⟨av, nv, cv, rfl⟩ := okWide_slice Try.underlying22 (hval 0 22 v0 rfl rfl)
  obtain ⟨cs, rfl, hcs⟩ := okWide_struct Try.underlying44 (hval 1 44 v1 rfl rfl)
  have hr0 : Reads enc W 22 [.slice av nv cv] := by
    obtain ⟨fuel, hf⟩ := h0
    refine ⟨fuel, _, hf, fun x hx => ?_⟩
    have := List.all_eq_true.1 hsz x (DataW.weights_mem_each (j := 0) rfl rfl x hx)
    simpa using this
  have hr1 : Reads enc W 44 cs.toList := by
    obtain ⟨fuel, hf⟩ := h1
    refine ⟨fuel, _, hf, fun x hx => ?_⟩
    have := List.all_eq_true.1 hsz x (DataW.weights_mem_each (j := 1) rfl rfl x hx)
    simpa using this
  obtain ⟨l, hl⟩ := hr0.steps
  obtain ⟨d, f, t, i, mf, mt, ms, M, hst, hM, hmf, hmt, hd⟩ := hr1.stepCells
  obtain rfl : cs = (stepCells d f t i ms).toArray := by rw [← hst]
  clear hA0 hval0 hsz0
  refine (apart_raw W (Old W) _ l d f t i mf mt ms M hl (fun k h => h) hM hmf hmt hd).mono fun e W' ⟨he, bel⟩ => ?_
  subst he
  exact ⟨_, rfl, _, _, _, [], _, [], hW', trodAll_mk1 (shut_bool Try.underlying4 _), (trodAll_cons_mk (Below.trod laidOut5 (by kernel_rfl) (of_decide_eq_true (by kernel_rfl)) k0 bel lt0) (trodAll_cons_mk (Below.trod laidOut5 (by kernel_rfl) (of_decide_eq_true (by kernel_rfl)) k1 bel lt1) trodAll_mk0)), rfl, bel.frame _, fun h => by cases h⟩

theorem apart_holds : Rows.NetApartSaid :=
  OpenClaim.holds_of_wide 5 Try.f5 rfl rfl rfl rfl rfl rfl rfl ⟨rfl, rfl, rfl, rfl, rfl⟩ rfl rfl rfl rfl rfl (by kernel_rfl) Try.func5 (by kernel_rfl)
    (of_decide_eq_true (by kernel_rfl)) (by unfold Func.isWrapper; first | (rw [if_pos (by decide +kernel)]; kernel_rfl) | (rw [if_neg (by decide +kernel)]; exact ⟨rfl, rfl⟩))
    (fun os started H enc _ => apart_lifted os started H enc)
#print axioms apart_holds
end Go.Proofs.Ytdkpgjhjdnfieaa
