/- The contracts of the reference's Send and Twice. Condition: the net and the message lie in memory as stated. -/
import Derived.Test.YtdkpgjhjdnfieaaBa
set_option linter.unusedVariables false
set_option linter.unusedSimpArgs false
namespace Go.Proofs.Ytdkpgjhjdnfieaa
open Go.RowKit Go.Mf
set_option maxRecDepth 100000

theorem RFr.refl (T : Nat → Prop) (y : Nat) (w : World) : RFr T T y w w := ⟨Fr.refl _ _, fun _ h => .inl h⟩
theorem RFr.trans {T T' T'' : Nat → Prop} {y : Nat} {a b c : World} (h : RFr T T' y a b) (k : RFr T' T'' y b c) : RFr T T'' y a c :=
  ⟨h.1.trans k.1, fun i hi => (k.2 i hi).elim (h.2 i) (fun h' => .inr (Nat.le_trans h.1.size h'))⟩
theorem RFr.of {T : Nat → Prop} {y : Nat} {a b : World} (h : Below a.heap.size a b) : RFr T T y a b := ⟨⟨h.os, h.tape, h.output, h.size, fun k hk _ => h.block k hk, fun _ h => .inl h⟩, fun _ h => .inl h⟩

def RSendPost (w : World) (T : Nat → Prop) (y n : Nat) (C : Value) (l l' : List RM) (cuts : List (Int × Int)) (ok : Bool) : Ending → World → Prop := fun e w' =>
  e = .returned (.bool ok) ∧ ∃ T' L', RefIn w' T' y n L' C (if ok = true then l' else l) cuts ∧ RFr T T' y w w'
def rsendOk (n : Nat) (cuts : List (Int × Int)) (a b : Int) : Bool := isLink n a b && !offOf cuts a b

set_option maxHeartbeats 1000000 in
theorem rsend_any {w : World} {T : Nat → Prop} {y n : Nat} {L C : Value} {l : List RM} {cuts : List (Int × Int)} (h : RefIn w T y n L C l cuts) (m : RM) (hm : m.c.length = 34 ∧ ∀ u ∈ m.c, u.oneCell' = true) (hft : m.c[1]? = some (.int .i64 m.f) ∧ m.c[2]? = some (.int .i64 m.t)) (hl : l.length ≤ 1000) (hcl : cuts.length ≤ 1000) :
    Calls Try.prog 14 #[.pointer (some ⟨y, 0, none⟩), .agg m.c.toArray] w (RSendPost w T y n C l (l ++ [m]) cuts (rsendOk n cuts m.f m.t)) := by
  obtain ⟨cs, hcs⟩ : ∃ cs, m.c = cs := ⟨_, rfl⟩
  obtain ⟨f, hf⟩ : ∃ f, m.f = f := ⟨_, rfl⟩
  obtain ⟨t, ht⟩ : ∃ t, m.t = t := ⟨_, rfl⟩
  obtain ⟨W, hW⟩ : ∃ W, W = w.alloc (.cells cs.toArray 42) := ⟨_, rfl⟩
  have hb0 : W.heap[w.heap.size]? = some (.cells cs.toArray 42 (0, 0)) := by rw [hW]; exact heap_alloc_new w _
  have hbw : Below w.heap.size w W := by rw [hW]; exact (Below.refl _ w).alloc (Nat.le_refl _) _
  have hRW := h.up hbw
  have hadd := radd_any hRW m hm hft (by omega)
  rw [hcs] at hadd
  have c1 : W.cell? ⟨w.heap.size, 1, none⟩ = some (.int .i64 f) := cell_at hb0 (by rw [← hcs, ← hf]; exact hft.1)
  have c2 : W.cell? ⟨w.heap.size, 2, none⟩ = some (.int .i64 t) := cell_at hb0 (by rw [← hcs, ← ht]; exact hft.2)
  have hno : Hid (RSendPost w T y n C l (l ++ [m]) cuts false (.returned (.bool false)) W) := ⟨rfl, T, L, hRW, RFr.of hbw⟩
  have hcnt := cnt_le l f t l.length
  have HIS := Lib.hid (ris_any hRW f t)
  have HOFF := Lib.hid (roff_any hRW (by omega) f t)
  have HLEN := Lib.hid (rlen_any hRW (by omega) f t)
  have HADD := Lib.hid hadd
  have HB0 := Lib.hid hb0
  have HBW := Lib.hid hbw
  have HCL : Hid (cs.toArray.size = 34) := by show cs.toArray.size = 34; rw [← hcs]; simpa using hm.1
  have HW : Hid (W = w.alloc (.cells cs.toArray 42)) := hW
  rw [hf, ht, hcs]
  obtain ⟨fs42, hu42⟩ := und42
  obtain ⟨ct, hct⟩ : ∃ c, cnt l f t l.length = c := ⟨_, rfl⟩
  rw [hct] at HLEN hcnt
  have hct2 : decide ((1024 : Int) ≤ (ct : Int)) = false := by simp; omega
  obtain ⟨il, hil⟩ : ∃ b, isLink n f t = b := ⟨_, rfl⟩
  obtain ⟨io, hio⟩ : ∃ b, offOf cuts f t = b := ⟨_, rfl⟩
  unfold rsendOk
  rw [hil, hio]
  rw [hil] at HIS
  rw [hio] at HOFF
  clear h hm hft hb0 hbw hRW hadd hW hcs hf ht hct hil hio
  go_enter Try.func14, Try.ntmps14
  go_upto_region 1 with fail
  change Code.wp _ _ _ _ (w.alloc (.cells cs.toArray 42))
  rw [← HW.out]
  clear HW
  go_wp2_with fail
  refine HIS.out.mono ?_
  rintro e w1 ⟨rfl, rfl⟩
  clear HIS
  cases il with
  | false =>
    go_wp2
    go_ret
    exact hno.out
  | true =>
    go_wp2_with fail
    refine HOFF.out.mono ?_
    rintro e w2 ⟨rfl, rfl⟩
    clear HOFF
    cases io with
    | true =>
      go_wp2
      go_ret
      exact hno.out
    | false =>
      go_wp2_with fail
      refine HLEN.out.mono ?_
      rintro e w3 ⟨rfl, rfl⟩
      clear HLEN
      go_wp2_with (refine wpList_load_row rfl 42 _ rfl w.heap.size rfl 42 cs.toArray (0, 0) _ HB0.out hu42 rfl ?i1 ?_; (case i1 => rw [HCL.out]; exact size42))
      refine HADD.out.mono ?_
      rintro e w4 ⟨rfl, T', L', hr, hfr⟩
      have HFIN : Hid (RSendPost w T y n C l (l ++ [m]) cuts true (.returned (.bool true)) w4) := ⟨rfl, T', L', hr, (RFr.of HBW.out).trans hfr⟩
      clear hr hfr HADD
      go_wp2
      go_ret
      exact HFIN.out

/-- the index of the i-th message from a to b, if there is one -/
def AtSpec (l : List RM) (a b i : Int) : Option Nat → Prop
  | none => ∀ (k : Nat) (m : RM), l[k]? = some m → m.is a b = true → (cnt l a b k : Int) ≠ i
  | some k => ∃ m, l[k]? = some m ∧ m.is a b = true ∧ (cnt l a b k : Int) = i
def RTwicePost (w : World) (T : Nat → Prop) (y n : Nat) (C : Value) (l : List RM) (cuts : List (Int × Int)) (a b i : Int) : Ending → World → Prop := fun e w' =>
  ∃ r, AtSpec l a b i r ∧ e = .returned (.bool r.isSome) ∧ ∃ T' L', RefIn w' T' y n L' C (match r with | none => l | some k => l ++ (l[k]?).toList) cuts ∧ RFr T T' y w w'

set_option maxHeartbeats 1000000 in
theorem rtwice_any {w : World} {T : Nat → Prop} {y n : Nat} {L C : Value} {l : List RM} {cuts : List (Int × Int)} (h : RefIn w T y n L C l cuts) (hl : l.length ≤ 1000) (a b i : Int) :
    Calls Try.prog 20 #[.pointer (some ⟨y, 0, none⟩), .int .i64 a, .int .i64 b, .int .i64 i] w (RTwicePost w T y n C l cuts a b i) := by
  have H := Lib.hid h
  have HAT := Lib.hid (rat_any h (by omega) a b i)
  have HLEN := Lib.hid (rlen_any h (by omega) a b)
  have hcnt := cnt_le l a b l.length
  obtain ⟨ct, hct⟩ : ∃ c, cnt l a b l.length = c := ⟨_, rfl⟩
  rw [hct] at HLEN hcnt
  have hct2 : decide ((1024 : Int) ≤ (ct : Int)) = false := by simp; omega
  obtain ⟨c0, c1, c2, ⟨aL, cL, rfl⟩, _⟩ := h.cells
  obtain ⟨ln, hln⟩ : ∃ n, l.length = n := ⟨_, rfl⟩
  have HLN := Lib.hid hln
  rw [hln] at c1 hl
  clear h hct hln
  obtain ⟨fs42, hu42⟩ := und42
  go_enter Try.func20, Try.ntmps20
  go_wp2_with fail
  refine HAT.out.mono ?_
  rintro e w1 ⟨rfl, hat⟩
  clear HAT
  rcases hat with ⟨rfl, hno⟩ | ⟨k, m, rfl, hm, his, hck⟩
  · have HFIN : Hid (RTwicePost w1 T y n C l cuts a b i (.returned (.bool false)) w1) := ⟨none, hno, rfl, T, _, H.out, RFr.refl _ _ _⟩
    clear hno HLEN
    by_cases hi : i < 0
    · have hi' : decide (i < 0) = true := by simpa using hi
      clear hi
      go_wp2
      go_ret
      exact HFIN.out
    · have hi' : decide (i < 0) = false := by simpa using hi
      clear hi
      go_wp2
      go_ret
      exact HFIN.out
  · have hi' : decide (i < 0) = false := by simp; omega
    have hkl : k < ln := by have := (List.getElem?_eq_some_iff.1 hm).1; have := HLN.out; omega
    obtain ⟨g, c, e, _, _, hrng⟩ := H.out.msg hm
    simp only [Value.slice.injEq] at e
    obtain ⟨rfl, _, rfl⟩ := e
    have hmo := H.out.ok m.c (List.mem_map.2 ⟨m, List.mem_of_getElem? hm, rfl⟩)
    have hadd := radd_any H.out m hmo (H.out.ft m (List.mem_of_getElem? hm)) (by have := HLN.out; omega)
    have hspec : AtSpec l a b i (some k) := ⟨m, hm, his, hck⟩
    have HADD := Lib.hid hadd
    have HSPEC := Lib.hid hspec
    have HRNG := Lib.hid hrng
    have HMO := Lib.hid hmo
    have HM := Lib.hid hm
    clear his hck hadd hspec hrng hmo hm
    go_wp2_with fail
    refine HLEN.out.mono ?_
    rintro e w2 ⟨rfl, rfl⟩
    clear HLEN
    go_wp2_with (refine wpList_load_mid rfl 42 _ rfl g (k * 34) rfl m.c _ HRNG.out hu42 rfl ?i1 ?_; (case i1 => rw [HMO.out.1]; exact size42))
    refine HADD.out.mono ?_
    rintro e w3 ⟨rfl, T', L', hr, hfr⟩
    have HFIN : Hid (RTwicePost w2 T y n C l cuts a b i (.returned (.bool true)) w3) := ⟨some k, HSPEC.out, rfl, T', L', by show RefIn w3 T' y n L' C (l ++ (l[k]?).toList) cuts; rw [show l[k]? = some m from HM.out]; exact hr, hfr⟩
    clear hr hfr HADD
    go_wp2
    go_ret
    exact HFIN.out
end Go.Proofs.Ytdkpgjhjdnfieaa
