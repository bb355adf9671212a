/- The contract of do: it turns one link at most, by one message at most. Condition: the net and the step lie in memory as stated. -/
import Derived.Test.YtdkpgjhjdnfieaaAb
set_option linter.unusedVariables false
set_option linter.unusedSimpArgs false
namespace Go.Proofs.Ytdkpgjhjdnfieaa
open Go.RowKit Go.Mf
set_option maxRecDepth 100000

/-- X' is X but for the link from a to b, and there one message more or less at most -/
def Moved (X X' : Nx) (a b : Int) : Prop :=
  X' = X ∨ (isLink X.n a b = true ∧ ∃ l o, X' = { (X.set a.toNat b.toNat l) with off := fun i j => if i = a.toNat ∧ j = b.toNat then o else X.off i j } ∧ l.length ≤ (X.q a.toNat b.toNat).length + 1 ∧ (X.q a.toNat b.toNat).length ≤ l.length + 1)
theorem off_same (X : Nx) (i j : Nat) : (fun i' j' => if i' = i ∧ j' = j then X.off i j else X.off i' j') = X.off := by
  funext a b
  by_cases h : a = i ∧ b = j
  · rw [if_pos h, h.1, h.2]
  · rw [if_neg h]
theorem Moved.set {X : Nx} {a b : Int} (hl : isLink X.n a b = true) (l : List (List Value)) (h1 : l.length ≤ (X.q a.toNat b.toNat).length + 1) (h2 : (X.q a.toNat b.toNat).length ≤ l.length + 1) : Moved X (X.set a.toNat b.toNat l) a b := by
  refine .inr ⟨hl, l, X.off a.toNat b.toNat, ?_, h1, h2⟩
  rw [off_same]
  rfl
theorem set_self (X : Nx) (i j : Nat) : X.set i j (X.q i j) = X := by
  unfold Nx.set
  have : (fun i' j' => if i' = i ∧ j' = j then X.q i j else X.q i' j') = X.q := by
    funext a b
    by_cases h : a = i ∧ b = j
    · rw [if_pos h, h.1, h.2]
    · rw [if_neg h]
  rw [this]
theorem Moved.cut (X : Nx) (a b : Int) (o : Bool) : Moved X (X.cut a b o) a b := by
  unfold Nx.cut
  split
  · rename_i hl
    exact .inr ⟨hl, X.q a.toNat b.toNat, o, by rw [set_self], by omega, by omega⟩
  · exact .inl rfl

/-- every message on the net is in memory -/
def AllIn (w : World) (S : Nat → Prop) (X : Nx) : Prop := ∀ i j, ∀ c ∈ X.q i j, ∃ M, Holds w S c M
theorem AllIn.fr {a b : World} {S S' : Nat → Prop} {X : Nx} (h : AllIn a S X) (hf : Fr S S' a b) : AllIn b S' X := fun i j c hc => by
  obtain ⟨M, hM⟩ := h i j c hc
  exact ⟨M, hM.fr hf⟩
theorem AllIn.up {a b : World} {S : Nat → Prop} {X : Nx} (h : AllIn a S X) (hb : Below a.heap.size a b) : AllIn b S X := fun i j c hc => by
  obtain ⟨M, hM⟩ := h i j c hc
  exact ⟨M, hM.up hb⟩
theorem AllIn.set {w : World} {S : Nat → Prop} {X : Nx} (h : AllIn w S X) {i j : Nat} {l : List (List Value)} (hl : ∀ c ∈ l, ∃ M, Holds w S c M) : AllIn w S (X.set i j l) := fun a b c hc => by
  by_cases e : a = i ∧ b = j
  · simp only [Nx.set, if_pos e] at hc; exact hl c hc
  · simp only [Nx.set, if_neg e] at hc; exact h a b c hc

def DoPost (w : World) (S : Nat → Prop) (x : Nat) (X : Nx) (a b : Int) : Ending → World → Prop := fun e w' =>
  ∃ S' X', e = .returned (.tuple #[]) ∧ NetOk w' S' x X' ∧ Fr S S' w w' ∧ Moved X X' a b ∧ AllIn w' S' X'

def stepCells (d f t i : Int) (cs : List Value) : List Value := [.int .i64 d, .int .i64 f, .int .i64 t, .int .i64 i] ++ cs
def ownA (d f mf : Int) : Int := if d % 8 < 3 then mf else f

theorem do_added {w W w' : World} {S : Nat → Prop} {x : Nat} {X : Nx} {a b : Int} {M : MsgD} {ok : Bool} {e : Ending} (hA : AllIn w S X) (hb : Below w.heap.size w W) (hl : ok = true → isLink X.n a b = true) (h : AddedPost W S x X a b M ok e w') : e = .returned (.bool ok) ∧ DoPost w S x X a b (.returned (.tuple #[])) w' := by
  obtain ⟨S', X', rfl, hnet, hfr, hno, hyes⟩ := h
  have hfr' : Fr S S' w w' := ⟨hfr.os.trans hb.os, hfr.tape.trans hb.tape, hfr.output.trans hb.output, Nat.le_trans hb.size hfr.size, fun k hk hn => (hfr.block k (Nat.lt_of_lt_of_le hk hb.size) hn).trans (hb.block k hk), fun k hk => (hfr.new k hk).imp id (fun h => Nat.le_trans hb.size h)⟩
  refine ⟨rfl, S', X', rfl, hnet, hfr', ?_, ?_⟩
  · cases ok with
    | false => obtain ⟨rfl, rfl⟩ := hno rfl; exact .inl rfl
    | true =>
      obtain ⟨c, rfl, hm⟩ := hyes rfl
      exact Moved.set (hl rfl) _ (by simp) (by simp; omega)
  · cases ok with
    | false => obtain ⟨rfl, rfl⟩ := hno rfl; exact hA.fr hfr'
    | true =>
      obtain ⟨c, rfl, hm⟩ := hyes rfl
      refine (hA.fr hfr').set (fun c' hc' => ?_)
      rcases List.mem_append.1 hc' with hc' | hc'
      · exact (hA.fr hfr') _ _ c' hc'
      · rw [List.mem_singleton] at hc'; subst hc'; exact ⟨M, Holds.new hm⟩
theorem do_popped {w W w' : World} {S : Nat → Prop} {x : Nat} {X X' : Nx} {a b t : Int} (hA : AllIn w S X) (hb : Below w.heap.size w W) (hX : (X.hasAt a b t = false → X' = X) ∧ (X.hasAt a b t = true → X' = X.pop a b t)) (hnet : NetOk w' S x X') (hfr : Fr S S W w') : DoPost w S x X a b (.returned (.tuple #[])) w' := by
  have hfr' : Fr S S w w' := ⟨hfr.os.trans hb.os, hfr.tape.trans hb.tape, hfr.output.trans hb.output, Nat.le_trans hb.size hfr.size, fun k hk hn => (hfr.block k (Nat.lt_of_lt_of_le hk hb.size) hn).trans (hb.block k hk), fun k hk => .inl hk⟩
  refine ⟨S, X', rfl, hnet, hfr', ?_, ?_⟩
  · cases hh : X.hasAt a b t with
    | false => rw [hX.1 hh]; exact .inl rfl
    | true =>
      rw [hX.2 hh]
      simp only [Nx.hasAt, Bool.and_eq_true, decide_eq_true_eq] at hh
      refine Moved.set hh.1 _ ?_ ?_ <;> rw [List.length_eraseIdx_of_lt (by omega)] <;> omega
  · cases hh : X.hasAt a b t with
    | false => rw [hX.1 hh]; exact hA.fr hfr'
    | true =>
      rw [hX.2 hh]
      exact (hA.fr hfr').set (fun c hc => (hA.fr hfr') _ _ c (List.mem_of_mem_eraseIdx hc))

theorem hasAt_link {X : Nx} {a b t : Int} (h : X.hasAt a b t = true) : isLink X.n a b = true := by
  simp only [Nx.hasAt, Bool.and_eq_true] at h; exact h.1

set_option maxHeartbeats 2000000 in
theorem do_any (w : World) (S Sc : Nat → Prop) (x : Nat) (X : Nx) (d f t i mf mt : Int) (cs : List Value) (M : MsgD) (h : NetOk w S x X) (hA : AllIn w S X) (hM : MsgIn w Sc cs M) (hSc : ∀ k, Sc k → k < w.heap.size) (hmf : cs[1]? = some (.int .i64 mf)) (hmt : cs[2]? = some (.int .i64 mt)) (hd : i64ok d) :
    Calls Try.prog 32 #[.pointer (some ⟨x, 0, none⟩), .agg (stepCells d f t i cs).toArray] w (DoPost w S x X (ownA d f mf) (ownA d t mt)) := by
  have hml := hM.1
  obtain ⟨W, hW⟩ : ∃ W, W = w.alloc (.cells (stepCells d f t i cs).toArray 44) := ⟨_, rfl⟩
  have hb0 : W.heap[w.heap.size]? = some (.cells (stepCells d f t i cs).toArray 44 (0, 0)) := by rw [hW]; exact heap_alloc_new w _
  have hbw : Below w.heap.size w W := by rw [hW]; exact (Below.refl _ w).alloc (Nat.le_refl _) _
  have hNW : NetOk W S x X := netOk_up h hbw
  have hAW : AllIn W S X := hA.up hbw
  have hMW : MsgIn W Sc cs M := hM.keep (fun _ h _ => h) (fun k _ hk => hbw.block k hk)
  have c0 : W.cell? ⟨w.heap.size, 0, none⟩ = some (.int .i64 d) := cell_at hb0 rfl
  have c1 : W.cell? ⟨w.heap.size, 1, none⟩ = some (.int .i64 f) := cell_at hb0 rfl
  have c2 : W.cell? ⟨w.heap.size, 2, none⟩ = some (.int .i64 t) := cell_at hb0 rfl
  have c3 : W.cell? ⟨w.heap.size, 3, none⟩ = some (.int .i64 i) := cell_at hb0 rfl
  have hrng : W.rangeAt w.heap.size 4 cs := fun j u hu => cell_at hb0 (by
    unfold stepCells
    rw [List.getElem?_append_right (by simp)]
    simpa using hu)
  have hScW : ∀ k, Sc k → k < W.heap.size := fun k hk => Nat.lt_of_lt_of_le (hSc k hk) hbw.size
  obtain ⟨fs42, hu42⟩ := und42
  have HW : Hid (W = w.alloc (.cells (stepCells d f t i cs).toArray 44)) := hW
  have HML := Lib.hid hml
  have HNW := Lib.hid hNW
  have HAW := Lib.hid hAW
  have HA := Lib.hid hA
  have HMW := Lib.hid hMW
  have HBW := Lib.hid hbw
  have HRNG := Lib.hid hrng
  have HSC := Lib.hid hScW
  have HMF := Lib.hid hmf
  have HMT := Lib.hid hmt
  have HB0 := Lib.hid hb0
  obtain ⟨p, hp⟩ : ∃ p, d % 8 = p := ⟨_, rfl⟩
  have hp0 : 0 ≤ p := by have := Int.emod_nonneg d (show (8 : Int) ≠ 0 by omega); omega
  have hp8 : p < 8 := by have := Int.emod_lt_of_pos d (show (0 : Int) < 8 by omega); omega
  have hpick := pick_any W d 8 hd (by omega) (by omega)
  have hpickd := pick_any W.drew d 8 hd (by omega) (by omega)
  rw [hp] at hpick hpickd
  have HPICK := Lib.hid hpick
  have HPICKD := Lib.hid hpickd
  have HP := Lib.hid hp
  clear hml hW hb0 hbw hNW hAW hMW hrng hM h hA hScW hSc hmf hmt hpick hpickd hp hd
  go_enter Try.func32, Try.ntmps32
  go_upto_region 1 with fail
  change Code.wp _ _ _ _ (w.alloc (.cells (stepCells d f t i cs).toArray 44))
  rw [← HW.out]
  go_wp2_with fail
  refine HPICK.out.mono ?_
  rintro e w' ⟨rfl, rfl⟩
  have hcase : p = 0 ∨ p = 1 ∨ p = 2 ∨ p = 3 ∨ p = 4 ∨ p = 5 ∨ p = 6 ∨ p = 7 := by omega
  clear hp0 hp8
  rcases hcase with rfl | rfl | rfl | rfl | rfl | rfl | rfl | rfl
  case inl =>
    as_aux_lemma =>
      have ea : ownA d f mf = mf := by unfold ownA; rw [HP.out]; rfl
      have eb : ownA d t mt = mt := by unfold ownA; rw [HP.out]; rfl
      have HEA := Lib.hid ea
      have HEB := Lib.hid eb
      clear ea eb
      go_wp2_with (refine wpList_load_mid rfl 42 _ rfl w.heap.size 4 rfl cs _ HRNG.out hu42 rfl ?i1 ?_; (case i1 => rw [HML.out]; exact size42))
      refine (send_any _ S Sc x X cs M mf mt HNW.out HMW.out HSC.out HMF.out HMT.out).mono ?_
      intro e w2 hpst
      obtain ⟨rfl, hfin⟩ := do_added HA.out HBW.out (fun h => by simp only [Nx.sendOk, Bool.and_eq_true] at h; exact h.1.1) hpst
      have HFIN := Lib.hid hfin
      clear hpst hfin
      go_wp2
      go_end0
      rw [HEA.out, HEB.out]
      exact HFIN.out
  case inr.inl =>
    as_aux_lemma =>
      have ea : ownA d f mf = mf := by unfold ownA; rw [HP.out]; rfl
      have eb : ownA d t mt = mt := by unfold ownA; rw [HP.out]; rfl
      have HEA := Lib.hid ea
      have HEB := Lib.hid eb
      clear ea eb
      go_wp2_with (refine wpList_load_mid rfl 42 _ rfl w.heap.size 4 rfl cs _ HRNG.out hu42 rfl ?i1 ?_; (case i1 => rw [HML.out]; exact size42))
      refine (send_any _ S Sc x X cs M mf mt HNW.out HMW.out HSC.out HMF.out HMT.out).mono ?_
      intro e w2 hpst
      obtain ⟨rfl, hfin⟩ := do_added HA.out HBW.out (fun h => by simp only [Nx.sendOk, Bool.and_eq_true] at h; exact h.1.1) hpst
      have HFIN := Lib.hid hfin
      clear hpst hfin
      go_wp2
      go_end0
      rw [HEA.out, HEB.out]
      exact HFIN.out
  case inr.inr.inl =>
    as_aux_lemma =>
      have ea : ownA d f mf = mf := by unfold ownA; rw [HP.out]; rfl
      have eb : ownA d t mt = mt := by unfold ownA; rw [HP.out]; rfl
      have HEA := Lib.hid ea
      have HEB := Lib.hid eb
      clear ea eb
      go_wp2_with (refine wpList_load_mid rfl 42 _ rfl w.heap.size 4 rfl cs _ HRNG.out hu42 rfl ?i1 ?_; (case i1 => rw [HML.out]; exact size42))
      refine (send_any _ S Sc x X cs M mf mt HNW.out HMW.out HSC.out HMF.out HMT.out).mono ?_
      intro e w2 hpst
      obtain ⟨rfl, hfin⟩ := do_added HA.out HBW.out (fun h => by simp only [Nx.sendOk, Bool.and_eq_true] at h; exact h.1.1) hpst
      have HFIN := Lib.hid hfin
      clear hpst hfin
      go_wp2
      go_end0
      rw [HEA.out, HEB.out]
      exact HFIN.out
  case inr.inr.inr.inl =>
    as_aux_lemma =>
      have ea : ownA d f mf = f := by unfold ownA; rw [HP.out]; rfl
      have eb : ownA d t mt = t := by unfold ownA; rw [HP.out]; rfl
      have HEA := Lib.hid ea
      have HEB := Lib.hid eb
      clear ea eb
      go_wp2_with fail
      refine (take_any _ S x X f t i HNW.out).mono ?_
      rintro e w2 ⟨X', m, rfl, hnet, hfr, hml, hm1, hno, hyes⟩
      have HFIN := Lib.hid (do_popped HA.out HBW.out ⟨fun h => (hno h).1, fun h => (hyes h).1⟩ hnet hfr)
      clear hnet hfr hml hm1 hno hyes
      go_wp2
      go_end0
      rw [HEA.out, HEB.out]
      exact HFIN.out
  case inr.inr.inr.inr.inl =>
    as_aux_lemma =>
      have ea : ownA d f mf = f := by unfold ownA; rw [HP.out]; rfl
      have eb : ownA d t mt = t := by unfold ownA; rw [HP.out]; rfl
      have HEA := Lib.hid ea
      have HEB := Lib.hid eb
      clear ea eb
      go_wp2_with fail
      refine (lose_any _ S x X f t i HNW.out).mono ?_
      rintro e w2 ⟨X', rfl, hnet, hfr, hno, hyes⟩
      have HFIN := Lib.hid (do_popped HA.out HBW.out ⟨hno, hyes⟩ hnet hfr)
      clear hnet hfr hno hyes
      go_wp2
      go_end0
      rw [HEA.out, HEB.out]
      exact HFIN.out
  case inr.inr.inr.inr.inr.inl =>
    as_aux_lemma =>
      have ea : ownA d f mf = f := by unfold ownA; rw [HP.out]; rfl
      have eb : ownA d t mt = t := by unfold ownA; rw [HP.out]; rfl
      have HEA := Lib.hid ea
      have HEB := Lib.hid eb
      clear ea eb
      have htw : ∃ M' : MsgD, X.twiceOk f t i = true → ∃ c, (X.q f.toNat t.toNat)[i.toNat]? = some c ∧ MsgIn w' (fun k => k < w'.heap.size ∧ ¬ S k) c M' := by
        by_cases ho : X.twiceOk f t i = true
        · have ho2 := ho
          simp only [Nx.twiceOk, Nx.hasAt, Bool.and_eq_true, decide_eq_true_eq] at ho2
          obtain ⟨M', hM'⟩ := HAW.out f.toNat t.toNat _ (List.getElem_mem (show i.toNat < (X.q f.toNat t.toNat).length by omega))
          exact ⟨M', fun _ => ⟨_, List.getElem?_eq_getElem _, hM'⟩⟩
        · exact ⟨M, fun h => absurd h ho⟩
      obtain ⟨M', htw⟩ := htw
      have HTW := Lib.hid htw
      clear htw
      go_wp2_with fail
      refine (twice_any _ S _ x X M' f t i HNW.out HTW.out (fun k hk => hk.1)).mono ?_
      intro e w2 hpst
      obtain ⟨rfl, hfin⟩ := do_added HA.out HBW.out (fun h => by simp only [Nx.twiceOk, Bool.and_eq_true] at h; exact hasAt_link h.1) hpst
      have HFIN := Lib.hid hfin
      clear hpst hfin
      go_wp2
      go_end0
      rw [HEA.out, HEB.out]
      exact HFIN.out
  case inr.inr.inr.inr.inr.inr.inl =>
    as_aux_lemma =>
      have ea : ownA d f mf = f := by unfold ownA; rw [HP.out]; rfl
      have eb : ownA d t mt = t := by unfold ownA; rw [HP.out]; rfl
      have HEA := Lib.hid ea
      have HEB := Lib.hid eb
      clear ea eb
      go_upto_region 14 with fail
      refine wp_region_any (by kernel_rfl) ?_
      change wpAny _ _ _ _ _ _ _ (World.drew _)
      refine wpAny_take (i := 0) (v := .pointer (some ⟨x, 0, none⟩)) rfl (by kernel_rfl) (by kernel_rfl) (by kernel_rfl) (fun _ _ _ h => h) (Or.inl ⟨by rfl, by intro _; go_simp⟩) ?_
      refine wpAny_take (i := 1) (v := .pointer (some ⟨w.heap.size, 1, none⟩)) rfl (by kernel_rfl) (by kernel_rfl) (by kernel_rfl) (fun _ _ _ h => h) (Or.inl ⟨by rfl, by intro _; go_simp⟩) ?_
      refine wpAny_take (i := 3) (v := .pointer (some ⟨w.heap.size, 2, none⟩)) rfl (by kernel_rfl) (by kernel_rfl) (by kernel_rfl) (fun _ _ _ h => h) (Or.inl ⟨by rfl, by intro _; go_simp⟩) ?_
      refine wpAny_take (i := 5) (v := .pointer (some ⟨w.heap.size, 0, none⟩)) rfl (by kernel_rfl) (by kernel_rfl) (by kernel_rfl) (fun _ _ _ h => h) (Or.inl ⟨by rfl, by intro _; go_simp⟩) ?_
      refine Rg.Any.plain (S := Rg.But [9] (fun v => v.heap[w.heap.size]? = some (.cells (stepCells d f t i cs).toArray 44 (0, 0)))) _ _ _ _ ?_
      refine Rg.take 2 (v := .int .i64 f) rfl (by kernel_rfl) (by kernel_rfl) (by kernel_rfl) (fun _ _ _ h => h) (Rg.But.lets (by kernel_rfl) (fun _ h => h)) (fun _ h => .mk h) (Or.inl ⟨by rfl, fun v hv => ?_⟩) HB0.out ?_
      · have e := cell_at hv (show (stepCells d f t i cs)[1]? = some (.int .i64 f) from rfl)
        go_simp
      refine Rg.take 4 (v := .int .i64 t) rfl (by kernel_rfl) (by kernel_rfl) (by kernel_rfl) (fun _ _ _ h => h) (Rg.But.lets (by kernel_rfl) (fun _ h => h)) (fun _ h => .mk h) (Or.inl ⟨by rfl, fun v hv => ?_⟩) HB0.out ?_
      · have e := cell_at hv (show (stepCells d f t i cs)[2]? = some (.int .i64 t) from rfl)
        go_simp
      refine Rg.only 6 (by kernel_rfl) (by simp only [List.getElem?_toArray, List.getElem?_cons_succ, List.getElem?_cons_zero]; rfl) (fun K hK => ?_)
      go_simp
      refine hK.out _ _ (.mk HB0.out) ?_
      clear hK K
      refine Rg.only 7 (by kernel_rfl) (by simp only [List.getElem?_toArray, List.getElem?_cons_succ, List.getElem?_cons_zero]; rfl) (fun K hK => ?_)
      go_simp
      refine HPICKD.out.mono ?_
      rintro e w3 ⟨rfl, rfl⟩
      refine hK.out _ _ (.mk HB0.out) ?_
      clear hK K
      refine Rg.only 8 (by kernel_rfl) (by simp only [List.getElem?_toArray, List.getElem?_cons_succ, List.getElem?_cons_zero]; rfl) (fun K hK => ?_)
      go_simp
      refine hK.out _ _ (.mk HB0.out) ?_
      clear hK K
      refine Rg.only 9 (by kernel_rfl) (by simp only [List.getElem?_toArray, List.getElem?_cons_succ, List.getElem?_cons_zero]; rfl) (fun K hK => ?_)
      go_simp
      refine (cut_ok (w := w'.drew) (HNW.out.keep (Nat.le_refl _) (fun _ _ _ => rfl)) f t true).mono ?_
      rintro e w4 ⟨rfl, hnet, hfr⟩
      have hfr2 : Fr S S w w4 := ⟨hfr.os.trans HBW.out.os, hfr.tape.trans HBW.out.tape, hfr.output.trans HBW.out.output, Nat.le_trans HBW.out.size hfr.size, fun k hk hn => (hfr.block k (Nat.lt_of_lt_of_le hk HBW.out.size) hn).trans (HBW.out.block k hk), fun k hk => .inl hk⟩
      have HFIN : Hid (DoPost w S x X f t (.returned (.tuple #[])) w4) := ⟨S, _, rfl, hnet, hfr2, Moved.cut X f t true, fun a b c hc => by rw [cut_q] at hc; exact (HA.out.fr hfr2) a b c hc⟩
      clear hnet hfr hfr2
      refine hK.out _ _ (.inl rfl) ?_
      clear hK K
      refine Rg.done (by kernel_rfl) ?_
      go_wp2
      go_end0
      rw [HEA.out, HEB.out]
      exact HFIN.out
  case inr.inr.inr.inr.inr.inr.inr =>
    as_aux_lemma =>
      have ea : ownA d f mf = f := by unfold ownA; rw [HP.out]; rfl
      have eb : ownA d t mt = t := by unfold ownA; rw [HP.out]; rfl
      have HEA := Lib.hid ea
      have HEB := Lib.hid eb
      clear ea eb
      go_upto_region 14 with fail
      refine wp_region_any (by kernel_rfl) ?_
      change wpAny _ _ _ _ _ _ _ (World.drew _)
      refine wpAny_take (i := 0) (v := .pointer (some ⟨x, 0, none⟩)) rfl (by kernel_rfl) (by kernel_rfl) (by kernel_rfl) (fun _ _ _ h => h) (Or.inl ⟨by rfl, by intro _; go_simp⟩) ?_
      refine wpAny_take (i := 1) (v := .pointer (some ⟨w.heap.size, 1, none⟩)) rfl (by kernel_rfl) (by kernel_rfl) (by kernel_rfl) (fun _ _ _ h => h) (Or.inl ⟨by rfl, by intro _; go_simp⟩) ?_
      refine wpAny_take (i := 3) (v := .pointer (some ⟨w.heap.size, 2, none⟩)) rfl (by kernel_rfl) (by kernel_rfl) (by kernel_rfl) (fun _ _ _ h => h) (Or.inl ⟨by rfl, by intro _; go_simp⟩) ?_
      refine wpAny_take (i := 5) (v := .pointer (some ⟨w.heap.size, 0, none⟩)) rfl (by kernel_rfl) (by kernel_rfl) (by kernel_rfl) (fun _ _ _ h => h) (Or.inl ⟨by rfl, by intro _; go_simp⟩) ?_
      refine Rg.Any.plain (S := Rg.But [9] (fun v => v.heap[w.heap.size]? = some (.cells (stepCells d f t i cs).toArray 44 (0, 0)))) _ _ _ _ ?_
      refine Rg.take 2 (v := .int .i64 f) rfl (by kernel_rfl) (by kernel_rfl) (by kernel_rfl) (fun _ _ _ h => h) (Rg.But.lets (by kernel_rfl) (fun _ h => h)) (fun _ h => .mk h) (Or.inl ⟨by rfl, fun v hv => ?_⟩) HB0.out ?_
      · have e := cell_at hv (show (stepCells d f t i cs)[1]? = some (.int .i64 f) from rfl)
        go_simp
      refine Rg.take 4 (v := .int .i64 t) rfl (by kernel_rfl) (by kernel_rfl) (by kernel_rfl) (fun _ _ _ h => h) (Rg.But.lets (by kernel_rfl) (fun _ h => h)) (fun _ h => .mk h) (Or.inl ⟨by rfl, fun v hv => ?_⟩) HB0.out ?_
      · have e := cell_at hv (show (stepCells d f t i cs)[2]? = some (.int .i64 t) from rfl)
        go_simp
      refine Rg.only 6 (by kernel_rfl) (by simp only [List.getElem?_toArray, List.getElem?_cons_succ, List.getElem?_cons_zero]; rfl) (fun K hK => ?_)
      go_simp
      refine hK.out _ _ (.mk HB0.out) ?_
      clear hK K
      refine Rg.only 7 (by kernel_rfl) (by simp only [List.getElem?_toArray, List.getElem?_cons_succ, List.getElem?_cons_zero]; rfl) (fun K hK => ?_)
      go_simp
      refine HPICKD.out.mono ?_
      rintro e w3 ⟨rfl, rfl⟩
      refine hK.out _ _ (.mk HB0.out) ?_
      clear hK K
      refine Rg.only 8 (by kernel_rfl) (by simp only [List.getElem?_toArray, List.getElem?_cons_succ, List.getElem?_cons_zero]; rfl) (fun K hK => ?_)
      go_simp
      refine hK.out _ _ (.mk HB0.out) ?_
      clear hK K
      refine Rg.only 9 (by kernel_rfl) (by simp only [List.getElem?_toArray, List.getElem?_cons_succ, List.getElem?_cons_zero]; rfl) (fun K hK => ?_)
      go_simp
      refine (cut_ok (w := w'.drew) (HNW.out.keep (Nat.le_refl _) (fun _ _ _ => rfl)) f t false).mono ?_
      rintro e w4 ⟨rfl, hnet, hfr⟩
      have hfr2 : Fr S S w w4 := ⟨hfr.os.trans HBW.out.os, hfr.tape.trans HBW.out.tape, hfr.output.trans HBW.out.output, Nat.le_trans HBW.out.size hfr.size, fun k hk hn => (hfr.block k (Nat.lt_of_lt_of_le hk HBW.out.size) hn).trans (HBW.out.block k hk), fun k hk => .inl hk⟩
      have HFIN : Hid (DoPost w S x X f t (.returned (.tuple #[])) w4) := ⟨S, _, rfl, hnet, hfr2, Moved.cut X f t false, fun a b c hc => by rw [cut_q] at hc; exact (HA.out.fr hfr2) a b c hc⟩
      clear hnet hfr hfr2
      refine hK.out _ _ (.inl rfl) ?_
      clear hK K
      refine Rg.done (by kernel_rfl) ?_
      go_wp2
      go_end0
      rw [HEA.out, HEB.out]
      exact HFIN.out
end Go.Proofs.Ytdkpgjhjdnfieaa
