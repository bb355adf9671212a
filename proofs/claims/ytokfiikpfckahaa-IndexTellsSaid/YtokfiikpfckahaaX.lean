/- The walk of IndexForgets. Condition: the steps and the words can be read. -/
import Derived.Test.YtokfiikpfckahaaW
set_option linter.unusedVariables false
set_option linter.unusedSimpArgs false
namespace Go.Proofs.Ytokfiikpfckahaa
open Go.RowKit Go.Lib Go.Ix Go.Sort Go.Mf
set_option maxRecDepth 100000

theorem few_call {w0 : World} {v : Value} {l : List StepD} (h : StepsAt w0 v l) : ∀ wr, Below w0.heap.size w0 wr → Calls Try.prog 13 #[v] wr fun e w' => e = .returned (.bool (okF l)) ∧ w' = wr := fun wr hb => few_any (h.up hb)
theorem okw_call {w0 : World} {v : Value} {l : List Str} (h : RowAt w0 v l) : ∀ wr, Below w0.heap.size w0 wr → Calls Try.prog 21 #[v] wr fun e w' => e = .returned (.bool (okW l)) ∧ w' = wr := fun wr hb => okw_any (h.up hb)

/-- an index just made behind w0 -/
theorem new_call {w0 wr : World} (hb : Below w0.heap.size w0 wr) : Calls Try.prog 14 #[] wr fun e w' => ∃ s x, e = .returned (.pointer (some ⟨x, 0, none⟩)) ∧ Hid (x = s + 2 ∧ w0.heap.size ≤ s ∧ s = wr.heap.size ∧ w'.heap.size = s + 3 ∧ IxNew w' s ∧ Below w0.heap.size w0 w' ∧ Below wr.heap.size wr w') := by
  refine (new_any wr).mono ?_
  rintro e w' ⟨rfl, h1, h2, h3⟩
  exact ⟨wr.heap.size, wr.heap.size + 2, rfl, Lib.hid ⟨rfl, hb.size, rfl, h3, h1, hb.trans (h2.mono hb.size), h2⟩⟩

/-- two indexes: x in use, another at sy just made -/
def FgX (w wr : World) (T : Ter) (x sy : Nat) (W : Str → Option (List Str)) : Prop :=
  IxAt wr T x W ∧ T.fresh wr.heap.size ∧ IxNew wr sy ∧ Below w.heap.size w wr ∧ w.heap.size ≤ T.base ∧ T.lo = sy ∧ T.hi = sy + 3 ∧ T.base ≤ sy

theorem FgX.set {w wr : World} {T : Ter} {x sy : Nat} {W : Str → Option (List Str)} {v : Value} {l : List StepD} (h : FgX w wr T x sy W) (hl : StepsAt w v l) (hf : okF l = true) :
    Calls Try.prog 22 #[.pointer (some ⟨x, 0, none⟩), v] wr fun e w' => e = .returned (.tuple #[]) ∧ Hid (FgX w w' T x sy (runW W l)) := by
  obtain ⟨h1, h2, h3, h4, h5, h6, h7, h8⟩ := h
  refine (steps_any hl hf h1 h4 h2 h5).mono ?_
  rintro e w' ⟨rfl, g1, g2⟩
  exact ⟨rfl, Lib.hid ⟨g1, h2.up g2.size, h3.keep g2 (by omega) (by omega), h4.trans (g2.below.mono h5), h5, h6, h7, h8⟩⟩
theorem FgX.rm {w wr : World} {T : Ter} {x sy : Nat} {W : Str → Option (List Str)} (h : FgX w wr T x sy W) (id : Str) :
    Calls Try.prog 17 #[.pointer (some ⟨x, 0, none⟩), encStr id] wr fun e w' => e = .returned (.tuple #[]) ∧ Hid (FgX w w' T x sy (fun j => if j = id then none else W j)) := by
  obtain ⟨h1, h2, h3, h4, h5, h6, h7, h8⟩ := h
  refine (remove_any h1 h2 id).mono ?_
  rintro e w' ⟨rfl, g1, g2⟩
  exact ⟨rfl, Lib.hid ⟨g1, h2.up g2.size, h3.keep g2 (by omega) (by omega), h4.trans (g2.below.mono h5), h5, h6, h7, h8⟩⟩

/-- both in use -/
def FgZ (w wr : World) (x y : Nat) (W W' : Str → Option (List Str)) : Prop := (∃ T, IxAt wr T x W) ∧ (∃ T, IxAt wr T y W') ∧ Below w.heap.size w wr

theorem FgX.sety {w wr : World} {T : Ter} {x sy y : Nat} {W : Str → Option (List Str)} {v : Value} {l : List StepD} (h : FgX w wr T x sy W) (hy : y = sy + 2) (hl : StepsAt w v l) (hf : okF l = true) :
    Calls Try.prog 22 #[.pointer (some ⟨y, 0, none⟩), v] wr fun e w' => e = .returned (.tuple #[]) ∧ Hid (FgZ w w' x y W (runW (fun _ => none) l)) := by
  obtain ⟨h1, h2, h3, h4, h5, h6, h7, h8⟩ := h
  subst hy
  have hlt : sy + 2 < wr.heap.size := (Array.getElem?_eq_some_iff.1 h3.2.2).1
  have hy := h3.ix ⟨sy, sy + 3, wr.heap.size⟩ ⟨Nat.le_refl _, Or.inl (by show sy < sy + 3; omega)⟩ ⟨Nat.le_succ _, Or.inl (by show sy + 1 < sy + 3; omega)⟩
  refine (steps_any hl hf hy h4 ⟨by show sy ≤ _; omega, Nat.le_refl _⟩ (by show w.heap.size ≤ sy; omega)).mono ?_
  rintro e w' ⟨rfl, g1, g2⟩
  refine ⟨rfl, Lib.hid ⟨⟨T, h1.keep g2 (fun m hm hl => ?_)⟩, ⟨_, g1⟩, h4.trans (g2.below.mono (by show w.heap.size ≤ sy; omega))⟩⟩
  have := hm.1
  have := hm.2
  show m < sy ∨ (sy + 3 ≤ m ∧ m < wr.heap.size)
  omega

theorem FgZ.up {w wr w' : World} {x y : Nat} {W W' : Str → Option (List Str)} (h : FgZ w wr x y W W') (hb : Below wr.heap.size wr w') : FgZ w w' x y W W' := by
  obtain ⟨⟨T, h1⟩, ⟨T', h2⟩, h3⟩ := h
  exact ⟨⟨T, h1.up hb⟩, ⟨T', h2.up hb⟩, h3.trans (hb.mono h3.size)⟩

theorem found_len {W : Str → Option (List Str)} {ws l U : List Str} (h : Found W ws l) (hU : ∀ i, (W i).isSome = true → i ∈ U) : l.length ≤ U.length := by
  refine nodup_le h.1.nodup (fun i hi => hU i ?_)
  obtain ⟨h1, h2⟩ := (h.2 i).1 hi
  obtain ⟨k, hk⟩ := List.exists_mem_of_ne_nil ws h1
  have := h2 k hk
  unfold hasOf at this
  cases hw : W i with
  | none => rw [hw] at this; cases this
  | some x => rfl

theorem FgZ.findx {w wr : World} {x y : Nat} {W W' : Str → Option (List Str)} {v : Value} {ws U : List Str} (h : FgZ w wr x y W W') (hr : RowAt w v ws) (hlen : ws.length ≤ 1000000) (hU : ∀ i, (W i).isSome = true → i ∈ U) (hUl : U.length ≤ 1000000) :
    Calls Try.prog 19 #[.pointer (some ⟨x, 0, none⟩), v] wr fun e w' => ∃ v1 l1, e = .returned v1 ∧ Hid (OwnS w' 0 v1 l1 ∧ Found W ws l1 ∧ FgZ w w' x y W W' ∧ l1.length ≤ 1000000) := by
  obtain ⟨T, h1⟩ := h.1
  refine (find_any h1 (hr.up h.2.2) hlen hU hUl).mono ?_
  rintro e w' ⟨v1, l1, rfl, g1, g2, g3⟩
  exact ⟨v1, l1, rfl, Lib.hid ⟨own_le g1 (Nat.zero_le _), g2, h.up g3, Nat.le_trans (found_len g2 hU) hUl⟩⟩
theorem FgZ.findy {w wr : World} {x y : Nat} {W W' : Str → Option (List Str)} {v v1 : Value} {ws U l1 : List Str} (h : FgZ w wr x y W W') (ho : OwnS wr 0 v1 l1) (hr : RowAt w v ws) (hlen : ws.length ≤ 1000000) (hU : ∀ i, (W' i).isSome = true → i ∈ U) (hUl : U.length ≤ 1000000) :
    Calls Try.prog 19 #[.pointer (some ⟨y, 0, none⟩), v] wr fun e w' => ∃ v2 l2, e = .returned v2 ∧ Hid (OwnS w' 0 v1 l1 ∧ OwnS w' 0 v2 l2 ∧ Found W' ws l2 ∧ Below w.heap.size w w') := by
  obtain ⟨T, h1⟩ := h.2.1
  refine (find_any h1 (hr.up h.2.2) hlen hU hUl).mono ?_
  rintro e w' ⟨v2, l2, rfl, g1, g2, g3⟩
  exact ⟨v2, l2, rfl, Lib.hid ⟨own_up ho g3, own_le g1 (Nat.zero_le _), g2, (h.up g3).2.2⟩⟩

theorem fgx_new {w w1 w2 w3 : World} {s x s' y : Nat} (h : x = s + 2 ∧ w.heap.size ≤ s ∧ s = w1.heap.size ∧ w2.heap.size = s + 3 ∧ IxNew w2 s ∧ Below w.heap.size w w2 ∧ Below w1.heap.size w1 w2)
    (h' : y = s' + 2 ∧ w.heap.size ≤ s' ∧ s' = w2.heap.size ∧ w3.heap.size = s' + 3 ∧ IxNew w3 s' ∧ Below w.heap.size w w3 ∧ Below w2.heap.size w2 w3) : FgX w w3 ⟨s, s', s' + 3⟩ x s' (fun _ => none) := by
  obtain ⟨rfl, h1, h2, h3, h4, h5, h6⟩ := h
  obtain ⟨rfl, g1, g2, g3, g4, g5, g6⟩ := h'
  exact ⟨(h4.up g6).ix _ ⟨Nat.le_refl _, Or.inl (by show s < s'; omega)⟩ ⟨Nat.le_succ _, Or.inl (by show s + 1 < s'; omega)⟩, ⟨by show s ≤ _; omega, by show s' + 3 ≤ _; omega⟩, g4, g5, h1, rfl, rfl, by show s ≤ s'; omega⟩

theorem fg_same (w : World) (W : Str → Option (List Str)) (ws : List Str) (wr : World) (v1 v2 : Value) (l1 l2 : List Str) (h1 : Found W ws l1) (hl : l1.length ≤ 1000000) (h : OwnS wr 0 v1 l1 ∧ OwnS wr 0 v2 l2 ∧ Found W ws l2 ∧ Below w.heap.size w wr) :
    Calls Try.prog 10 #[v1, v2] wr fun e w' => e = .returned (.bool true) ∧ Hid (Below w.heap.size w w') := by
  obtain ⟨g1, g2, g3, g4⟩ := h
  obtain rfl := h1.uniq g3
  refine (same_any (own_row g1) (own_row g2) hl).mono ?_
  rintro e w' ⟨rfl, q, rfl⟩
  exact ⟨by simp, Lib.hid (g4.trans ((below_dn wr q).mono g4.size))⟩

set_option maxHeartbeats 8000000 in
theorem forgets_any (w : World) (va vb vw : Value) (a b : List StepD) (ws : List Str) (ha : StepsAt w va a) (hb : StepsAt w vb b) (hw : RowAt w vw ws) :
    Calls Try.prog 5 #[va, vb, vw] w fun e w' => e = .returned (.bool true) ∧ Below w.heap.size w w' := by
  have HFA := Lib.hid (few_call ha)
  have HFB := Lib.hid (few_call hb)
  have HWW := Lib.hid (okw_call hw)
  obtain ⟨ba, hba⟩ : ∃ ba, ba = okF a := ⟨_, rfl⟩
  obtain ⟨bb, hbb⟩ : ∃ bb, bb = okF b := ⟨_, rfl⟩
  obtain ⟨bw, hbw⟩ : ∃ bw, bw = okW ws := ⟨_, rfl⟩
  rw [← hba] at HFA
  rw [← hbb] at HFB
  rw [← hbw] at HWW
  have HBA := Lib.hid hba
  have HBB := Lib.hid hbb
  have HBW := Lib.hid hbw
  have HA := Lib.hid ha
  have HB := Lib.hid hb
  have HW := Lib.hid hw
  obtain ⟨pa, ca, hva, hca⟩ := ha
  subst hva
  obtain ⟨n, hn⟩ : ∃ n, n = a.length := ⟨_, rfl⟩
  have HN := Lib.hid hn
  have HCA := Lib.hid hca
  rw [← hn] at HFA HA ⊢
  clear hb hw hba hbb hbw hca hn
  go_enter Try.func5, Try.ntmps5
  have start : True := trivial
  cases ba with
  | false =>
    go_wp2_with (first
        | (go_at_call 8; refine (small_any _).mono ?_; rintro e w1 ⟨rfl, hb1⟩
           have HB1 := Lib.hid hb1
           clear hb1)
        | (go_at_call 13; refine (HFA.out _ HB1.out).mono ?_; rintro e w1' ⟨rfl, rfl⟩; clear HFA)
        | (go_at_call 13; refine (HFB.out _ HB1.out).mono ?_; rintro e w1' ⟨rfl, rfl⟩; clear HFB)
        | (go_at_call 21; refine (HWW.out _ HB1.out).mono ?_; rintro e w1' ⟨rfl, rfl⟩; clear HWW)
        | (go_at_call 14; clear start; refine (new_call HB1.out).mono ?_; rintro e w2 ⟨s, x, rfl, HN1⟩)
        | (go_at_call 14; refine (new_call HN1.out.2.2.2.2.2.1).mono ?_; rintro e w3 ⟨s', y, rfl, HN2⟩))
    go_ret
    exact ⟨rfl, HN2.out.2.2.2.2.2.1⟩
  | true =>
    cases bb with
    | false =>
      go_wp2_with (first
          | (go_at_call 8; refine (small_any _).mono ?_; rintro e w1 ⟨rfl, hb1⟩
             have HB1 := Lib.hid hb1
             clear hb1)
          | (go_at_call 13; refine (HFA.out _ HB1.out).mono ?_; rintro e w1' ⟨rfl, rfl⟩; clear HFA)
          | (go_at_call 13; refine (HFB.out _ HB1.out).mono ?_; rintro e w1' ⟨rfl, rfl⟩; clear HFB)
          | (go_at_call 21; refine (HWW.out _ HB1.out).mono ?_; rintro e w1' ⟨rfl, rfl⟩; clear HWW)
          | (go_at_call 14; clear start; refine (new_call HB1.out).mono ?_; rintro e w2 ⟨s, x, rfl, HN1⟩)
          | (go_at_call 14; refine (new_call HN1.out.2.2.2.2.2.1).mono ?_; rintro e w3 ⟨s', y, rfl, HN2⟩))
      go_ret
      exact ⟨rfl, HN2.out.2.2.2.2.2.1⟩
    | true =>
      cases bw with
      | false =>
        go_wp2_with (first
            | (go_at_call 8; refine (small_any _).mono ?_; rintro e w1 ⟨rfl, hb1⟩
               have HB1 := Lib.hid hb1
               clear hb1)
            | (go_at_call 13; refine (HFA.out _ HB1.out).mono ?_; rintro e w1' ⟨rfl, rfl⟩; clear HFA)
            | (go_at_call 13; refine (HFB.out _ HB1.out).mono ?_; rintro e w1' ⟨rfl, rfl⟩; clear HFB)
            | (go_at_call 21; refine (HWW.out _ HB1.out).mono ?_; rintro e w1' ⟨rfl, rfl⟩; clear HWW)
            | (go_at_call 14; clear start; refine (new_call HB1.out).mono ?_; rintro e w2 ⟨s, x, rfl, HN1⟩)
            | (go_at_call 14; refine (new_call HN1.out.2.2.2.2.2.1).mono ?_; rintro e w3 ⟨s', y, rfl, HN2⟩))
        go_ret
        exact ⟨rfl, HN2.out.2.2.2.2.2.1⟩
      | true =>
        have HSB := Lib.hid (fun (wr : World) (T : Ter) (x sy : Nat) (W : Str → Option (List Str)) (h : FgX w wr T x sy W) => h.set HB.out HBB.out.symm)
        have HSA := Lib.hid (fun (wr : World) (T : Ter) (x sy : Nat) (W : Str → Option (List Str)) (h : FgX w wr T x sy W) => h.set HA.out HBA.out.symm)
        have hub : ∀ i, (runW (fun _ => none) b i).isSome = true → i ∈ b.map StepD.id := fun i h => left_run b i h
        have hul : (b.map StepD.id).length ≤ 1000000 := by rw [List.length_map]; have := okF_len HBB.out.symm; omega
        have hwl : ws.length ≤ 1000000 := by have := okW_len HBW.out.symm; omega
        have HF1 := Lib.hid (fun (wr : World) (x y : Nat) (h : FgZ w wr x y (runW (fun _ => none) b) (runW (fun _ => none) b)) => h.findx HW.out hwl hub hul)
        have HF2 := Lib.hid (fun (wr : World) (x y : Nat) (v1 : Value) (l1 : List Str) (h : FgZ w wr x y (runW (fun _ => none) b) (runW (fun _ => none) b)) (ho : OwnS wr 0 v1 l1) => h.findy ho HW.out hwl hub hul)
        have HF3 := Lib.hid (fg_same w (runW (fun _ => none) b) ws)
        clear hub hul hwl
        go_wp2_with (first
            | (go_at_call 8; refine (small_any _).mono ?_; rintro e w1 ⟨rfl, hb1⟩
               have HB1 := Lib.hid hb1
               clear hb1)
            | (go_at_call 13; refine (HFA.out _ HB1.out).mono ?_; rintro e w1' ⟨rfl, rfl⟩; clear HFA)
            | (go_at_call 13; refine (HFB.out _ HB1.out).mono ?_; rintro e w1' ⟨rfl, rfl⟩; clear HFB)
            | (go_at_call 21; refine (HWW.out _ HB1.out).mono ?_; rintro e w1' ⟨rfl, rfl⟩; clear HWW)
            | (go_at_call 14; clear start; refine (new_call HB1.out).mono ?_; rintro e w2 ⟨s, x, rfl, HN1⟩)
            | (go_at_call 14; refine (new_call HN1.out.2.2.2.2.2.1).mono ?_; rintro e w3 ⟨s', y, rfl, HN2⟩)
            | (go_at_call 22; refine (HSA.out _ _ _ _ _ (fgx_new HN1.out HN2.out)).mono ?_; rintro e w4 ⟨rfl, H4⟩; clear HSA))
        obtain ⟨T, H5⟩ : ∃ T : Ter, Hid (FgX w w4 T x s' (runW (fun _ => none) a)) := ⟨_, H4⟩
        clear H4
        have hn40 : n ≤ 40 := by have := okF_len HBA.out.symm; have := HN.out; omega
        go_loopw [13] (fun t wr => ∃ (j : Nat) (Wj : Str → Option (List Str)), j ≤ n ∧ t = .int .i64 j ∧ Hid (Left Wj (a.take (n - j)) ∧ FgX w wr T x s' Wj)) (fun t _ => n - (intOf t).toNat)
        case atStart => exact ⟨0, _, by omega, rfl, Lib.hid ⟨by rw [HN.out, Nat.sub_zero, List.take_length]; exact left_run a, H5.out⟩⟩
        case round =>
          obtain ⟨j, Wj, hj, rfl, hst⟩ := hrel
          by_cases hjn : j < n
          · obtain ⟨k, hk⟩ : ∃ k, n = j + 1 + k := ⟨n - (j + 1), by omega⟩
            have hkl : k < a.length := by have := HN.out; omega
            obtain ⟨b', o', rfl, hlt, c0, c1, c2, c3, hw⟩ := HCA.out k hkl
            have hjI : (j : Int) < n := by omega
            have hkI : (n : Int) - 1 - (j : Int) = (k : Int) := by omega
            have hkn : (k : Int) < n := by omega
            have hk0 : (0 : Int) ≤ k := by omega
            have d1 := (hst.out.2.2.2.2.1.cell (p := ⟨b', o' + k * 4 + 1, none⟩) hlt).trans c1
            obtain ⟨id, hid⟩ : ∃ id, id = a[k].id := ⟨_, rfl⟩
            rw [← hid] at d1
            have HID := Lib.hid hid
            have HRM := Lib.hid (hst.out.2.rm id)
            have HK := Lib.hid hk
            clear c0 c1 c2 c3 hw hid hk
            go_wp2_with (go_at_call 17; refine HRM.out.mono ?_; rintro e w5 ⟨rfl, h5⟩)
            go_roundw
            case rel =>
              refine ⟨j + 1, _, by omega, by go_num, Lib.hid ⟨?_, h5.out⟩⟩
              have h1 := hst.out.1
              have e1 : n - j = k + 1 := by have := HK.out; omega
              have e2 : n - (j + 1) = k := by have := HK.out; omega
              rw [e1] at h1
              rw [e2]
              exact h1.rm hkl HID.out
            case measure => simp [intOf]; omega
          · obtain rfl : j = n := by omega
            have hnil : Wj = fun _ => none := by
              have h1 := hst.out.1
              rw [Nat.sub_self, List.take_zero] at h1
              exact h1.none
            subst hnil
            have H6 := Lib.hid hst.out.2
            clear hst H5
            go_wp2_with (first
              | (go_at_call 22; refine (HSB.out _ _ _ _ _ H6.out).mono ?_; rintro e w6 ⟨rfl, H7⟩; clear H6)
              | (go_at_call 22; refine (H7.out.sety HN2.out.1 HB.out HBB.out.symm).mono ?_; rintro e w7 ⟨rfl, H8⟩; clear H7)
              | (go_at_call 19; refine (HF1.out _ _ _ H8.out).mono ?_; rintro e w8 ⟨v1, l1, rfl, h8⟩; clear H8)
              | (go_at_call 19; refine (HF2.out _ _ _ _ _ h8.out.2.2.1 h8.out.1).mono ?_; rintro e w9 ⟨v2, l2, rfl, h9⟩)
              | (go_at_call 10; refine (HF3.out _ _ _ _ _ h8.out.2.1 h8.out.2.2.2 h9.out).mono ?_; rintro e w10 ⟨rfl, h10⟩))
            go_ret
            exact ⟨rfl, h10.out⟩
end Go.Proofs.Ytokfiikpfckahaa
