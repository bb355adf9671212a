/- The contract of the reference's Cut. Condition: the net lies in memory as stated. -/
import Derived.Test.YtdkpgjhjdnfieaaBd
set_option linter.unusedVariables false
set_option linter.unusedSimpArgs false
namespace Go.Proofs.Ytdkpgjhjdnfieaa
open Go.RowKit Go.Mf
set_option maxRecDepth 100000

def rcuts (n : Nat) (cuts : List (Int × Int)) (a b : Int) (o : Bool) : List (Int × Int) := if isLink n a b = true then keepC cuts a b cuts.length ++ (if o = true then [(a, b)] else []) else cuts
def RCutPost (w : World) (T : Nat → Prop) (y n : Nat) (L : Value) (l : List RM) (cuts : List (Int × Int)) (a b : Int) (o : Bool) : Ending → World → Prop := fun e w' =>
  e = .returned (.bool (isLink n a b)) ∧ ∃ T' C', RefIn w' T' y n L C' l (rcuts n cuts a b o) ∧ RFr T T' y w w'

/-- an element behind the others, as append leaves it -/
theorem push_any {w wk w3 : World} {T : Nat → Prop} {y : Nat} {s u : Value} {cuts : List (Int × Int)} {gs : List Value} {p : Int × Int} (hT : ∀ k, T k → k < w.heap.size) (h1 : Below w.heap.size w wk) (hg : wk.ownsRow w.heap.size 55 1 s cuts.length gs)
    (hc : ∀ (i : Nat) (p : Int × Int), cuts[i]? = some p → ∃ u, gs[i]? = some u ∧ cutCell wk (fun k => T k ∨ w.heap.size ≤ k ∧ k < wk.heap.size) y u p) (hb : Below wk.heap.size wk w3) (hu : cutCell w3 (fun k => T k ∨ w.heap.size ≤ k ∧ k < w3.heap.size) y u p)
    {v' : Value} {w4 : World} (hown : w4.ownsRow w.heap.size 55 1 v' (cuts.length + 1) (gs ++ [u])) (hgr : w3.grownBy w4 s.ownBlock) : CutsAre w w4 T y v' (cuts ++ [p]) := by
  have hs1 := h1.size
  have hs2 := hb.size
  have hs3 := hgr.size
  have hg3 : w3.ownsRow w.heap.size 55 1 s cuts.length gs := own_heap hg (fun g _ hlt => hb.block g hlt)
  refine CutsAre.push hT (h1.trans (hb.mono hs1)) (fun i p hp => ?_) (by have := hg.1; omega) hu (fun k hk hn => hgr.block k hk hn) ((h1.trans (hb.mono hs1)).grown hgr (by omega) (fun q hq => (hg3.lt q hq).1)) hs3 hg3 hown
  obtain ⟨u', hu', q⟩ := hc i p hp
  exact ⟨u', hu', q.keep (fun k hk hl => hk.imp id (fun h => by omega)) (fun k _ _ _ hl => hb.block k hl)⟩

set_option maxHeartbeats 1000000 in
theorem rcut_any {w : World} {T : Nat → Prop} {y n : Nat} {L C : Value} {l : List RM} {cuts : List (Int × Int)} (h : RefIn w T y n L C l cuts) (hl : cuts.length ≤ 1000) (a b : Int) (o : Bool) :
    Calls Try.prog 22 #[.pointer (some ⟨y, 0, none⟩), .int .i64 a, .int .i64 b, .bool o] w (RCutPost w T y n L l cuts a b o) := by
  obtain ⟨i5, hi5, hz5, hz51, hz52⟩ := info_parts info55
  have HIS := Lib.hid (ris_any h a b)
  obtain ⟨il, hil⟩ : ∃ v, isLink n a b = v := ⟨_, rfl⟩
  have hpost : ∀ w', Hid ((∃ T' C', RefIn w' T' y n L C' l (if il = true then keepC cuts a b cuts.length ++ (if o = true then [(a, b)] else []) else cuts) ∧ RFr T T' y w w') → RCutPost w T y n L l cuts a b o (.returned (.bool il)) w') := fun w' hh => by
    unfold RCutPost rcuts
    rw [hil]
    exact ⟨rfl, hh⟩
  rw [hil] at HIS
  obtain ⟨_, _, _, _, ⟨aC, cC, rfl⟩⟩ := h.cells
  obtain ⟨m, hm⟩ : ∃ m, cuts.length = m := ⟨_, rfl⟩
  have HMM := Lib.hid hm
  have H := Lib.hid h
  have c2 : ∀ wr, Hid (Below w.heap.size w wr → wr.cell? ⟨y, 2, none⟩ = some (.slice aC m cC) ∧ wr.frozen? ⟨y, 2, none⟩ = false) := fun wr hb => by
    have hr := h.up hb
    have := hr.cells.2.2.1
    rw [hm] at this
    exact ⟨this, frozen_of_block hr.hy _⟩
  rw [hm] at hl
  clear h hil hm
  go_enter Try.func22, Try.ntmps22
  go_wp2_with fail
  refine HIS.out.mono ?_
  rintro e w1 ⟨rfl, rfl⟩
  clear HIS
  cases il with
  | false =>
    have HFIN := Lib.hid ((hpost w1).out ⟨T, _, by rw [if_neg (by decide)]; exact H.out, RFr.refl _ _ _⟩)
    go_wp2
    go_ret
    exact HFIN.out
  | true =>
    obtain ⟨w, rfl⟩ : ∃ v : World, v = w1 := ⟨_, rfl⟩
    go_wp2
    go_loopw [9, 10] (fun s q wr => ∃ (k : Nat) (av : Option Addr) (cv : Nat), k ≤ m ∧ q = .int .i64 k ∧ s = .slice av (keepC cuts a b k).length cv ∧ Hid (CutsAre w wr T y (.slice av (keepC cuts a b k).length cv) (keepC cuts a b k))) (fun _ q _ => m - (intOf q).toNat)
    case atStart => exact ⟨0, none, 0, by omega, rfl, rfl, Below.refl _ _, [], World.ownsRow_nil _ _ _ _, fun i p h => by simp [keepC] at h⟩
    case round =>
      obtain ⟨k, av, cv, hk, rfl, rfl, hst⟩ := hrel
      have hkl := keepC_le cuts a b k
      obtain ⟨kn, hkn2⟩ : ∃ kn, (keepC cuts a b k).length = kn := ⟨_, rfl⟩
      rw [hkn2] at hst hkl ⊢
      obtain ⟨wk, rfl⟩ : ∃ v : World, v = wr := ⟨_, rfl⟩
      have d2 := ((c2 wk).out hst.out.1).1
      by_cases hkn : k < m
      · obtain ⟨p, hp⟩ : ∃ p, cuts[k]? = some p := ⟨cuts[k]'(by rw [HMM.out]; exact hkn), List.getElem?_eq_getElem _⟩
        obtain ⟨g, c, g', c', e, q0, q1, q2⟩ := (H.out.up hst.out.1).cut hp
        simp only [Value.slice.injEq] at e
        obtain ⟨rfl, _, rfl⟩ := e
        have hs := keepC_succ (a := a) (b := b) hp
        obtain ⟨hbk, gs, hown, hcs⟩ := hst.out
        rw [hkn2] at hown
        have hel : cutCell (wk.alloc (.cells #[.slice (some ⟨g', 0, none⟩) 2 c'] 55)) (fun q => T q ∨ w.heap.size ≤ q ∧ q < (wk.alloc (.cells #[.slice (some ⟨g', 0, none⟩) 2 c'] 55)).heap.size) y (.slice (some ⟨g', 0, none⟩) 2 c') p := by
          obtain ⟨ug, hug, hcs0⟩ := (H.out.up hbk).hc
          obtain ⟨u, hu, q⟩ := hcs0 k p hp
          have hcl := hug.cells (g := g) rfl k u hu
          rw [Addr.add_lit, Nat.zero_add, q0] at hcl
          cases hcl
          exact q.keep (fun k h _ => .inl h) (fun k _ _ _ hl => Below.heap_alloc _ _ _ hl)
        have hpush : ∀ v' w4, w4.ownsRow w.heap.size 55 1 v' (kn + 1) (gs ++ [.slice (some ⟨g', 0, none⟩) 2 c']) → (wk.alloc (.cells #[.slice (some ⟨g', 0, none⟩) 2 c'] 55)).grownBy w4 (Value.slice av kn cv).ownBlock → CutsAre w w4 T y v' (keepC cuts a b k ++ [p]) := fun v' w4 ho hg =>
          push_any H.out.lt hbk (by rw [hkn2]; exact hown) hcs ((Below.refl _ _).alloc (Nat.le_refl _) _) hel (by rw [hkn2]; exact ho) hg
        have HNEW : Hid (∀ j u, [Value.slice (some ⟨g', 0, none⟩) 2 c'][j]? = some u → (wk.alloc (.cells #[.slice (some ⟨g', 0, none⟩) 2 c'] 55)).cell? ((⟨wk.heap.size, 0, none⟩ : Addr).add j) = some u) := fun j u hu => by
          rw [Addr.add_lit, cell_of_block (heap_alloc_new wk _), Nat.zero_add]
          simpa using hu
        have HSZ : Hid (w.heap.size ≤ wk.heap.size + 1) := by have := hbk.size; show w.heap.size ≤ wk.heap.size + 1; omega
        have HOWN := Lib.hid hown
        have HPU := Lib.hid hpush
        have HSUC := Lib.hid hs
        have HKN := Lib.hid hkn2
        have HST := Lib.hid hst.out
        obtain ⟨p1, p2⟩ := p
        simp only at q1 q2
        clear hst hs hown hcs hel hpush hkn2 hbk hp
        by_cases hf : p1 = a
        · have hf' : (p1 != a) = false := by simpa using hf
          by_cases ht : p2 = b
          · have ht' : (p2 != b) = false := by simpa using ht
            have HNX : Hid (CutsAre w wk T y (.slice av kn cv) (keepC cuts a b (k + 1))) := by
              have : keepC cuts a b (k + 1) = keepC cuts a b k := by rw [HSUC.out]; simp [hf, ht]
              rw [this]; exact HST.out
            have HLEN : Hid ((keepC cuts a b (k + 1)).length = kn) := by rw [show keepC cuts a b (k + 1) = keepC cuts a b k by rw [HSUC.out]; simp [hf, ht]]; exact HKN.out
            clear hf ht
            go_wp2
            go_roundw
            case rel => exact ⟨k + 1, av, cv, by omega, by go_num, by rw [HLEN.out], by rw [HLEN.out]; exact HNX.out⟩
            case measure => simp [intOf]; omega
          · have ht' : (p2 != b) = true := by simpa using ht
            have HPUSH : Hid (∀ v' w4, w4.ownsRow w.heap.size 55 1 v' (kn + 1) (gs ++ [.slice (some ⟨g', 0, none⟩) 2 c']) → (wk.alloc (.cells #[.slice (some ⟨g', 0, none⟩) 2 c'] 55)).grownBy w4 (Value.slice av kn cv).ownBlock → CutsAre w w4 T y v' (keepC cuts a b (k + 1))) := by
              have : keepC cuts a b (k + 1) = keepC cuts a b k ++ [(p1, p2)] := by rw [HSUC.out]; simp [hf, ht]
              rw [this]; exact HPU.out
            have HLEN : Hid ((keepC cuts a b (k + 1)).length = kn + 1) := by rw [show keepC cuts a b (k + 1) = keepC cuts a b k ++ [(p1, p2)] by rw [HSUC.out]; simp [hf, ht], List.length_append, HKN.out]; rfl
            clear hf ht HPU
            as_aux_lemma =>
              have HRES := Lib.hid (HPUSH.out)
              clear HPUSH
              go_wp2_with (at_builtin; refine wpList_append_own _ rfl _ _ 69 rfl w.heap.size 55 i5 _ 1 24 und69 hi5 hz5 hz51 hz52 rfl (by decide) (.slice av kn cv) kn gs rfl ?own ⟨wk.heap.size, 0, none⟩ 1 1 [.slice (some ⟨g', 0, none⟩) 2 c'] rfl rfl HNEW.out ?c2 ?c3 ?c4 ?c5 ?_)
              case own => exact HOWN.out.alloc _
              case c2 => first | exact rfl | exact fun u hu => by rw [List.mem_singleton] at hu; subst hu; rfl
              case c3 => simp only [maxLen]; omega
              case c4 => omega
              case c5 => first | exact HSZ.out | (simp; exact HSZ.out)
              intro v' w4 hown4 hgr hnil
              obtain ⟨a', c4, rfl⟩ := ownsRow_shape hown4
              have HNX := Lib.hid (HRES.out _ w4 hown4 hgr)
              clear HRES hown4 hgr hnil
              go_wp2
              go_roundw
              case rel => exact ⟨k + 1, a', c4, by omega, by go_num, by rw [HLEN.out], by rw [HLEN.out]; exact HNX.out⟩
              case measure => simp [intOf]; omega
        · have hf' : (p1 != a) = true := by simpa using hf
          have HPUSH : Hid (∀ v' w4, w4.ownsRow w.heap.size 55 1 v' (kn + 1) (gs ++ [.slice (some ⟨g', 0, none⟩) 2 c']) → (wk.alloc (.cells #[.slice (some ⟨g', 0, none⟩) 2 c'] 55)).grownBy w4 (Value.slice av kn cv).ownBlock → CutsAre w w4 T y v' (keepC cuts a b (k + 1))) := by
            have : keepC cuts a b (k + 1) = keepC cuts a b k ++ [(p1, p2)] := by rw [HSUC.out]; simp [hf]
            rw [this]; exact HPU.out
          have HLEN : Hid ((keepC cuts a b (k + 1)).length = kn + 1) := by rw [show keepC cuts a b (k + 1) = keepC cuts a b k ++ [(p1, p2)] by rw [HSUC.out]; simp [hf], List.length_append, HKN.out]; rfl
          clear hf HPU
          as_aux_lemma =>
            have HRES := Lib.hid (HPUSH.out)
            clear HPUSH
            go_wp2_with (at_builtin; refine wpList_append_own _ rfl _ _ 69 rfl w.heap.size 55 i5 _ 1 24 und69 hi5 hz5 hz51 hz52 rfl (by decide) (.slice av kn cv) kn gs rfl ?own ⟨wk.heap.size, 0, none⟩ 1 1 [.slice (some ⟨g', 0, none⟩) 2 c'] rfl rfl HNEW.out ?c2 ?c3 ?c4 ?c5 ?_)
            case own => exact HOWN.out.alloc _
            case c2 => first | exact rfl | exact fun u hu => by rw [List.mem_singleton] at hu; subst hu; rfl
            case c3 => simp only [maxLen]; omega
            case c4 => omega
            case c5 => first | exact HSZ.out | (simp; exact HSZ.out)
            intro v' w4 hown4 hgr hnil
            obtain ⟨a', c4, rfl⟩ := ownsRow_shape hown4
            have HNX := Lib.hid (HRES.out _ w4 hown4 hgr)
            clear HRES hown4 hgr hnil
            go_wp2
            go_roundw
            case rel => exact ⟨k + 1, a', c4, by omega, by go_num, by rw [HLEN.out], by rw [HLEN.out]; exact HNX.out⟩
            case measure => simp [intOf]; omega
      · obtain rfl : k = m := by omega
        cases o with
        | false =>
          have hfin := cset_fin H.out hst.out
          have f2 := ((c2 wk).out hst.out.1).2
          have HFIN := Lib.hid ((hpost _).out ⟨_, _, by show RefIn _ _ _ _ _ _ _ (keepC cuts a b cuts.length ++ []); rw [List.append_nil, HMM.out]; exact hfin.1, hfin.2⟩)
          clear hfin hst
          go_wp2
          go_ret
          exact HFIN.out
        | true =>
         as_aux_lemma =>
          have f2 : ∀ wr, Hid (Below w.heap.size w wr → wr.cell? ⟨y, 2, none⟩ = some (.slice aC k cC) ∧ wr.frozen? ⟨y, 2, none⟩ = false) := c2
          obtain ⟨hbk, gs, hown, hcs⟩ := hst.out
          rw [hkn2] at hown
          obtain ⟨x1, hx1⟩ : ∃ v, v = wk.alloc (.cells #[.int .i64 a, .int .i64 b] 3) := ⟨_, rfl⟩
          obtain ⟨x2, hx2⟩ : ∃ v, v = x1.alloc (.cells #[.slice (some ⟨wk.heap.size, 0, none⟩) 2 2] 55) := ⟨_, rfl⟩
          have hs1 : x1.heap.size = wk.heap.size + 1 := by rw [hx1]; simp
          have hb2 : Below wk.heap.size wk x2 := by rw [hx2, hx1]; exact ((Below.refl _ _).alloc (Nat.le_refl _) _).alloc (by simp) _
          have hel : cutCell x2 (fun q => T q ∨ w.heap.size ≤ q ∧ q < x2.heap.size) y (.slice (some ⟨wk.heap.size, 0, none⟩) 2 2) (a, b) := by
            have hyl := H.out.lt y H.out.ty
            have hs2 : x2.heap.size = wk.heap.size + 2 := by rw [hx2]; simp [hs1]
            have hbs := hbk.size
            refine ⟨wk.heap.size, 2, #[.int .i64 a, .int .i64 b], rfl, ⟨.inr (by omega), by omega⟩, ?_, rfl, rfl⟩
            rw [hx2, Below.heap_alloc _ _ _ (by omega), hx1]
            exact heap_alloc_new _ _
          have hpush : ∀ v' w4, w4.ownsRow w.heap.size 55 1 v' (kn + 1) (gs ++ [.slice (some ⟨wk.heap.size, 0, none⟩) 2 2]) → x2.grownBy w4 (Value.slice av kn cv).ownBlock → CutsAre w w4 T y v' (keepC cuts a b k ++ [(a, b)]) := fun v' w4 ho hg =>
            push_any H.out.lt hbk (by rw [hkn2]; exact hown) hcs hb2 hel (by rw [hkn2]; exact ho) hg
          have hnew : ∀ j u, [Value.slice (some ⟨wk.heap.size, 0, none⟩) 2 2][j]? = some u → x2.cell? ((⟨wk.heap.size + 1, 0, none⟩ : Addr).add j) = some u := fun j u hu => by
            rw [Addr.add_lit, ← hs1, hx2, cell_of_block (heap_alloc_new x1 _), Nat.zero_add]
            simpa using hu
          have hown2 : x2.ownsRow w.heap.size 55 1 (.slice av kn cv) kn gs := own_heap hown (fun g _ hlt => hb2.block g hlt)
          have hsz2 : w.heap.size ≤ x2.heap.size := by have := hbk.size; have := hb2.size; omega
          rw [hx2, hx1] at hpush hnew hown2 hsz2
          have HPU := Lib.hid hpush
          have HNEW := Lib.hid hnew
          have HOWN := Lib.hid hown2
          have HSZ := Lib.hid hsz2
          clear hbk hown hcs hx1 hx2 hs1 hb2 hel hpush hnew hown2 hsz2 hst
          go_wp2_with (at_builtin; refine wpList_append_own _ rfl _ _ 69 rfl w.heap.size 55 i5 _ 1 24 und69 hi5 hz5 hz51 hz52 rfl (by decide) (.slice av kn cv) kn gs rfl ?own ⟨wk.heap.size + 1, 0, none⟩ 1 1 [.slice (some ⟨wk.heap.size, 0, none⟩) 2 2] rfl rfl HNEW.out ?c2 ?c3 ?c4 ?c5 ?_)
          case own => exact HOWN.out
          case c2 => first | exact rfl | exact fun u hu => by rw [List.mem_singleton] at hu; subst hu; rfl
          case c3 => simp only [maxLen]; omega
          case c4 => omega
          case c5 => have := HSZ.out; simp at this; omega
          intro v' w4 hown4 hgr hnil
          obtain ⟨a', c4, rfl⟩ := ownsRow_shape hown4
          have hres := HPU.out _ w4 hown4 hgr
          have hfin := cset_fin H.out hres
          obtain ⟨d2, f3⟩ := (c2 w4).out hres.1
          have HFIN := Lib.hid ((hpost _).out ⟨_, _, by show RefIn _ _ _ _ _ _ _ (keepC cuts a b cuts.length ++ [(a, b)]); rw [HMM.out]; exact hfin.1, hfin.2⟩)
          clear hres hfin hown4 hgr hnil HPU
          go_wp2
          go_ret
          exact HFIN.out
end Go.Proofs.Ytdkpgjhjdnfieaa
