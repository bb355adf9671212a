/- The contract of Find. Condition: the index and the words lie in memory as stated; the ids are few. -/
import Derived.Test.YtokfiikpfckahaaI
import Derived.Maps.RangeWalk
set_option linter.unusedVariables false
set_option linter.unusedSimpArgs false
namespace Go.Proofs.Ytokfiikpfckahaa
open Go.RowKit Go.Lib Go.Ix Go.Sort Go.Mf
set_option maxRecDepth 100000

theorem nodup_le : ∀ {l U : List Str}, l.Nodup → (∀ x ∈ l, x ∈ U) → l.length ≤ U.length
  | [], _, _, _ => by simp
  | a :: l, U, hn, h => by
    have h1 := List.nodup_cons.1 hn
    have ha := h a (by simp)
    have := nodup_le (l := l) (U := U.erase a) h1.2 (fun x hx => (List.mem_erase_of_ne (fun e => h1.1 (by rw [← e]; exact hx))).2 (h x (List.mem_cons_of_mem _ hx)))
    have h2 := List.length_erase_of_mem ha
    have h3 := List.length_pos_of_mem ha
    simp
    omega

/-- what is found -/
def Found (W : Str → Option (List Str)) (ws l : List Str) : Prop := Asc l ∧ ∀ i, i ∈ l ↔ ws ≠ [] ∧ ∀ k ∈ ws, hasOf W k i = true

def FindPost (w : World) (W : Str → Option (List Str)) (ws : List Str) : Ending → World → Prop :=
  fun e w' => ∃ v l, e = .returned v ∧ OwnS w' w.heap.size v l ∧ Found W ws l ∧ Below w.heap.size w w'

/-- a key's map of ids, looked up and measured in every world with this heap -/
theorem ids_look {w : World} {B : Ter} {x mw mi : Nat} {fw fi : Str → Option Value} {W : Str → Option (List Str)} {has : Str → Str → Bool} (h : IxM w B x mw mi fw fi W has) (k : Str) :
    ∃ mv n, (∀ q, (Instr.lookup 54 (.map (some mi)) (encStr k) false).run Try.prog (w.drewN q) = .ok mv (w.drewN q)) ∧ (∀ q ty, (Builtin.len_ #[57] ty #[mv]).run Try.prog (w.drewN q) = .ok (.int .i64 (n : Nat)) (w.drewN q)) ∧
      ((mv = .map none ∧ ∀ i, has k i = false) ∨ ∃ m, mv = .map (some m) ∧ MapFn w m encStr (setFn has k)) := by
  refine ⟨(fi k).getD (.map none), ?_⟩
  have hl : ∀ q, (Instr.lookup 54 (.map (some mi)) (encStr k) false).run Try.prog (w.drewN q) = .ok ((fi k).getD (.map none)) (w.drewN q) := fun q => (h.ids.drewN q).lookup keyS und54 (zero57 _) k
  rcases h.sets k with ⟨h1, h2⟩ | ⟨m, h1, _, _, _, h5⟩
  · rw [h1] at hl ⊢
    refine ⟨0, hl, fun q ty => ?_, Or.inl ⟨rfl, h2⟩⟩
    simp [Builtin.len_, run_underlying und57]
    rfl
  · rw [h1] at hl ⊢
    obtain ⟨n, hn, _⟩ := h5.len und57
    exact ⟨n, hl, fun q ty => hn (w.drewN q) rfl ty, Or.inr ⟨m, rfl, h5⟩⟩

theorem _root_.Go.Mf.IterAt.left_eq {w : World} {m r cnt : Nat} {f : Str → Option Value} {done : List Str} (h : IterAt w m r encStr f done cnt) : w.rangeLeft m r = cnt := by
  obtain ⟨es, clock, l, since, seen, c0, h1, _, _, _, _, h6, _, _, _, h10, _⟩ := h
  simp only [World.rangeLeft, h1, h6]
  exact h10

/-- the state of Find's second loop; W3: the world ahead of the range; m: the rarest word's map -/
structure FSt (W3 : World) (B : Ter) (x m : Nat) (W : Str → Option (List Str)) (ws : List Str) (rr : Str) (v : Value) (L done : List Str) (cnt : Nat) (wr : World) : Prop where
  it : IterAt wr m W3.heap.size encStr (setFn (hasOf W) rr) done cnt
  own : OwnS wr W3.heap.size v L
  nodup : L.Nodup
  mem : ∀ i, i ∈ L ↔ i ∈ done ∧ ∀ k ∈ ws, hasOf W k i = true
  below : Below W3.heap.size W3 wr

theorem not_iter {w : World} {B : Nat} {v : Value} {L : List Str} (h : OwnS w B v L) {r : Nat} {a : Option Nat} {b : Nat} {s : Array Nat} {c : Nat} (hr : w.heap[r]? = some (.mapIter a b s c)) : v.ownBlock = none ∨ v.ownBlock ≠ some r := by
  rcases h.2 with ⟨rfl, _⟩ | ⟨g, cap, cur, rfl, _, hb, _⟩
  · exact Or.inl rfl
  · right
    show some g ≠ some r
    intro e
    cases e
    rw [hb] at hr
    cases hr

/-- a step of the range, the id in a cell of its own -/
theorem FSt.step {W3 wr w1 wz : World} {B : Ter} {x m : Nat} {W : Str → Option (List Str)} {ws : List Str} {rr k : Str} {v : Value} {L done : List Str} {cnt cnt' : Nat} (h : FSt W3 B x m W ws rr v L done cnt wr)
    (hit : IterAt w1 m W3.heap.size encStr (setFn (hasOf W) rr) (done ++ [k]) cnt') (hg : wr.grownBy w1 (some W3.heap.size)) (hz : Below w1.heap.size w1 wz) (hno : ¬ ∀ k' ∈ ws, hasOf W k' k = true) : FSt W3 B x m W ws rr v L (done ++ [k]) cnt' wz := by
  obtain ⟨a, s, c, hiter⟩ := h.it.iter
  have ho1 : OwnS w1 W3.heap.size v L := h.own.kept hg (not_iter h.own hiter)
  refine ⟨hit.of_heap (hz.block _ hit.fn.lt) (hz.block _ hit.lt), own_up ho1 hz, h.nodup, fun i => ?_, ?_⟩
  · rw [h.mem i, List.mem_append]
    constructor
    · rintro ⟨h1, h2⟩; exact ⟨Or.inl h1, h2⟩
    · rintro ⟨h1 | h1, h2⟩
      · exact ⟨h1, h2⟩
      · simp at h1; subst h1; exact absurd h2 hno
  · exact (h.below.grown hg h.below.size (fun q hq => by cases hq; exact Nat.le_refl _)).trans (hz.mono (by have := h.below.size; have := hg.size; omega))

/-- .. and the id is appended -/
theorem FSt.app {W3 wr w1 wz wb : World} {B : Ter} {x m : Nat} {W : Str → Option (List Str)} {ws : List Str} {rr k : Str} {v v' : Value} {L done : List Str} {cnt cnt' : Nat} (h : FSt W3 B x m W ws rr v L done cnt wr)
    (hit : IterAt w1 m W3.heap.size encStr (setFn (hasOf W) rr) (done ++ [k]) cnt') (hg : wr.grownBy w1 (some W3.heap.size)) (hz : Below w1.heap.size w1 wz) (hk : k ∉ done) (hyes : ∀ k' ∈ ws, hasOf W k' k = true)
    (ho : wb.ownsRow W3.heap.size 9 1 v' (L.length + 1) (L.map encStr ++ [encStr k])) (hgb : wz.grownBy wb v.ownBlock) : FSt W3 B x m W ws rr v' (L ++ [k]) (done ++ [k]) cnt' wb := by
  obtain ⟨a, s, c, hiter⟩ := h.it.iter
  have ho1 : OwnS w1 W3.heap.size v L := h.own.kept hg (not_iter h.own hiter)
  have hoz : OwnS wz W3.heap.size v L := own_up ho1 hz
  have hitz : IterAt wz m W3.heap.size encStr (setFn (hasOf W) rr) (done ++ [k]) cnt' := hit.of_heap (hz.block _ hit.fn.lt) (hz.block _ hit.lt)
  have hbz : Below W3.heap.size W3 wz := (h.below.grown hg h.below.size (fun q hq => by cases hq; exact Nat.le_refl _)).trans (hz.mono (by have := h.below.size; have := hg.size; omega))
  obtain ⟨a', s', c', hiter'⟩ := hitz.iter
  have hne1 : some W3.heap.size ≠ v.ownBlock := by
    rcases not_iter hoz hiter' with h1 | h1
    · rw [h1]; simp
    · exact Ne.symm h1
  have hne2 : some m ≠ v.ownBlock := by
    rcases hoz.2 with ⟨rfl, _⟩ | ⟨g, cap, cur, rfl, _, hb, _⟩
    · simp [Value.ownBlock]
    · show some m ≠ some g
      intro e
      cases e
      exact map_not_cells hitz.fn hb rfl
  refine ⟨hitz.of_heap (hgb.block _ hitz.fn.lt hne2) (hgb.block _ hitz.lt hne1), by simpa [OwnS] using ho, ?_, fun i => ?_, hbz.grown hgb hbz.size (fun q hq => (hoz.lt q hq).1)⟩
  · rw [List.nodup_append]
    refine ⟨h.nodup, by simp, ?_⟩
    intro a ha b hb
    simp at hb
    subst hb
    intro e
    subst e
    exact hk ((h.mem _).1 ha).1
  · rw [List.mem_append, h.mem i, List.mem_append]
    constructor
    · rintro (⟨h1, h2⟩ | h1)
      · exact ⟨Or.inl h1, h2⟩
      · refine ⟨Or.inr h1, ?_⟩
        simp at h1; subst h1; exact hyes
    · rintro ⟨h1 | h1, h2⟩
      · exact Or.inl ⟨h1, h2⟩
      · exact Or.inr h1

theorem FSt.done {W3 wr : World} {B : Ter} {x m : Nat} {W : Str → Option (List Str)} {ws : List Str} {rr : Str} {v : Value} {L done : List Str} {cnt : Nat} (h : FSt W3 B x m W ws rr v L done cnt wr) (hrr : rr ∈ ws)
    (hall : ∀ k, (setFn (hasOf W) rr k).isSome = true → k ∈ done) : Found W ws (sortS L) := by
  refine ⟨sortS_asc h.nodup, fun i => ?_⟩
  rw [sortS_mem, h.mem i]
  constructor
  · rintro ⟨_, h2⟩; exact ⟨(fun e => by rw [e] at hrr; cases hrr), h2⟩
  · rintro ⟨_, h2⟩
    refine ⟨hall i ?_, h2⟩
    simp [setFn, h2 rr hrr]

theorem FSt.few {W3 wr : World} {B : Ter} {x m : Nat} {W : Str → Option (List Str)} {ws U : List Str} {rr : Str} {v : Value} {L done : List Str} {cnt : Nat} (h : FSt W3 B x m W ws rr v L done cnt wr) (hrr : rr ∈ ws) (hU : ∀ i, (W i).isSome = true → i ∈ U) : L.length ≤ U.length := by
  refine nodup_le h.nodup (fun i hi => hU i ?_)
  have := ((h.mem i).1 hi).2 rr hrr
  unfold hasOf at this
  cases hw : W i with
  | none => rw [hw] at this; cases this
  | some ws => rfl

theorem sort_own {w : World} {B : Nat} {v : Value} {L : List Str} (h : OwnS w B v L) (hl : L.length ≤ 1000000) : Calls Try.prog 26 #[v] w fun e w' => e = .returned (.tuple #[]) ∧ Hid (OwnS w' B v (sortS L) ∧ Below B w w') := by
  rcases h.2 with ⟨rfl, h0⟩ | ⟨g, cap, cur, rfl, hbg, hb, h1, h2, h3, h4⟩
  · have : L = [] := List.eq_nil_of_length_eq_zero h0
    subst this
    refine (slices_Sort_string_none none 0 w).mono ?_
    rintro e w' ⟨rfl, rfl⟩
    exact ⟨rfl, Lib.hid ⟨by simpa [sortS] using ownS_nil _ _, Below.refl _ _⟩⟩
  · have hg : g < w.heap.size := (Array.getElem?_eq_some_iff.1 hb).1
    refine (slices_Sort_string g 0 cap L w (holds_of_block hb (by simpa using h4)) hg (by omega)).mono ?_
    rintro e w' ⟨rfl, nn, os, rfl⟩
    refine ⟨rfl, Lib.hid ⟨?_, (Below.refl B w).grown (grownBy_sorted _) (by omega) (fun q hq => by cases hq; exact hbg)⟩⟩
    have hs := ownsRow_sorted (n := nn) (os := os) (ts := sortS L) (sortS_len L) hbg hb h1 h2 h3
    unfold OwnS
    rw [sortS_len]
    exact hs

set_option maxHeartbeats 4000000 in
theorem find_any {w : World} {B : Ter} {x : Nat} {W : Str → Option (List Str)} {v : Value} {ws U : List Str} (h : IxAt w B x W) (hr : RowAt w v ws) (hlen : ws.length ≤ 1000000) (hU : ∀ i, (W i).isSome = true → i ∈ U) (hUl : U.length ≤ 1000000) :
    Calls Try.prog 19 #[.pointer (some ⟨x, 0, none⟩), v] w (FindPost w W ws) := by
  obtain ⟨p, cap, rfl, hc⟩ := hr
  obtain ⟨n, hn⟩ : ∃ n, n = ws.length := ⟨_, rfl⟩
  rcases Nat.eq_zero_or_pos n with h0 | hpos
  · have hws : ws = [] := List.eq_nil_of_length_eq_zero (by omega)
    subst hws
    clear hc h hU
    go_enter Try.func19, Try.ntmps19
    go_wp2
    go_ret
    exact ⟨_, [], rfl, ownS_nil _ _, ⟨List.Pairwise.nil, by simp⟩, (Below.refl _ _).alloc (Nat.le_refl _) _⟩
  · obtain ⟨b0, o0, hp, hb0, hcell0⟩ := hc 0 (by omega)
    subst hp
    obtain ⟨⟨mw, mi, fw, fi, hx⟩, hWn⟩ := h
    have hc2 : ∀ j (hj : j < ws.length), w.cell? ⟨b0, o0 + j, none⟩ = some (encStr ws[j]) := by
      intro j hj
      obtain ⟨b, o, e, _, h3⟩ := hc j hj
      cases e
      exact h3
    obtain ⟨A, hA⟩ : ∃ A, A = w.heap.size := ⟨_, rfl⟩
    obtain ⟨W2, hW2⟩ : ∃ W2, W2 = w.alloc (.cells #[.pointer (some ⟨x, 0, none⟩)] 31) := ⟨_, rfl⟩
    have hb2 : Below w.heap.size w W2 := by rw [hW2]; exact (Below.refl _ w).alloc (Nat.le_refl _) _
    have hx2 := hx.up hb2
    have ca : W2.cell? ⟨w.heap.size, 0, none⟩ = some (.pointer (some ⟨x, 0, none⟩)) := by
      have := alloc_cell0 w (.pointer (some ⟨x, 0, none⟩)) 31
      rw [← hW2] at this
      exact this
    rw [← hn]
    rw [← hn] at hlen
    obtain ⟨r0, hr0, hr1⟩ : ∃ r0, ws[0]? = some r0 ∧ ws[0]'(by omega) = r0 := ⟨_, List.getElem?_eq_getElem (by omega), rfl⟩
    rw [hr1, Nat.add_zero] at hcell0
    have hnI : ((n : Int) == 0) = false := by simp; omega
    have c00 : W2.cell? ⟨b0, o0, none⟩ = some (encStr r0) := (hb2.cell hb0).trans hcell0
    have HC := Lib.hid hc2
    have HX := Lib.hid hx2
    have HB := Lib.hid hb2
    have HN := Lib.hid hn
    have HR0 := Lib.hid hr0
    have HU := Lib.hid hU
    have HWN := Lib.hid hWn
    have HB0 := Lib.hid hb0
    have hW2' := hW2
    clear hc hc2 hx hx2 hb2 hn hr0 hr1 hU hWn hcell0 hb0 hW2
    go_enter Try.func19, Try.ntmps19
    go_upto_region 1 with fail
    rw [← hW2']
    clear hW2'
    have c1 : W2.cell? ⟨x, 1, none⟩ = some (.map (some mi)) := by rw [cell_of_block HX.out.blk]; rfl
    go_wp2
    go_loopw [18, 5] (fun t r wr => ∃ (j : Nat) (rr : Str), j ≤ n ∧ t = .int .i64 j ∧ r = encStr rr ∧ Hid (rr ∈ ws) ∧ ∃ q, wr = W2.drewN q) (fun t _ _ => n - (intOf t).toNat)
    case atStart => exact ⟨0, r0, by omega, rfl, rfl, Lib.hid (List.mem_of_getElem? HR0.out), 0, rfl⟩
    case round =>
      obtain ⟨j, rr, hj, rfl, rfl, hrr, q, rfl⟩ := hrel
      by_cases hjn : j < n
      · have hjI : (j : Int) < n := by omega
        have hj0 : (0 : Int) ≤ j := by omega
        obtain ⟨k, hk⟩ : ∃ k, ws[j]? = some k := ⟨_, List.getElem?_eq_getElem (by rw [← HN.out]; exact hjn)⟩
        have hcell : W2.cell? ⟨b0, o0 + j, none⟩ = some (encStr k) := by
          have hjl : j < ws.length := by rw [← HN.out]; exact hjn
          have := HC.out j hjl
          rw [List.getElem?_eq_getElem hjl] at hk
          rw [Option.some.inj hk] at this
          exact (HB.out.cell HB0.out).trans this
        obtain ⟨mv1, n1, hl1, hn1, _⟩ := ids_look HX.out k
        obtain ⟨mv2, n2, hl2, hn2, _⟩ := ids_look HX.out rr
        have HK := Lib.hid (List.mem_of_getElem? hk)
        clear hk
        by_cases hlt : (n1 : Int) < n2
        · go_wp2
          go_quiet (fail)
          go_wp2
          go_roundw
          case rel => exact ⟨j + 1, k, by omega, by go_num, rfl, HK, _, rfl⟩
          case measure => simp [intOf]; omega
        · have hlt2 : (n2 : Int) ≤ n1 := by omega
          go_wp2
          go_quiet (fail)
          go_wp2
          go_roundw
          case rel => exact ⟨j + 1, rr, by omega, by go_num, rfl, hrr, _, rfl⟩
          case measure => simp [intOf]; omega
      · obtain ⟨mv, nm, hl, _, hmv⟩ := ids_look HX.out rr
        have hl' := hl q
        obtain ⟨W3, hW3⟩ : ∃ W3, W3 = W2.drewN q := ⟨_, rfl⟩
        have c13 : W3.cell? ⟨x, 1, none⟩ = some (.map (some mi)) := by rw [hW3]; exact c1
        have ca3 : W3.cell? ⟨w.heap.size, 0, none⟩ = some (.pointer (some ⟨x, 0, none⟩)) := by rw [hW3]; exact ca
        have HB3 : Hid (Below W2.heap.size W2 W3) := by rw [hW3]; exact below_dn W2 q
        rw [← hW3] at hl' ⊢
        clear hl hW3 c1 ca c00
        rcases hmv with ⟨rfl, hno⟩ | ⟨m, rfl, hm⟩
        · have hrg := run_range_nilMap (P := Try.prog) W3 57 9 4 und57
          have hnx : ∀ ty, (Instr.next (.pointer (some ⟨W3.heap.size, 0, none⟩)) false ty).run Try.prog (W3.alloc (.mapIter none 0 #[] 0)) = _ := fun ty => run_next_nilMap W3 ty 0 0 #[]
          have HNO := Lib.hid hno
          clear hno
          obtain ⟨W4, hW4⟩ : ∃ W4, W4 = W3.alloc (.mapIter none 0 #[] 0) := ⟨_, rfl⟩
          rw [← hW4] at hrg hnx
          have HB4 : Hid (Below w.heap.size w W4) := by
            rw [hW4]
            exact ((HB.out.trans (HB3.out.mono HB.out.size)).alloc (by have := HB.out.size; have := HB3.out.size; omega) _)
          clear hW4
          go_wp2
          go_loopw [8] (fun o wr => o = .slice none 0 0 ∧ wr = W4) (fun _ _ => 0)
          case atStart => exact ⟨rfl, rfl⟩
          case round =>
            obtain ⟨rfl, rfl⟩ := hrel
            go_wp2_with (go_at_call 26; refine (slices_Sort_string_none none 0 _).mono ?_; rintro e w' ⟨rfl, hw⟩; obtain rfl := hw.symm)
            go_ret
            refine ⟨_, [], rfl, ownS_nil _ _, ⟨List.Pairwise.nil, fun i => ⟨(fun h => by cases h), fun h => ?_⟩⟩, HB4.out⟩
            have := h.2 rr hrr.out
            rw [HNO.out i] at this
            cases this
        · have hm3 : MapFn W3 m encStr (setFn (hasOf W) rr) := hm.of_heap (HB3.out.block _ hm.lt)
          obtain ⟨clock, cnt, hrg, hit⟩ := hm3.range (P := Try.prog) und57
          have HIT := Lib.hid hit
          obtain ⟨W4, hW4⟩ : ∃ W4, W4 = W3.alloc (.mapIter (some m) clock #[] clock) := ⟨_, rfl⟩
          have hst0 : FSt W3 B x m W ws rr (.slice none 0 0) [] [] cnt W4 := ⟨by rw [hW4]; exact hit, ownS_nil _ _, List.nodup_nil, by simp, by rw [hW4]; exact (Below.refl _ _).alloc (Nat.le_refl _) _⟩
          rw [← hW4] at hrg
          have HST0 := Lib.hid hst0
          clear hm hm3 hit hst0 hW4 HIT
          go_wp2
          go_loopw [8] (fun o wr => ∃ L done cnt, Hid (FSt W3 B x m W ws rr o L done cnt wr)) (fun _ wr => wr.rangeLeft m W3.heap.size)
          case atStart => exact ⟨[], [], cnt, HST0.out⟩
          case round =>
            obtain ⟨L, done, cnt0, hst⟩ := hrel
            have hmeas := hst.out.it.left_eq
            rcases hst.out.it.next keyS 0 with ⟨h0, hall, hrun⟩ | ⟨k, kv, w1, cnt1, hkd, hkv, hrun, hit1, hlt, hg1, hs1, hen⟩
            · have hfin := hst.out.done hrr.out hall
              have hsort := sort_own hst.out.own (Nat.le_trans (hst.out.few hrr.out HU.out) hUl)
              have HF := Lib.hid hfin
              have HS := Lib.hid hsort
              clear hall hfin hsort hmeas
              go_wp2_with (go_at_call 26; refine HS.out.mono ?_; rintro e w' ⟨rfl, hf⟩)
              go_ret
              have hb3 : Below w.heap.size w W3 := HB.out.trans (HB3.out.mono HB.out.size)
              exact ⟨_, sortS L, rfl, World.ownsRow.mono hf.out.1 hb3.size, HF.out, (hb3.trans (hst.out.below.mono hb3.size)).trans (hf.out.2.mono hb3.size)⟩
            · have HH := Lib.hid hkd
              have HIT1 := Lib.hid hit1
              have HG1 := Lib.hid hg1
              have HLT := Lib.hid hlt
              have HS1 := Lib.hid hs1
              have HME := Lib.hid hmeas
              clear hkd hkv hit1 hg1 hlt hs1 hmeas
              have hb3 : Below w.heap.size w W3 := HB.out.trans (HB3.out.mono HB.out.size)
              have hbw1 : Below W3.heap.size W3 w1 := hst.out.below.grown HG1.out hst.out.below.size (fun q hq => by cases hq; exact Nat.le_refl _)
              have hz : Below w1.heap.size w1 (w1.alloc (.cells #[.string ⟨k.toArray⟩] 9)) := (Below.refl _ _).alloc (Nat.le_refl _) _
              have hbz : Below W3.heap.size W3 (w1.alloc (.cells #[.string ⟨k.toArray⟩] 9)) := hbw1.trans (hz.mono hbw1.size)
              have hcf : Calls Try.prog 29 #[.slice (some ⟨b0, o0, none⟩) n cap, .func (Fn.func 30) #[] #[.pointer (some ⟨w.heap.size, 0, none⟩), .pointer (some ⟨w1.heap.size, 0, none⟩)]] (w1.alloc (.cells #[.string ⟨k.toArray⟩] 9)) fun e w' => e = .returned (.bool (ws.any fun k' => !(hasOf W k' k))) ∧ ∃ q, w' = (w1.alloc (.cells #[.string ⟨k.toArray⟩] 9)).drewN q := by
                have hix : IxAt W3 B x W := IxAt.up ⟨⟨mw, mi, fw, fi, HX.out⟩, HWN.out⟩ HB3.out
                have hrow : RowAt w (.slice (some ⟨b0, o0, none⟩) n cap) ws := ⟨_, cap, by rw [HN.out], fun j hj => ⟨b0, o0, rfl, HB0.out, HC.out j hj⟩⟩
                exact containsFunc_any (hix.up hbz) (hrow.up (hb3.trans (hbz.mono hb3.size))) (by rw [← HN.out]; exact hlen) k _ _ ((hbz.cell (World.block_lt_of_cell? _ _ ca3)).trans ca3) (alloc_cell0 w1 (.string ⟨k.toArray⟩) 9)
              have HCF := Lib.hid hcf
              have HBW1 := Lib.hid hbw1
              clear hcf hbw1 hb3 hz hbz
              cases hb : ws.any fun k' => !(hasOf W k' k) with
              | true =>
                rw [hb] at HCF
                have hno : ¬ ∀ k' ∈ ws, hasOf W k' k = true := by
                  intro hall
                  obtain ⟨k', h1, h2⟩ := List.any_eq_true.1 hb
                  rw [hall k' h1] at h2
                  cases h2
                have HNO := Lib.hid hno
                clear hno hb
                go_wp2_with (go_at_call 29; refine HCF.out.mono ?_; rintro e w' ⟨rfl, q', rfl⟩)
                go_roundw
                case rel => exact ⟨L, done ++ [k], cnt1, Lib.hid (hst.out.step HIT1.out HG1.out (((Below.refl _ _).alloc (Nat.le_refl _) _).trans ((below_dn _ q').mono (by simp))) HNO.out)⟩
                case measure =>
                  have hs := (hst.out.step HIT1.out HG1.out (((Below.refl _ _).alloc (Nat.le_refl _) _).trans ((below_dn (w1.alloc (.cells #[.string ⟨k.toArray⟩] 9)) q').mono (by simp))) HNO.out).it.left_eq
                  rw [hs, HME.out]
                  exact HLT.out
              | false =>
                rw [hb] at HCF
                have hyes : ∀ k' ∈ ws, hasOf W k' k = true := by
                  intro k' h1
                  have := (List.any_eq_false.1 hb) k' h1
                  simpa using this
                have HYES := Lib.hid hyes
                clear hyes hb
                have hapw : ∀ q', Hid (Below w1.heap.size w1 (((w1.alloc (.cells #[.string ⟨k.toArray⟩] 9)).drewN q').alloc (.cells #[.string ⟨k.toArray⟩] 9))) := fun q' =>
                  ((((Below.refl _ _).alloc (Nat.le_refl _) _).trans ((below_dn (w1.alloc (.cells #[.string ⟨k.toArray⟩] 9)) q').mono (by simp))).alloc (by simp [World.drewN]) _)
                have how : OwnS w1 W3.heap.size u8 L := by
                  obtain ⟨a, s, c, hiter⟩ := hst.out.it.iter
                  exact hst.out.own.kept HG1.out (not_iter hst.out.own hiter)
                have hfew : L.length ≤ 1000000 := Nat.le_trans (hst.out.few hrr.out HU.out) hUl
                have HOW := Lib.hid how
                have HFEW := Lib.hid hfew
                obtain ⟨i9, hi9, hz90, hz91, hz92⟩ := info_parts info9
                clear how hfew
                go_wp2_with (first
                  | (go_at_call 29; refine HCF.out.mono ?_; rintro e w' ⟨rfl, q', rfl⟩)
                  | (at_builtin; refine wpList_append_own _ rfl _ _ 23 rfl W3.heap.size 9 i9 _ 1 16 und23 hi9 hz90 hz91 hz92 rfl (by decide) _ _ _ rfl (own_up HOW.out (hapw q').out) ⟨w1.heap.size + 1, 0, none⟩ 1 1 [encStr k] rfl rfl ?c1 ?c2 ?c3 ?c4 ?c5 ?_))
                case c1 =>
                  intro j' u hj'
                  match j', hj' with
                  | 0, hj' =>
                    simp only [List.getElem?_cons_zero, Option.some.injEq] at hj'
                    subst hj'
                    have e : ((w1.alloc (.cells #[.string ⟨k.toArray⟩] 9)).drewN q').heap.size = w1.heap.size + 1 := by simp [World.drewN]
                    rw [← e]
                    exact alloc_cell0 _ _ _
                case c2 => intro u hu; simp at hu; subst hu; rfl
                case c3 => have := HFEW.out; unfold maxLen; omega
                case c4 => have := HFEW.out; omega
                case c5 => have := HBW1.out.size; have := (hapw q').out.size; omega
                intro v' wb hown' hgrow _
                have hfs := hst.out.app HIT1.out HG1.out (hapw q').out HH.out HYES.out hown' hgrow
                have HFS := Lib.hid hfs
                clear hown' hgrow hfs
                go_wp2
                go_roundw
                case rel => exact ⟨L ++ [k], done ++ [k], cnt1, HFS⟩
                case measure =>
                  rw [HFS.out.it.left_eq, HME.out]
                  exact HLT.out
end Go.Proofs.Ytokfiikpfckahaa
