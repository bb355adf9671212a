/- The walk of NetCounts: it returns true and writes nothing that was there. Condition: its slice reads as a list of steps. -/
import Derived.Test.YtdkpgjhjdnfieaaAb
import Derived.Deep.CutBlock
set_option linter.unusedVariables false
set_option linter.unusedSimpArgs false
namespace Go.Proofs.Ytdkpgjhjdnfieaa
open Go.RowKit Go.Mf
set_option maxRecDepth 100000

def LawPost (w : World) : Ending → World → Prop := fun e w' => e = .returned (.bool true) ∧ Below w.heap.size w w'

theorem map_erase {α β : Type} (f : α → β) : ∀ (l : List α) (p : Nat), (l.map f).eraseIdx p = (l.eraseIdx p).map f
  | [], p => by simp
  | a :: l, 0 => by simp
  | a :: l, p + 1 => by simp [map_erase f l p]
theorem cnt_wo {w a b : World} {S : Nat → Prop} {x i j : Nat} {l : List (List Value)} {on : List Int} {o : Bool} {v v' : Value} {p : Nat} (h : Inv w S x (XC i j l o) a) (hr : Row w a S v on) (hn : Nums l i j (on.eraseIdx p)) (hp : p < on.length)
    (hown : b.ownsRow a.heap.size 3 1 v' (on.length - 1) ((on.map (Value.int .i64)).eraseIdx p)) (hb : Below a.heap.size a b) : CntSt w x i j (on.eraseIdx p) o v' b := by
  have e1 : (on.map (Value.int .i64)).eraseIdx p = (on.eraseIdx p).map (Value.int .i64) := map_erase _ _ _
  have e2 : on.length - 1 = (on.eraseIdx p).length := by rw [List.length_eraseIdx_of_lt hp]
  rw [e1, e2] at hown
  exact ⟨S, l, h.up hb, ⟨own_base hown h.2.2.size, fun g hg hs => by have := (hown.lt g hg).1; have := h.1.1 g hs; omega⟩, hn⟩

theorem cell_new_one (w : World) (u : Value) : ∀ j v, [u][j]? = some v → (w.alloc (.cells #[u] 3)).cell? ((⟨w.heap.size, 0, none⟩ : Addr).add j) = some v := fun j v hv => by
  rw [Addr.add_lit, cell_of_block (heap_alloc_new w _)]
  simpa using hv
theorem row_cell {w a : World} {S : Nat → Prop} {ov : Option Addr} {oc : Nat} {on : List Int} {p : Nat} {n : Int} (h : Row w a S (.slice ov on.length oc) on) (hp : on[p]? = some n) :
    ∃ g, ov = some ⟨g, 0, none⟩ ∧ ∀ wz : World, Row w wz (fun _ => False) (.slice ov on.length oc) on → wz.cell? ⟨g, p, none⟩ = some (.int .i64 n) := by
  have hl := (List.getElem?_eq_some_iff.1 hp).1
  rcases h.1.2 with ⟨h1, h2⟩ | ⟨g, cap, cur, h1, _⟩
  · omega
  · simp only [Value.slice.injEq] at h1
    obtain ⟨rfl, _⟩ := h1
    refine ⟨g, rfl, fun wz hz => ?_⟩
    have := hz.1.cells (g := g) rfl p (.int .i64 n) (by rw [List.getElem?_map, hp]; rfl)
    rw [Addr.add_lit, Nat.zero_add] at this
    exact this
theorem cnt_app {w a b : World} {S : Nat → Prop} {x i j : Nat} {l : List (List Value)} {on : List Int} {o : Bool} {v : Value} {n : Int} {g cap : Nat} {C : Array Value} (h : Inv w S x (XC i j l o) a) (hr : Row w a S v on) (hn : Nums l i j (on ++ [n]))
    (h3 : b.ownsRow w.heap.size 3 1 (.slice (some ⟨g, 0, none⟩) (on.length + 1) cap) (on.length + 1) (on.map (Value.int .i64) ++ [.int .i64 n])) (hg : (a.alloc (.cells C 3)).grownBy b v.ownBlock) (hor : v.ownBlock = some g ∨ g = a.heap.size + 1) :
    CntSt w x i j (on ++ [n]) o (.slice (some ⟨g, 0, none⟩) (on.length + 1) cap) b := by
  have hb : Below a.heap.size a (a.alloc (.cells C 3)) := (Below.refl _ a).alloc (Nat.le_refl _) _
  have e : on.length + 1 = (on ++ [n]).length := by simp
  have e2 : on.map (Value.int .i64) ++ [.int .i64 n] = (on ++ [n]).map (Value.int .i64) := by simp
  rw [e, e2] at h3
  rw [e]
  refine ⟨S, l, (h.up hb).row (hr.up hb) hg, ⟨h3, fun g' hg' hs => ?_⟩, hn⟩
  simp only [Value.ownBlock, Option.some.injEq] at hg'
  subst hg'
  rcases hor with hor | hor
  · exact hr.2 g hor hs
  · have := h.1.1 g hs; omega

theorem msg_box {c : List Value} {w W2 W3 : World} (hml : c.length = 34) (h2 : W2 = w.alloc (.cells zMsg.toArray 42)) (h3 : W3 = W2.setCells w.heap.size 0 c) :
    W2.heap[w.heap.size]? = some (.cells zMsg.toArray 42 (0, 0)) ∧ Below w.heap.size w W3 ∧ W3.heap[w.heap.size]? = some (.cells c.toArray 42 (0, 0)) := by
  have g2 : W2.heap[w.heap.size]? = some (.cells zMsg.toArray 42 (0, 0)) := by rw [h2]; exact heap_alloc_new w _
  have hb2 : Below w.heap.size w W2 := by rw [h2]; exact (Below.refl _ w).alloc (Nat.le_refl _) _
  have hg := setCells_heap c 0 g2
  rw [putL_all (by rw [hml]; rfl)] at hg
  have ho := (Only.refl w.heap.size W2).setCells c 0
  refine ⟨g2, ?_, by rw [h3]; exact hg⟩
  rw [h3]
  exact ⟨ho.os.trans hb2.os, ho.tape.trans hb2.tape, ho.output.trans hb2.output, by rw [ho.size]; exact hb2.size, fun k hk => by rw [ho.block k (by omega)]; exact hb2.block k hk⟩
theorem below_undrewN {B n : Nat} {w w' : World} (h : Below B (w.drewN n) w') : Below B w w' := ⟨h.os, h.tape, h.output, h.size, h.block⟩
theorem cnt_drew {w wr : World} {x i j : Nat} {on : List Int} {o : Bool} {v : Value} (h : CntSt w x i j on o v wr) (n : Nat) : CntSt w x i j on o v (wr.drewN n) := by
  obtain ⟨S, l, h1, h2, h3⟩ := h
  have hb : Below wr.heap.size wr (wr.drewN n) := below_drewN (Below.refl _ _) n
  exact ⟨S, l, h1.up hb, h2.up hb, h3⟩

def CntSt2 (w : World) (x i j : Nat) (on : List Int) (o : Bool) (v : Value) (q : Nat) (wr : World) : Prop :=
  ∃ S l, Inv w S x (XC i j l o) wr ∧ Row w wr S v on ∧ Nums l i j (on.drop q)
theorem cnt2_drew {w wr : World} {x i j q : Nat} {on : List Int} {o : Bool} {v : Value} (h : CntSt2 w x i j on o v q wr) (n : Nat) : CntSt2 w x i j on o v q (wr.drewN n) := by
  obtain ⟨S, l, h1, h2, h3⟩ := h
  have hb : Below wr.heap.size wr (wr.drewN n) := below_drewN (Below.refl _ _) n
  exact ⟨S, l, h1.up hb, h2.up hb, h3⟩
theorem drop_erase {α : Type} (l : List α) (q : Nat) : (l.drop q).eraseIdx 0 = l.drop (q + 1) := by
  rw [List.eraseIdx_zero, List.tail_drop]

set_option maxHeartbeats 4000000 in
theorem counts_raw (w : World) (S0 : Nat → Prop) (v : Value) (l : List StepD) (a b : Int) (hl : StepsIn w S0 v l) (hS0 : ∀ k, S0 k → k < w.heap.size) (ha : i64ok a) (hb : i64ok b) :
    Calls Try.prog 4 #[v, .int .i64 a, .int .i64 b] w (LawPost w) := by
  obtain ⟨av, cv, rfl, hlen, hrows⟩ := hl
  have HR := Lib.hid hrows
  have HS0 := Lib.hid hS0
  obtain ⟨len, hlenv⟩ : ∃ len, l.length = len := ⟨_, rfl⟩
  have HLEN := Lib.hid hlenv
  rw [hlenv] at hlen ⊢
  have pa := pick_any w a 4 ha (by omega) (by omega)
  clear hlenv hrows hS0
  obtain ⟨i, hi⟩ : ∃ i : Nat, a % 4 = i := ⟨(a % 4).toNat, by have := Int.emod_nonneg a (show (4 : Int) ≠ 0 by omega); omega⟩
  obtain ⟨j, hj⟩ : ∃ j : Nat, b % 4 = j := ⟨(b % 4).toNat, by have := Int.emod_nonneg b (show (4 : Int) ≠ 0 by omega); omega⟩
  have hi4 : i < 4 := by have := Int.emod_lt_of_pos a (show (0 : Int) < 4 by omega); omega
  have hj4 : j < 4 := by have := Int.emod_lt_of_pos b (show (0 : Int) < 4 by omega); omega
  have HI := Lib.hid hi
  have HJ := Lib.hid hj
  clear hi hj pa
  go_enter Try.func4, Try.ntmps4
  go_wp2_with fail
  refine (small_any _).mono ?_
  rintro e w1 ⟨rfl, hb1⟩
  go_wp2_with fail
  refine (new_any _ 4).mono ?_
  rintro e w2 ⟨x, rfl, hnet, hb2⟩
  rw [show many 4 = 4 from rfl, XC_zero i j] at hnet
  obtain ⟨S, hS⟩ : ∃ S : Nat → Prop, S = fun k => w1.heap.size ≤ k ∧ k < w2.heap.size := ⟨_, rfl⟩
  have hnet' : NetOk w2 S x (XC i j [] false) := by rw [hS]; exact ⟨fun k hk => hk.2, hnet⟩
  have INV : Hid (Inv w S x (XC i j [] false) w2) := ⟨hnet', fun k hk => by rw [hS] at hk; exact Nat.le_trans hb1.size hk.1, hb1.trans (hb2.mono hb1.size)⟩
  clear hnet hnet' hS hb1 hb2
  go_wp2_with fail
  refine (pick_any _ a 4 ha (by omega) (by omega)).mono ?_
  rintro e w3 ⟨rfl, rfl⟩
  rw [HI.out]
  go_wp2_with fail
  refine (pick_any _ b 4 hb (by omega) (by omega)).mono ?_
  rintro e w4 ⟨rfl, rfl⟩
  rw [HJ.out]
  clear ha hb HI HJ
  by_cases h60 : 60 < len
  · have h60' : decide ((60 : Int) < (len : Int)) = true := by simp; omega
    go_wp2
    go_ret
    exact ⟨rfl, INV.out.2.2⟩
  · have h60' : decide ((60 : Int) < (len : Int)) = false := by simp; omega
    have h60n : len ≤ 60 := by omega
    clear h60
    by_cases hij : i = j
    · subst hij
      have he : ((i : Int) == (i : Int)) = true := by simp
      go_wp2
      go_ret
      exact ⟨rfl, INV.out.2.2⟩
    · have he : ((i : Int) == (j : Int)) = false := by simp; omega
      have HL := Lib.hid (isLink_of hi4 hj4 hij)
      have HIJ := Lib.hid hij
      clear hij
      go_wp2
      go_loopw [11, 9, 10] (fun k v o wr => ∃ (n : Nat) (on : List Int) (of : Bool), n ≤ len ∧ k = .int .i64 n ∧ o = .bool of ∧ on.length ≤ n ∧ Hid (CntSt w x i j on of v wr)) (fun k _ _ _ => len - (intOf k).toNat)
      case atStart => exact ⟨0, [], false, by omega, rfl, rfl, by simp, S, [], INV.out, ⟨World.ownsRow_nil _ _ _ _, fun g hg => by simp [Value.ownBlock] at hg⟩, rfl, fun p c n h => by simp at h⟩
      case round =>
        obtain ⟨k, on, of, hk, rfl, rfl, honk, hst⟩ := hrel
        clear INV
        by_cases hkn : k < len
        · obtain ⟨ba, oa, rfl, hSb, hcells⟩ := HR.out (by intro e; have := HLEN.out; rw [e] at this; simp at this; omega)
          obtain ⟨s, hs⟩ : ∃ s, l[k]? = some s := ⟨l[k]'(by have := HLEN.out; omega), List.getElem?_eq_getElem _⟩
          obtain ⟨d0, _, _, d3, e0, _, _, e3, _⟩ := hcells k s hs
          obtain ⟨SS, ll, inv, hrow, hnums⟩ := hst.out
          have hba := HS0.out ba hSb
          have c0 : wr.cell? ⟨ba, oa + k * 38, none⟩ = some (.int .i64 s.d) := (World.cell?_of_block (inv.2.2.block ba hba)).trans d0
          have c3 : wr.cell? ⟨ba, oa + k * 38 + 3, none⟩ = some (.int .i64 s.i) := (World.cell?_of_block (inv.2.2.block ba hba)).trans d3
          obtain ⟨dd, hdd⟩ : ∃ dd, s.d = dd := ⟨_, rfl⟩
          obtain ⟨t, ht⟩ : ∃ t, s.i = t := ⟨_, rfl⟩
          rw [hdd] at c0 e0
          rw [ht] at c3 e3
          obtain ⟨ov, oc, rfl⟩ := ownsRow_shape hrow.1
          clear hs d0 d3 hcells hdd ht
          have hol : on.length ≤ 60 := by omega
          obtain ⟨inb, hinb⟩ : ∃ inb, inb = (decide (0 ≤ t) && decide (t < (on.length : Int))) := ⟨_, rfl⟩
          have HINB := Lib.hid hinb
          clear hinb
          go_upto_region 13 with fail
          go_cut [13] (fun s13 wx => s13 = .bool inb ∧ wx = wr)
          case first =>
            by_cases t0 : 0 ≤ t
            · have t0' : decide (0 ≤ t) = true := by simpa using t0
              by_cases t1 : t < on.length
              · have t1' : decide (t < (on.length : Int)) = true := by simpa using t1
                have HV := Lib.hid (HINB.out)
                clear t0 t1
                go_wp2
                go_meet
                exact ⟨by rw [HV.out, t0', t1']; rfl, rfl⟩
              · have t1' : decide (t < (on.length : Int)) = false := by simpa using t1
                have HV := Lib.hid (HINB.out)
                clear t0 t1
                go_wp2
                go_meet
                exact ⟨by rw [HV.out, t0', t1']; rfl, rfl⟩
            · have t0' : decide (0 ≤ t) = false := by simpa using t0
              have HV := Lib.hid (HINB.out)
              clear t0
              go_wp2
              go_meet
              exact ⟨by rw [HV.out, t0']; rfl, rfl⟩
          case rest =>
            obtain ⟨rfl, rfl⟩ := hcut
            obtain ⟨wr, rfl⟩ : ∃ v : World, v = wc := ⟨_, rfl⟩
            go_upto_region 16 with fail
            go_wp2_with fail
            have hp := pick_any wr dd 8 e0 (by omega) (by omega)
            obtain ⟨d, hd⟩ : ∃ d : Int, dd % 8 = d := ⟨_, rfl⟩
            have hd0 : 0 ≤ d := by have := Int.emod_nonneg dd (show (8 : Int) ≠ 0 by omega); omega
            have hd8 : d < 8 := by have := Int.emod_lt_of_pos dd (show (0 : Int) < 8 by omega); omega
            rw [hd] at hp
            have HP := Lib.hid hp
            refine hp.mono ?_
            rintro e w5 ⟨rfl, rfl⟩
            have INV := Lib.hid inv
            have HROW := Lib.hid hrow
            have HNUM := Lib.hid hnums
            clear hp hd hst inv hrow hnums HR HS0 hSb
            go_upto_block 2 with fail
            go_cut [9, 10, 14, 15] (fun s9 s10 s14 s15 wx => ∃ (on' : List Int) (of' ok : Bool), s10 = .bool of' ∧ s14 = .bool ok ∧ s15 = .bool ok ∧ on'.length ≤ k + 1 ∧ Hid (CntSt w x i j on' of' s9 wx))
            case first =>
              have hlen2 := HNUM.out.1
              have hll60 : ll.length ≤ 60 := by omega
              have hcase : d = 0 ∨ d = 1 ∨ d = 2 ∨ d = 3 ∨ d = 4 ∨ d = 5 ∨ d = 6 ∨ d = 7 := by omega
              have HLL := Lib.hid hlen2
              clear hlen2 hd0 hd8 c3
              rcases hcase with rfl | rfl | rfl | rfl | rfl | rfl | rfl | rfl
              case inl =>
                as_aux_lemma =>
                  cases of with
                  | true =>
                    go_wp2_with fail
                    refine (receipt_any _ i j k).mono ?_
                    rintro e w6 ⟨rfl, hb⟩
                    replace INV := Lib.hid (INV.out.up hb)
                    replace HROW := Lib.hid (HROW.out.up hb)
                    clear hb
                    go_wp2_with fail
                    have hs := send_any _ _ (fun _ => False) x _ (rcpt i j k) (rcptM i j k) i j INV.out.1 (rcpt_in _ _ _ _ _) (fun _ h => h.elim) rfl rfl
                    rw [XC_send HL.out ll true (by omega)] at hs
                    refine hs.mono ?_
                    rintro e w7 ⟨S2, X', rfl, hnet, hfr, hno, _⟩
                    obtain ⟨rfl, rfl⟩ := hno rfl
                    replace INV := Lib.hid (INV.out.fr hnet hfr)
                    replace HROW := Lib.hid (HROW.out.fr hfr)
                    clear hs hnet hfr hno
                    go_wp2
                    go_meet
                    exact ⟨on, true, false, rfl, rfl, rfl, by omega, _, _, INV.out, HROW.out, HNUM.out⟩
                  | false =>
                    go_wp2_with fail
                    refine (receipt_any _ i j k).mono ?_
                    rintro e w6 ⟨rfl, hb⟩
                    replace INV := Lib.hid (INV.out.up hb)
                    replace HROW := Lib.hid (HROW.out.up hb)
                    clear hb
                    go_wp2_with fail
                    have hs := send_any _ _ (fun _ => False) x _ (rcpt i j k) (rcptM i j k) i j INV.out.1 (rcpt_in _ _ _ _ _) (fun _ h => h.elim) rfl rfl
                    rw [XC_send HL.out ll false (by omega)] at hs
                    refine hs.mono ?_
                    rintro e w7 ⟨S2, X', rfl, hnet, hfr, _, hyes⟩
                    obtain ⟨c', rfl, hm⟩ := hyes rfl
                    rw [XC_push] at hnet
                    replace INV := Lib.hid (INV.out.fr hnet hfr)
                    replace HROW := Lib.hid (HROW.out.fr hfr)
                    replace HNUM := Lib.hid (HNUM.out.push hm)
                    clear hs hnet hfr hyes hm
                    obtain ⟨i0, hi0, hz0, hz1, hz2⟩ := info_parts info3
                    go_wp2_with (at_builtin; refine wpList_append_lies _ rfl _ _ 55 rfl w.heap.size 3 i0 _ 1 8 und55 hi0 hz0 hz1 hz2 rfl (by decide) _ on.length (on.map (Value.int .i64)) rfl ?own ⟨w7.heap.size, 0, none⟩ 1 1 [.int .i64 k] rfl rfl ?c1 ?c2 (by decide) ?c3 ?c4 ?c5 _ rfl ?_)
                    case own => exact HROW.out.1.alloc _
                    case c1 => exact cell_new_one w7 _
                    case c2 => exact fun u hu => by rw [List.mem_singleton] at hu; subst hu; rfl
                    case c3 => simp only [maxLen]; omega
                    case c4 => omega
                    case c5 => exact Nat.le_trans INV.out.2.2.size (by simp)
                    intro g cap w8 h3 hg hor hlt8
                    have HST := Lib.hid (cnt_app (o := false) INV.out HROW.out HNUM.out h3 hg hor)
                    clear h3 hg hor hlt8 i0 hi0 hz0 hz1 hz2
                    go_wp2
                    go_meet
                    exact ⟨on ++ [(k : Int)], false, true, rfl, rfl, rfl, by simp; omega, HST.out⟩
              case inr.inl =>
                as_aux_lemma =>
                  cases of with
                  | true =>
                    go_wp2_with fail
                    refine (receipt_any _ i j k).mono ?_
                    rintro e w6 ⟨rfl, hb⟩
                    replace INV := Lib.hid (INV.out.up hb)
                    replace HROW := Lib.hid (HROW.out.up hb)
                    clear hb
                    go_wp2_with fail
                    have hs := send_any _ _ (fun _ => False) x _ (rcpt i j k) (rcptM i j k) i j INV.out.1 (rcpt_in _ _ _ _ _) (fun _ h => h.elim) rfl rfl
                    rw [XC_send HL.out ll true (by omega)] at hs
                    refine hs.mono ?_
                    rintro e w7 ⟨S2, X', rfl, hnet, hfr, hno, _⟩
                    obtain ⟨rfl, rfl⟩ := hno rfl
                    replace INV := Lib.hid (INV.out.fr hnet hfr)
                    replace HROW := Lib.hid (HROW.out.fr hfr)
                    clear hs hnet hfr hno
                    go_wp2
                    go_meet
                    exact ⟨on, true, false, rfl, rfl, rfl, by omega, _, _, INV.out, HROW.out, HNUM.out⟩
                  | false =>
                    go_wp2_with fail
                    refine (receipt_any _ i j k).mono ?_
                    rintro e w6 ⟨rfl, hb⟩
                    replace INV := Lib.hid (INV.out.up hb)
                    replace HROW := Lib.hid (HROW.out.up hb)
                    clear hb
                    go_wp2_with fail
                    have hs := send_any _ _ (fun _ => False) x _ (rcpt i j k) (rcptM i j k) i j INV.out.1 (rcpt_in _ _ _ _ _) (fun _ h => h.elim) rfl rfl
                    rw [XC_send HL.out ll false (by omega)] at hs
                    refine hs.mono ?_
                    rintro e w7 ⟨S2, X', rfl, hnet, hfr, _, hyes⟩
                    obtain ⟨c', rfl, hm⟩ := hyes rfl
                    rw [XC_push] at hnet
                    replace INV := Lib.hid (INV.out.fr hnet hfr)
                    replace HROW := Lib.hid (HROW.out.fr hfr)
                    replace HNUM := Lib.hid (HNUM.out.push hm)
                    clear hs hnet hfr hyes hm
                    obtain ⟨i0, hi0, hz0, hz1, hz2⟩ := info_parts info3
                    go_wp2_with (at_builtin; refine wpList_append_lies _ rfl _ _ 55 rfl w.heap.size 3 i0 _ 1 8 und55 hi0 hz0 hz1 hz2 rfl (by decide) _ on.length (on.map (Value.int .i64)) rfl ?own ⟨w7.heap.size, 0, none⟩ 1 1 [.int .i64 k] rfl rfl ?c1 ?c2 (by decide) ?c3 ?c4 ?c5 _ rfl ?_)
                    case own => exact HROW.out.1.alloc _
                    case c1 => exact cell_new_one w7 _
                    case c2 => exact fun u hu => by rw [List.mem_singleton] at hu; subst hu; rfl
                    case c3 => simp only [maxLen]; omega
                    case c4 => omega
                    case c5 => exact Nat.le_trans INV.out.2.2.size (by simp)
                    intro g cap w8 h3 hg hor hlt8
                    have HST := Lib.hid (cnt_app (o := false) INV.out HROW.out HNUM.out h3 hg hor)
                    clear h3 hg hor hlt8 i0 hi0 hz0 hz1 hz2
                    go_wp2
                    go_meet
                    exact ⟨on ++ [(k : Int)], false, true, rfl, rfl, rfl, by simp; omega, HST.out⟩
              case inr.inr.inl =>
                as_aux_lemma =>
                  cases of with
                  | true =>
                    go_wp2_with fail
                    refine (receipt_any _ i j k).mono ?_
                    rintro e w6 ⟨rfl, hb⟩
                    replace INV := Lib.hid (INV.out.up hb)
                    replace HROW := Lib.hid (HROW.out.up hb)
                    clear hb
                    go_wp2_with fail
                    have hs := send_any _ _ (fun _ => False) x _ (rcpt i j k) (rcptM i j k) i j INV.out.1 (rcpt_in _ _ _ _ _) (fun _ h => h.elim) rfl rfl
                    rw [XC_send HL.out ll true (by omega)] at hs
                    refine hs.mono ?_
                    rintro e w7 ⟨S2, X', rfl, hnet, hfr, hno, _⟩
                    obtain ⟨rfl, rfl⟩ := hno rfl
                    replace INV := Lib.hid (INV.out.fr hnet hfr)
                    replace HROW := Lib.hid (HROW.out.fr hfr)
                    clear hs hnet hfr hno
                    go_wp2
                    go_meet
                    exact ⟨on, true, false, rfl, rfl, rfl, by omega, _, _, INV.out, HROW.out, HNUM.out⟩
                  | false =>
                    go_wp2_with fail
                    refine (receipt_any _ i j k).mono ?_
                    rintro e w6 ⟨rfl, hb⟩
                    replace INV := Lib.hid (INV.out.up hb)
                    replace HROW := Lib.hid (HROW.out.up hb)
                    clear hb
                    go_wp2_with fail
                    have hs := send_any _ _ (fun _ => False) x _ (rcpt i j k) (rcptM i j k) i j INV.out.1 (rcpt_in _ _ _ _ _) (fun _ h => h.elim) rfl rfl
                    rw [XC_send HL.out ll false (by omega)] at hs
                    refine hs.mono ?_
                    rintro e w7 ⟨S2, X', rfl, hnet, hfr, _, hyes⟩
                    obtain ⟨c', rfl, hm⟩ := hyes rfl
                    rw [XC_push] at hnet
                    replace INV := Lib.hid (INV.out.fr hnet hfr)
                    replace HROW := Lib.hid (HROW.out.fr hfr)
                    replace HNUM := Lib.hid (HNUM.out.push hm)
                    clear hs hnet hfr hyes hm
                    obtain ⟨i0, hi0, hz0, hz1, hz2⟩ := info_parts info3
                    go_wp2_with (at_builtin; refine wpList_append_lies _ rfl _ _ 55 rfl w.heap.size 3 i0 _ 1 8 und55 hi0 hz0 hz1 hz2 rfl (by decide) _ on.length (on.map (Value.int .i64)) rfl ?own ⟨w7.heap.size, 0, none⟩ 1 1 [.int .i64 k] rfl rfl ?c1 ?c2 (by decide) ?c3 ?c4 ?c5 _ rfl ?_)
                    case own => exact HROW.out.1.alloc _
                    case c1 => exact cell_new_one w7 _
                    case c2 => exact fun u hu => by rw [List.mem_singleton] at hu; subst hu; rfl
                    case c3 => simp only [maxLen]; omega
                    case c4 => omega
                    case c5 => exact Nat.le_trans INV.out.2.2.size (by simp)
                    intro g cap w8 h3 hg hor hlt8
                    have HST := Lib.hid (cnt_app (o := false) INV.out HROW.out HNUM.out h3 hg hor)
                    clear h3 hg hor hlt8 i0 hi0 hz0 hz1 hz2
                    go_wp2
                    go_meet
                    exact ⟨on ++ [(k : Int)], false, true, rfl, rfl, rfl, by simp; omega, HST.out⟩
              case inr.inr.inr.inl =>
                as_aux_lemma =>
                  have hs := take_any _ _ x _ i j t INV.out.1
                  rw [XC_has HL.out, HLL.out, ← HINB.out] at hs
                  have HS := Lib.hid hs
                  clear hs
                  cases inb with
                  | true =>
                    have hin : 0 ≤ t ∧ t < on.length := by have := HINB.out; simp at this; omega
                    obtain ⟨p, rfl⟩ : ∃ p : Nat, t = p := ⟨t.toNat, by omega⟩
                    have hpn : p < on.length := by omega
                    have hex : ∃ (c : List Value) (n : Int) (wq : World) (Sq : Nat → Prop), ll[p]? = some c ∧ on[p]? = some n ∧ MsgIn wq Sq c (rcptM i j n) := by
                      have h1 := HLL.out
                      obtain ⟨wq, Sq, hm⟩ := HNUM.out.2 p (ll[p]'(by omega)) (on[p]'hpn) (List.getElem?_eq_getElem _) (List.getElem?_eq_getElem _)
                      exact ⟨_, _, wq, Sq, List.getElem?_eq_getElem _, List.getElem?_eq_getElem _, hm⟩
                    obtain ⟨c, n, wq, Sq, hc, hn, hm⟩ := hex
                    obtain ⟨g, rfl, hrc⟩ := row_cell HROW.out hn
                    have HRC := Lib.hid hrc
                    have HC := Lib.hid hc
                    have HM := Lib.hid hm
                    clear hin hc hn hm hrc
                    go_wp2_with fail
                    refine HS.out.mono ?_
                    rintro e w6 ⟨X', m, rfl, hnet, hfr, hml, hm1, _, hyes⟩
                    obtain ⟨rfl, hq⟩ := hyes rfl
                    simp only [Int.toNat_natCast] at hq
                    rw [XC_q] at hq
                    obtain rfl : c = m := by rw [HC.out] at hq; exact Option.some.inj hq
                    rw [XC_pop, Int.toNat_natCast] at hnet
                    replace INV := Lib.hid (INV.out.fr hnet hfr)
                    replace HROW := Lib.hid (HROW.out.fr hfr)
                    replace HNUM := Lib.hid (HNUM.out.erase (k := p) (by rw [HLL.out]; exact hpn))
                    obtain ⟨W2, hW2⟩ : ∃ W2, W2 = w6.alloc (.cells zMsg.toArray 42) := ⟨_, rfl⟩
                    obtain ⟨W3, hW3⟩ : ∃ W3, W3 = W2.setCells w6.heap.size 0 c := ⟨_, rfl⟩
                    obtain ⟨g2, hb3, hg3⟩ := msg_box hml hW2 hW3
                    have k13 : W3.cell? ⟨w6.heap.size, 13, none⟩ = some (.int .i64 n) := cell_at hg3 (by rw [sc_get HM.out (by decide) (by decide)]; rfl)
                    have k1 : W3.cell? ⟨w6.heap.size, 1, none⟩ = some (.int .i64 i) := cell_at hg3 (by rw [sc_get HM.out (by decide) (by decide)]; rfl)
                    have k2 : W3.cell? ⟨w6.heap.size, 2, none⟩ = some (.int .i64 j) := cell_at hg3 (by rw [sc_get HM.out (by decide) (by decide)]; rfl)
                    replace INV := Lib.hid (INV.out.up hb3)
                    replace HROW := Lib.hid (HROW.out.up hb3)
                    have c9 := HRC.out W3 ⟨HROW.out.1, fun _ _ h => h⟩
                    have HTH := Lib.hid (there_block g2)
                    have HMS : Hid (c.toArray.size = 34) := by show c.toArray.size = 34; simpa using hml
                    have HM1 := Lib.hid hm1
                    have HW2 : Hid (W2 = w6.alloc (.cells zMsg.toArray 42)) := hW2
                    have HW3 : Hid (W3 = W2.setCells w6.heap.size 0 c) := hW3
                    clear hnet hfr hml hm1 hyes hq hW2 hW3 g2 hb3 hg3 HS
                    go_upto_region 26 with (change wpList _ _ _ _ _ (w6.alloc (.cells zMsg.toArray 42)); rw [← HW2.out]; refine wpList_store_mid rfl 42 _ _ rfl w6.heap.size 0 c.toArray rfl rfl ?i2 ?i3 ?i4 ?_; (case i2 => rw [HMS.out]; exact HTH.out); (case i3 => rw [HMS.out]; exact size42); (case i4 => exact all_oneCell_toArray HM1.out))
                    change Code.wp _ _ _ _ (W2.setCells w6.heap.size 0 c)
                    rw [← HW3.out]
                    go_wp2
                    go_quiet (fail)
                    go_wp2_with fail
                    refine (without_any _ w.heap.size _ on.length p (on.map (Value.int .i64)) ?ow hpn (by intro u hu; obtain ⟨q, _, rfl⟩ := List.mem_map.1 hu; rfl) (by omega)).mono ?_
                    case ow => exact own_heap HROW.out.1 (fun _ _ _ => rfl)
                    rintro e w7 ⟨v', rfl, hown, hb⟩
                    have hst : CntSt w x i j (on.eraseIdx p) of v' w7 := cnt_wo INV.out HROW.out HNUM.out hpn hown (below_undrewN hb)
                    have HST := Lib.hid hst
                    clear hown hb hst
                    go_wp2
                    go_meet
                    exact ⟨on.eraseIdx p, of, true, rfl, rfl, rfl, by rw [List.length_eraseIdx_of_lt hpn]; omega, HST.out⟩
                  | false =>
                    go_wp2_with fail
                    refine HS.out.mono ?_
                    rintro e w6 ⟨X', m, rfl, hnet, hfr, hml, hm1, hno, _⟩
                    obtain ⟨rfl, hz⟩ := hno rfl
                    clear hz
                    replace INV := Lib.hid (INV.out.fr hnet hfr)
                    replace HROW := Lib.hid (HROW.out.fr hfr)
                    obtain ⟨W2, hW2⟩ : ∃ W2, W2 = w6.alloc (.cells zMsg.toArray 42) := ⟨_, rfl⟩
                    obtain ⟨W3, hW3⟩ : ∃ W3, W3 = W2.setCells w6.heap.size 0 m := ⟨_, rfl⟩
                    obtain ⟨g2, hb3, hg3⟩ := msg_box hml hW2 hW3
                    replace INV := Lib.hid (INV.out.up hb3)
                    replace HROW := Lib.hid (HROW.out.up hb3)
                    have HTH := Lib.hid (there_block g2)
                    have HMS : Hid (m.toArray.size = 34) := by show m.toArray.size = 34; simpa using hml
                    have HM1 := Lib.hid hm1
                    have HW2 : Hid (W2 = w6.alloc (.cells zMsg.toArray 42)) := hW2
                    have HW3 : Hid (W3 = W2.setCells w6.heap.size 0 m) := hW3
                    clear hnet hfr hml hm1 hno hW2 hW3 g2 hb3 hg3 HS
                    go_upto_region 26 with (change wpList _ _ _ _ _ (w6.alloc (.cells zMsg.toArray 42)); rw [← HW2.out]; refine wpList_store_mid rfl 42 _ _ rfl w6.heap.size 0 m.toArray rfl rfl ?i2 ?i3 ?i4 ?_; (case i2 => rw [HMS.out]; exact HTH.out); (case i3 => rw [HMS.out]; exact size42); (case i4 => exact all_oneCell_toArray HM1.out))
                    change Code.wp _ _ _ _ (W2.setCells w6.heap.size 0 m)
                    rw [← HW3.out]
                    go_wp2
                    go_quiet (fail)
                    go_wp2
                    go_meet
                    exact ⟨on, of, false, rfl, rfl, rfl, by omega, cnt_drew ⟨_, _, INV.out, HROW.out, HNUM.out⟩ _⟩
              case inr.inr.inr.inr.inl =>
                as_aux_lemma =>
                  have hs := lose_any _ _ x _ i j t INV.out.1
                  rw [XC_has HL.out, HLL.out, ← HINB.out] at hs
                  have HS := Lib.hid hs
                  clear hs
                  cases inb with
                  | true =>
                    have hin : 0 ≤ t ∧ t < on.length := by have := HINB.out; simp at this; omega
                    obtain ⟨p, rfl⟩ : ∃ p : Nat, t = p := ⟨t.toNat, by omega⟩
                    have hpn : p < on.length := by omega
                    clear hin
                    go_wp2_with fail
                    refine HS.out.mono ?_
                    rintro e w6 ⟨X', rfl, hnet, hfr, _, hyes⟩
                    obtain rfl := hyes rfl
                    rw [XC_pop, Int.toNat_natCast] at hnet
                    replace INV := Lib.hid (INV.out.fr hnet hfr)
                    replace HROW := Lib.hid (HROW.out.fr hfr)
                    replace HNUM := Lib.hid (HNUM.out.erase (k := p) (by rw [HLL.out]; exact hpn))
                    clear hnet hfr hyes HS
                    go_wp2_with fail
                    refine (without_any _ _ _ on.length p _ HROW.out.1 hpn (by intro u hu; obtain ⟨q, _, rfl⟩ := List.mem_map.1 hu; rfl) (by omega)).mono ?_
                    rintro e w7 ⟨v', rfl, hown, hb⟩
                    have hst : CntSt w x i j (on.eraseIdx p) of v' w7 := cnt_wo INV.out HROW.out HNUM.out hpn hown hb
                    have HST := Lib.hid hst
                    clear hown hb hst
                    go_wp2
                    go_meet
                    exact ⟨on.eraseIdx p, of, true, rfl, rfl, rfl, by rw [List.length_eraseIdx_of_lt hpn]; omega, HST.out⟩
                  | false =>
                    go_wp2_with fail
                    refine HS.out.mono ?_
                    rintro e w6 ⟨X', rfl, hnet, hfr, hno, _⟩
                    obtain rfl := hno rfl
                    replace INV := Lib.hid (INV.out.fr hnet hfr)
                    replace HROW := Lib.hid (HROW.out.fr hfr)
                    clear hnet hfr hno HS
                    go_wp2
                    go_meet
                    exact ⟨on, of, false, rfl, rfl, rfl, by omega, _, _, INV.out, HROW.out, HNUM.out⟩
              case inr.inr.inr.inr.inr.inl =>
                as_aux_lemma =>
                  cases inb with
                  | true =>
                    have hin : 0 ≤ t ∧ t < on.length := by have := HINB.out; simp at this; omega
                    obtain ⟨p, rfl⟩ : ∃ p : Nat, t = p := ⟨t.toNat, by omega⟩
                    have hpn : p < on.length := by omega
                    have hex : ∃ (c : List Value) (n : Int) (wq : World) (Sq : Nat → Prop), ll[p]? = some c ∧ on[p]? = some n ∧ MsgIn wq Sq c (rcptM i j n) := by
                      have h1 := HLL.out
                      obtain ⟨wq, Sq, hm⟩ := HNUM.out.2 p (ll[p]'(by omega)) (on[p]'hpn) (List.getElem?_eq_getElem _) (List.getElem?_eq_getElem _)
                      exact ⟨_, _, wq, Sq, List.getElem?_eq_getElem _, List.getElem?_eq_getElem _, hm⟩
                    obtain ⟨c, n, wq, Sq, hc, hn, hm⟩ := hex
                    have hs := twice_any w5 _ (fun _ => False) x (XC i j ll of) (rcptM i j n) i j p INV.out.1 (fun _ => ⟨c, by simp only [Int.toNat_natCast]; rw [XC_q]; exact hc, rcpt_any_world hm⟩) (fun _ h => h.elim)
                    rw [XC_twice HL.out ll of p (by omega), HLL.out, ← HINB.out] at hs
                    have HS := Lib.hid hs
                    have HON := Lib.hid hn
                    have hrc : ∃ g, ov = some ⟨g, 0, none⟩ ∧ ∀ wz : World, Row w wz (fun _ => False) (.slice ov on.length oc) on → wz.cell? ⟨g, p, none⟩ = some (.int .i64 n) := row_cell HROW.out hn
                    obtain ⟨g, rfl, hrc⟩ := hrc
                    have HRC := Lib.hid hrc
                    clear hin hc hn hm hs hrc
                    go_wp2_with fail
                    refine HS.out.mono ?_
                    rintro e w6 ⟨S2, X', rfl, hnet, hfr, _, hyes⟩
                    obtain ⟨c', rfl, hm⟩ := hyes rfl
                    rw [XC_push] at hnet
                    replace INV := Lib.hid (INV.out.fr hnet hfr)
                    replace HROW := Lib.hid (HROW.out.fr hfr)
                    replace HNUM := Lib.hid (HNUM.out.push hm)
                    have c9 := HRC.out w6 ⟨HROW.out.1, fun _ _ h => h⟩
                    clear hnet hfr hyes hm HS
                    obtain ⟨i0, hi0, hz0, hz1, hz2⟩ := info_parts info3
                    go_wp2_with (at_builtin; refine wpList_append_lies _ rfl _ _ 55 rfl w.heap.size 3 i0 _ 1 8 und55 hi0 hz0 hz1 hz2 rfl (by decide) _ on.length (on.map (Value.int .i64)) rfl ?own ⟨w6.heap.size, 0, none⟩ 1 1 [.int .i64 n] rfl rfl ?c1 ?c2 (by decide) ?c3 ?c4 ?c5 _ rfl ?_)
                    case own => exact HROW.out.1.alloc _
                    case c1 => exact cell_new_one w6 _
                    case c2 => exact fun u hu => by rw [List.mem_singleton] at hu; subst hu; rfl
                    case c3 => simp only [maxLen]; omega
                    case c4 => omega
                    case c5 => exact Nat.le_trans INV.out.2.2.size (by simp)
                    intro g' cap w8 h3 hg hor hlt8
                    have HST := Lib.hid (cnt_app (o := of) INV.out HROW.out HNUM.out h3 hg hor)
                    clear h3 hg hor hlt8 i0 hi0 hz0 hz1 hz2 c9
                    go_wp2
                    go_meet
                    exact ⟨on ++ [n], of, true, rfl, rfl, rfl, by simp; omega, HST.out⟩
                  | false =>
                    have hs := twice_any w5 _ (fun _ => False) x (XC i j ll of) (rcptM i j 0) i j t INV.out.1 (fun h => by rw [XC_twice HL.out ll of t (by omega), HLL.out, ← HINB.out] at h; cases h) (fun _ h => h.elim)
                    rw [XC_twice HL.out ll of t (by omega), HLL.out, ← HINB.out] at hs
                    have HS := Lib.hid hs
                    clear hs
                    go_wp2_with fail
                    refine HS.out.mono ?_
                    rintro e w6 ⟨S2, X', rfl, hnet, hfr, hno, _⟩
                    obtain ⟨rfl, rfl⟩ := hno rfl
                    replace INV := Lib.hid (INV.out.fr hnet hfr)
                    replace HROW := Lib.hid (HROW.out.fr hfr)
                    clear hnet hfr hno HS
                    go_wp2
                    go_meet
                    exact ⟨on, of, false, rfl, rfl, rfl, by omega, _, _, INV.out, HROW.out, HNUM.out⟩
              case inr.inr.inr.inr.inr.inr.inl =>
                as_aux_lemma =>
                  go_wp2_with fail
                  refine HP.out.mono ?_
                  rintro e w6 ⟨rfl, rfl⟩
                  go_wp2_with fail
                  have hs := cut_ok INV.out.1 i j true
                  unfold CutOkPost at hs
                  rw [show isLink (XC i j ll of).n i j = true from HL.out, XC_cut HL.out] at hs
                  refine hs.mono ?_
                  rintro e w7 ⟨rfl, hnet, hfr⟩
                  replace INV := Lib.hid (INV.out.fr hnet hfr)
                  replace HROW := Lib.hid (HROW.out.fr hfr)
                  clear hs hnet hfr
                  go_wp2
                  go_meet
                  exact ⟨on, true, true, rfl, rfl, rfl, by omega, _, _, INV.out, HROW.out, HNUM.out⟩
              case inr.inr.inr.inr.inr.inr.inr =>
                as_aux_lemma =>
                  go_wp2_with fail
                  refine HP.out.mono ?_
                  rintro e w6 ⟨rfl, rfl⟩
                  go_wp2_with fail
                  have hs := cut_ok INV.out.1 i j false
                  unfold CutOkPost at hs
                  rw [show isLink (XC i j ll of).n i j = true from HL.out, XC_cut HL.out] at hs
                  refine hs.mono ?_
                  rintro e w7 ⟨rfl, hnet, hfr⟩
                  replace INV := Lib.hid (INV.out.fr hnet hfr)
                  replace HROW := Lib.hid (HROW.out.fr hfr)
                  clear hs hnet hfr
                  go_wp2
                  go_meet
                  exact ⟨on, false, true, rfl, rfl, rfl, by omega, _, _, INV.out, HROW.out, HNUM.out⟩
            case rest =>
              as_aux_lemma =>
                obtain ⟨on', of', ok, rfl, rfl, rfl, hon', hst⟩ := hcut
                clear HP INV HROW HNUM HINB e0 e3 c0 c3 hd0 hd8 honk
                obtain ⟨S2, l2, inv, hrow, hnums⟩ := hst.out
                obtain ⟨nv, nc, rfl⟩ := ownsRow_shape hrow.1
                have INV := Lib.hid inv
                have HROW := Lib.hid hrow
                have HNUM := Lib.hid hnums
                obtain ⟨n2, hn2⟩ : ∃ n2, on'.length = n2 := ⟨_, rfl⟩
                have HN2 := Lib.hid hn2
                have hl2 : Hid (l2.length = n2) := by show l2.length = n2; rw [hnums.1, hn2]
                rw [hn2] at hon' ⊢
                clear inv hrow hnums hst hn2
                have hok : (ok != ok) = false := by simp
                go_wp2_with fail
                have hs := len_ok INV.out.1 i j
                rw [XC_len HL.out, hl2.out] at hs
                refine hs.mono ?_
                rintro e w6 ⟨rfl, rfl⟩
                clear hs
                have hnn : ((n2 : Int) != (n2 : Int)) = false := by simp
                go_wp2_with fail
                have hs := total_any _ _ x _ INV.out.1 (XC_small of' (by rw [hl2.out]; omega))
                rw [XC_total hi4 hj4, hl2.out] at hs
                refine hs.mono ?_
                rintro e w7 ⟨rfl, hb⟩
                replace INV := Lib.hid (INV.out.up hb)
                replace HROW := Lib.hid (HROW.out.up hb)
                clear hs hb
                go_wp2_with fail
                have hs := off_ok INV.out.1 i j
                rw [XC_cutOf HL.out] at hs
                refine hs.mono ?_
                rintro e w8 ⟨rfl, rfl⟩
                clear hs
                have hoo : (of' != of') = false := by simp
                go_wp2
                go_roundw
                case rel => exact ⟨k + 1, on', of', by omega, by go_num, rfl, by rw [HN2.out]; omega, by rw [← HN2.out]; exact ⟨S2, l2, INV.out, HROW.out, HNUM.out⟩⟩
                case measure => simp [intOf]; omega
        · have hkn2 : k = len := by omega
          subst hkn2
          obtain ⟨SS, ll, inv, hrow, hnums⟩ := hst.out
          obtain ⟨ov, oc, rfl⟩ := ownsRow_shape hrow.1
          obtain ⟨n, hn⟩ : ∃ n, on.length = n := ⟨_, rfl⟩
          have HN := Lib.hid hn
          have HC0 : Hid (CntSt2 w x i j on of (.slice ov on.length oc) 0 wr) := ⟨SS, ll, inv, hrow, by rw [List.drop_zero]; exact hnums⟩
          rw [hn] at honk ⊢
          rw [hn] at HC0
          clear hkn hst inv hrow hnums hn HR HS0 hk HLEN
          go_wp2
          go_loopw [18] (fun s wx => ∃ q : Nat, q ≤ n ∧ s = .int .i64 q ∧ Hid (CntSt2 w x i j on of (.slice ov n oc) q wx)) (fun s _ => n - (intOf s).toNat)
          case atStart => exact ⟨0, by omega, rfl, HC0.out⟩
          case round =>
            obtain ⟨q, hq, rfl, hst⟩ := hrel
            obtain ⟨S2, l2, inv, hrow, hnums⟩ := hst.out
            have hl2 : l2.length = n - q := by rw [hnums.1, List.length_drop, HN.out]
            by_cases hqn : q < n
            · have hex : ∃ (c : List Value) (m : Int) (wq : World) (Sq : Nat → Prop), l2[0]? = some c ∧ on[q]? = some m ∧ MsgIn wq Sq c (rcptM i j m) := by
                have hnl := HN.out
                obtain ⟨wq, Sq, hm⟩ := hnums.2 0 (l2[0]'(by omega)) (on[q]'(by omega)) (List.getElem?_eq_getElem _) (by rw [List.getElem?_drop, Nat.add_zero]; exact List.getElem?_eq_getElem _)
                exact ⟨_, _, wq, Sq, List.getElem?_eq_getElem _, List.getElem?_eq_getElem _, hm⟩
              obtain ⟨c, m, wq, Sq, hc, hm, hmsg⟩ := hex
              have hrow2 : Row w wr S2 (.slice ov on.length oc) on := by rw [HN.out]; exact hrow
              obtain ⟨g, rfl, hrc⟩ := row_cell hrow2 hm
              rw [HN.out] at hrc
              have hs := take_any _ _ x _ i j 0 inv.1
              rw [show (XC i j l2 of).hasAt i j 0 = true from by rw [XC_has HL.out, hl2]; simp; omega] at hs
              have HS := Lib.hid hs
              have HC := Lib.hid hc
              have HM := Lib.hid hmsg
              have HRC := Lib.hid hrc
              have INV := Lib.hid inv
              have HROW := Lib.hid hrow
              have HNUM := Lib.hid hnums
              have HL2 := Lib.hid hl2
              clear hs hc hm hmsg hrc inv hrow hrow2 hnums hl2 hst HC0
              go_wp2_with fail
              refine HS.out.mono ?_
              rintro e w6 ⟨X', m', rfl, hnet, hfr, hml, hm1, _, hyes⟩
              obtain ⟨rfl, hq2⟩ := hyes rfl
              rw [show (0 : Int).toNat = 0 from rfl] at hq2
              simp only [Int.toNat_natCast] at hq2
              rw [XC_q] at hq2
              obtain rfl : c = m' := by rw [HC.out] at hq2; exact Option.some.inj hq2
              rw [show (XC i j l2 of).pop i j 0 = XC i j (l2.eraseIdx 0) of from XC_pop i j l2 of 0] at hnet
              replace INV := Lib.hid (INV.out.fr hnet hfr)
              replace HROW := Lib.hid (HROW.out.fr hfr)
              replace HNUM := Lib.hid (HNUM.out.erase (k := 0) (by rw [HL2.out]; omega))
              obtain ⟨W2, hW2⟩ : ∃ W2, W2 = w6.alloc (.cells zMsg.toArray 42) := ⟨_, rfl⟩
              obtain ⟨W3, hW3⟩ : ∃ W3, W3 = W2.setCells w6.heap.size 0 c := ⟨_, rfl⟩
              obtain ⟨g2, hb3, hg3⟩ := msg_box hml hW2 hW3
              have k13 : W3.cell? ⟨w6.heap.size, 13, none⟩ = some (.int .i64 m) := cell_at hg3 (by rw [sc_get HM.out (by decide) (by decide)]; rfl)
              replace INV := Lib.hid (INV.out.up hb3)
              replace HROW := Lib.hid (HROW.out.up hb3)
              have c9 := HRC.out W3 ⟨by rw [HN.out]; have := HROW.out.1; rw [HN.out] at this; exact this, fun _ _ h => h⟩
              have HTH := Lib.hid (there_block g2)
              have HMS : Hid (c.toArray.size = 34) := by show c.toArray.size = 34; simpa using hml
              have HM1 := Lib.hid hm1
              have HW2 : Hid (W2 = w6.alloc (.cells zMsg.toArray 42)) := hW2
              have HW3 : Hid (W3 = W2.setCells w6.heap.size 0 c) := hW3
              clear hnet hfr hml hm1 hyes hq2 hW2 hW3 g2 hb3 hg3 HS
              go_upto_region 50 with (change wpList _ _ _ _ _ (w6.alloc (.cells zMsg.toArray 42)); rw [← HW2.out]; refine wpList_store_mid rfl 42 _ _ rfl w6.heap.size 0 c.toArray rfl rfl ?i2 ?i3 ?i4 ?_; (case i2 => rw [HMS.out]; exact HTH.out); (case i3 => rw [HMS.out]; exact size42); (case i4 => exact all_oneCell_toArray HM1.out))
              change Code.wp _ _ _ _ (W2.setCells w6.heap.size 0 c)
              rw [← HW3.out]
              go_quiet (fail)
              go_wp2
              go_roundw
              case rel => exact ⟨q + 1, by omega, by go_num, cnt2_drew ⟨S2, l2.eraseIdx 0, INV.out, HROW.out, by have := HNUM.out; rw [drop_erase] at this; exact this⟩ _⟩
              case measure => simp [intOf]; omega
            · have hqn2 : q = n := by omega
              have hl0 : l2 = [] := List.length_eq_zero_iff.1 (by rw [hl2]; omega)
              subst hl0
              have INV := Lib.hid inv
              clear inv hrow hnums hst hl2 HC0 hqn2
              go_wp2_with fail
              have hs := total_any _ _ x _ INV.out.1 (XC_small of (by simp))
              rw [XC_total hi4 hj4] at hs
              refine hs.mono ?_
              rintro e w7 ⟨rfl, hb⟩
              replace INV := Lib.hid (INV.out.up hb)
              clear hs hb
              go_wp2
              go_ret
              exact ⟨rfl, INV.out.2.2⟩
end Go.Proofs.Ytdkpgjhjdnfieaa
