/- The walk of NetApart: it returns true and writes nothing that was there. Condition: its slice reads as a list of steps, its step as a step. -/
import Derived.Test.YtdkpgjhjdnfieaaAh
import Derived.Deep.CutBlock
import Derived.Deep.QuietTactic
import Derived.BigQuiet
import Derived.IntWalk
set_option linter.unusedVariables false
set_option linter.unusedSimpArgs false
namespace Go.Proofs.Ytdkpgjhjdnfieaa
open Go.RowKit Go.Mf
set_option maxRecDepth 100000

def LawPost (w : World) : Ending → World → Prop := fun e w' => e = .returned (.bool true) ∧ Below w.heap.size w w'

theorem size44 : (Try.prog.info? 44).map (·.size) = some 38 := by kernel_rfl
theorem und44 : ∃ fs, Try.prog.underlying 44 = some (.struct fs) := ⟨_, rfl⟩
theorem step_range {w : World} {S : Nat → Prop} {b p : Nat} {s : StepD} (h : StepIn w S b p s) : ∃ cs : List Value, w.rangeAt b p (stepCells s.d s.f s.t s.i cs) ∧ MsgIn w S cs s.m ∧ cs[1]? = some (.int .i64 s.mf) ∧ cs[2]? = some (.int .i64 s.mt) ∧ i64ok s.d := by
  obtain ⟨h0, h1, h2, h3, hd, _, _, _, cs, h4, h5, h6, h7⟩ := h
  refine ⟨cs, fun j u hu => ?_, h5, h6, h7, hd⟩
  unfold stepCells at hu
  match j, hu with
  | 0, hu => simp at hu; subst hu; exact h0
  | 1, hu => simp at hu; subst hu; exact h1
  | 2, hu => simp at hu; subst hu; exact h2
  | 3, hu => simp at hu; subst hu; exact h3
  | j + 4, hu =>
    rw [List.getElem?_append_right (by simp)] at hu
    simp only [List.length_cons, List.length_nil, Nat.reduceAdd, Nat.add_sub_cancel] at hu
    rw [show p + (j + 4) = p + 4 + j by omega]
    exact h4 j u hu

def ApSt (U : World) (x k : Nat) (wr : World) : Prop := ∃ S X, Inv U S x X wr ∧ AllIn wr S X ∧ Diag X ∧ X.n = 5 ∧ ∀ i j, (X.q i j).length ≤ k

theorem info4 : (Try.prog.info? 4).map (fun i => (i.zero, i.size, i.bytes)) = some (some (.bool false), 1, 1) := by kernel_rfl
theorem und60 : Try.prog.underlying 60 = some (.slice 4) := by kernel_rfl
theorem total_bound {X : Nx} {b : Nat} (hn : X.n = 5) (h : ∀ i j, (X.q i j).length ≤ b) : X.total ≤ 5 * (5 * b) := by
  unfold Nx.total
  rw [hn]
  exact sumTo_le (fun i => sumTo_le (fun j => h i j) 5) 5

theorem app_below {W a b : World} {base : Nat} {e : TypeId} {sz : Nat} {v : Value} {n : Nat} {xs : List Value} {o : Obj} (h : Below base W a) (hb : base ≤ a.heap.size) (hr : a.ownsRow base e sz v n xs) (hg : (a.alloc o).grownBy b v.ownBlock) : Below base W b := by
  have hs : (a.alloc o).heap.size = a.heap.size + 1 := by simp
  refine ⟨hg.os.trans h.os, hg.tape.trans h.tape, hg.output.trans h.output, ?_, fun k hk => ?_⟩
  · have := hg.size; have := h.size; omega
  · have hka : k < a.heap.size := by omega
    refine (hg.block k (by omega) (fun e2 => ?_)).trans ((Below.heap_alloc a o k hka).trans (h.block k hk))
    have := (hr.lt k e2.symm).1
    omega

def RowsSt (W : World) (X : Nx) (k8 k9 : Nat) (v8 v9 : Value) (wr : World) : Prop := Below W.heap.size W wr ∧ wr.ownsRow W.heap.size 3 1 v8 k8 (wasL X k8) ∧ wr.ownsRow W.heap.size 4 1 v9 k9 (offL X k9)
theorem rows_app8 {W a b : World} {X : Nx} {k k9 : Nat} {v8 v9 : Value} {g cap : Nat} {C : Array Value} {e : TypeId} (h : RowsSt W X k k9 v8 v9 a)
    (h3 : b.ownsRow W.heap.size 3 1 (.slice (some ⟨g, 0, none⟩) (k + 1) cap) (k + 1) (wasL X k ++ [.int .i64 (lenAt X k : Nat)])) (hg : (a.alloc (.cells C e)).grownBy b v8.ownBlock) :
    RowsSt W X (k + 1) k9 (.slice (some ⟨g, 0, none⟩) (k + 1) cap) v9 b := by
  rw [← wasL_succ] at h3
  exact ⟨app_below h.1 h.1.size h.2.1 hg, h3, own_other (h.2.2.alloc _) (h.2.1.alloc _) (by decide) hg⟩
theorem rows_app9 {W a b : World} {X : Nx} {k k8 : Nat} {v8 v9 : Value} {g cap : Nat} {C : Array Value} {e : TypeId} (h : RowsSt W X k8 k v8 v9 a)
    (h3 : b.ownsRow W.heap.size 4 1 (.slice (some ⟨g, 0, none⟩) (k + 1) cap) (k + 1) (offL X k ++ [.bool (offAt X k)])) (hg : (a.alloc (.cells C e)).grownBy b v9.ownBlock) :
    RowsSt W X k8 (k + 1) v8 (.slice (some ⟨g, 0, none⟩) (k + 1) cap) b := by
  rw [← offL_succ] at h3
  exact ⟨app_below h.1 h.1.size h.2.2 hg, own_other (h.2.1.alloc _) (h.2.2.alloc _) (by decide) hg, h3⟩

def Ap3 (U : World) (S2 : Nat → Prop) (x : Nat) (X1 X2 : Nx) (B : Nat) (v8 v9 : Value) (wr : World) : Prop := Inv U S2 x X2 wr ∧ wr.ownsRow B 3 1 v8 25 (wasL X1 25) ∧ wr.ownsRow B 4 1 v9 25 (offL X1 25)
theorem own_up {w w' : World} {base : Nat} {e : TypeId} {sz : Nat} {v : Value} {n : Nat} {xs : List Value} (h : w.ownsRow base e sz v n xs) (hb : Below w.heap.size w w') : w'.ownsRow base e sz v n xs :=
  own_heap h (fun g _ hl => hb.block g hl)
theorem Ap3.up {U : World} {S2 : Nat → Prop} {x : Nat} {X1 X2 : Nx} {B : Nat} {v8 v9 : Value} {a b : World} (h : Ap3 U S2 x X1 X2 B v8 v9 a) (hb : Below a.heap.size a b) : Ap3 U S2 x X1 X2 B v8 v9 b :=
  ⟨h.1.up hb, own_up h.2.1 hb, own_up h.2.2 hb⟩
theorem Ap3.drewN {U : World} {S2 : Nat → Prop} {x : Nat} {X1 X2 : Nx} {B : Nat} {v8 v9 : Value} {a : World} (h : Ap3 U S2 x X1 X2 B v8 v9 a) (n : Nat) : Ap3 U S2 x X1 X2 B v8 v9 (a.drewN n) := h.up (below_drewN (Below.refl _ _) n)
theorem own_fr {w w' : World} {S S' : Nat → Prop} {base : Nat} {e : TypeId} {sz : Nat} {v : Value} {n : Nat} {xs : List Value} (h : w.ownsRow base e sz v n xs) (hf : Fr S S' w w') (hS : ∀ k, S k → k < base) : w'.ownsRow base e sz v n xs :=
  own_heap h (fun g hg hl => hf.block g hl (fun hs => by have := (h.lt g hg).1; have := hS g hs; omega))

set_option maxHeartbeats 4000000 in
theorem apart_raw (w : World) (S0 : Nat → Prop) (v : Value) (l : List StepD) (d f t i mf mt : Int) (cs : List Value) (M : MsgD) (hl : StepsIn w S0 v l) (hS0 : ∀ k, S0 k → k < w.heap.size) (hM : MsgIn w S0 cs M) (hmf : cs[1]? = some (.int .i64 mf)) (hmt : cs[2]? = some (.int .i64 mt)) (hd : i64ok d) :
    Calls Try.prog 5 #[v, .agg (stepCells d f t i cs).toArray] w (LawPost w) := by
  obtain ⟨U, hU⟩ : ∃ U, U = w.alloc (.cells (stepCells d f t i cs).toArray 44) := ⟨_, rfl⟩
  have hb0 : U.heap[w.heap.size]? = some (.cells (stepCells d f t i cs).toArray 44 (0, 0)) := by rw [hU]; exact heap_alloc_new w _
  have hbw : Below w.heap.size w U := by rw [hU]; exact (Below.refl _ w).alloc (Nat.le_refl _) _
  have hSU : ∀ k, S0 k → k < U.heap.size := fun k hk => Nat.lt_of_lt_of_le (hS0 k hk) hbw.size
  have hMU : MsgIn U S0 cs M := hM.keep (fun _ h _ => h) (fun k _ hk => hbw.block k hk)
  have hlU : StepsIn U S0 v l := by
    obtain ⟨a, c, h1, h2, h3⟩ := hl
    refine ⟨a, c, h1, h2, fun hne => ?_⟩
    obtain ⟨b, o, h4, h5, h6⟩ := h3 hne
    exact ⟨b, o, h4, h5, fun j s hs => (h6 j s hs).keep h5 (fun k _ hk => hbw.block k hk)⟩
  have hfew := hlU
  obtain ⟨av, cv, rfl, hlen, hrows⟩ := hlU
  obtain ⟨v1, v2, hv1, hv2, ⟨ea, ec, ecss, rfl, hen, _⟩, _⟩ := hMU.2.2.2
  have c14 : U.cell? ⟨w.heap.size, 14, none⟩ = some (.slice ea M.ents.length ec) := cell_at hb0 (by unfold stepCells; rw [List.getElem?_append_right (by simp)]; simpa using hv1)
  have c0 : U.cell? ⟨w.heap.size, 0, none⟩ = some (.int .i64 d) := cell_at hb0 rfl
  have c1 : U.cell? ⟨w.heap.size, 1, none⟩ = some (.int .i64 f) := cell_at hb0 rfl
  have c2 : U.cell? ⟨w.heap.size, 2, none⟩ = some (.int .i64 t) := cell_at hb0 rfl
  have c5 : U.cell? ⟨w.heap.size, 5, none⟩ = some (.int .i64 mf) := cell_at hb0 (by unfold stepCells; rw [List.getElem?_append_right (by simp)]; simpa using hmf)
  have c6 : U.cell? ⟨w.heap.size, 6, none⟩ = some (.int .i64 mt) := cell_at hb0 (by unfold stepCells; rw [List.getElem?_append_right (by simp)]; simpa using hmt)
  obtain ⟨ne, hne⟩ : ∃ ne, M.ents.length = ne := ⟨_, rfl⟩
  rw [hne] at c14 hen
  obtain ⟨fs44, hu44⟩ := und44
  have HR := Lib.hid hrows
  have HFEW := Lib.hid hfew
  have HU : Hid (U = w.alloc (.cells (stepCells d f t i cs).toArray 44)) := hU
  have HB0 := Lib.hid hb0
  have HBW := Lib.hid hbw
  have HSU := Lib.hid hSU
  have HMU := Lib.hid hMU
  have HMF := Lib.hid hmf
  have HMT := Lib.hid hmt
  have HD := Lib.hid hd
  obtain ⟨len, hlenv⟩ : ∃ len, l.length = len := ⟨_, rfl⟩
  have HLEN := Lib.hid hlenv
  rw [hlenv] at hlen HFEW ⊢
  clear hrows hfew hU hb0 hbw hSU hMU hmf hmt hd hlenv hl hM hv1 hv2 hne hS0
  go_enter Try.func5, Try.ntmps5
  go_upto_region 1 with fail
  change Code.wp _ _ _ _ (w.alloc (.cells (stepCells d f t i cs).toArray 44))
  rw [← HU.out]
  go_wp2_with fail
  refine (small_any _).mono ?_
  rintro e w1 ⟨rfl, hb1⟩
  go_wp2_with fail
  refine (new_any _ 5).mono ?_
  rintro e w2 ⟨x, rfl, hnet, hb2⟩
  rw [show many 5 = 5 from rfl] at hnet
  obtain ⟨S, hS⟩ : ∃ S : Nat → Prop, S = fun k => w1.heap.size ≤ k ∧ k < w2.heap.size := ⟨_, rfl⟩
  have hnet' : NetOk w2 S x ⟨5, fun _ _ => [], fun _ _ => false⟩ := by rw [hS]; exact ⟨fun k hk => hk.2, hnet⟩
  have HST : Hid (ApSt U x 0 w2) := ⟨S, _, ⟨hnet', fun k hk => by rw [hS] at hk; exact Nat.le_trans hb1.size hk.1, hb1.trans (hb2.mono hb1.size)⟩, fun i j c hc => absurd hc List.not_mem_nil, Moved.zero 5, rfl, fun i j => Nat.le_refl _⟩
  have hUw : Below U.heap.size U w2 := hb1.trans (hb2.mono hb1.size)
  have HUW := Lib.hid hUw
  clear hnet hnet' hS hb1 hb2 hUw
  have hsteps : StepsIn w2 S0 (.slice av len cv) l := by
    obtain ⟨a, c, h1, h2, h3⟩ := HFEW.out
    refine ⟨a, c, h1, h2, fun hne => ?_⟩
    obtain ⟨b, o, h4, h5, h6⟩ := h3 hne
    exact ⟨b, o, h4, h5, fun j s hs => (h6 j s hs).keep h5 (fun k hk _ => HUW.out.block k (HSU.out k hk))⟩
  have hfw := Lib.hid (few_any w2 S0 _ l hsteps)
  clear hsteps HFEW
  go_wp2_with fail
  refine hfw.out.mono ?_
  rintro e w3 ⟨bf, rfl, rfl, hbf⟩
  clear hfw
  cases bf with
  | false =>
    clear hbf
    have HFIN := Lib.hid (HBW.out.trans (HUW.out.mono HBW.out.size))
    go_wp2
    go_ret
    exact ⟨rfl, HFIN.out⟩
  | true =>
    obtain ⟨h60, _⟩ := hbf rfl
    rw [HLEN.out] at h60
    have d14 := cell_later HUW.out c14
    by_cases h3 : 3 < ne
    · have h3' : decide ((3 : Int) < (ne : Int)) = true := by simp; omega
      have HFIN := Lib.hid (HBW.out.trans (HUW.out.mono HBW.out.size))
      clear hbf
      go_wp2
      go_ret
      exact ⟨rfl, HFIN.out⟩
    · have h3' : decide ((3 : Int) < (ne : Int)) = false := by simp; omega
      clear h3 hbf
      go_wp2
      go_loopw [7] (fun s wr => ∃ k : Nat, k ≤ len ∧ s = .int .i64 k ∧ Hid (ApSt U x k wr)) (fun s _ => len - (intOf s).toNat)
      case atStart => exact ⟨0, by omega, rfl, HST.out⟩
      case round =>
        obtain ⟨k, hk, rfl, hst⟩ := hrel
        clear HST HUW d14
        by_cases hkn : k < len
        · obtain ⟨ba, oa, rfl, hSb, hcells⟩ := HR.out (by intro e; have := HLEN.out; rw [e] at this; simp at this; omega)
          obtain ⟨st, hs⟩ : ∃ s, l[k]? = some s := ⟨l[k]'(by have := HLEN.out; omega), List.getElem?_eq_getElem _⟩
          obtain ⟨S1, X1, inv, hall, hdg, hn5, hle⟩ := hst.out
          have hstep := (hcells k st hs).keep (w' := wr) hSb (fun q hq _ => inv.2.2.block q (HSU.out q hq))
          obtain ⟨scs, hrng, hmsg, hmf1, hmt1, hd1⟩ := step_range hstep
          have hdo := do_any wr S1 S0 x X1 st.d st.f st.t st.i st.mf st.mt scs st.m inv.1 hall hmsg (fun q hq => Nat.lt_of_lt_of_le (HSU.out q hq) inv.2.2.size) hmf1 hmt1 hd1
          have hsl : (stepCells st.d st.f st.t st.i scs).length = 38 := by unfold stepCells; simp [hmsg.1]
          have HRNG := Lib.hid hrng
          have HDO := Lib.hid hdo
          have HSL := Lib.hid hsl
          have HST1 : Hid (Inv U S1 x X1 wr ∧ AllIn wr S1 X1 ∧ Diag X1 ∧ X1.n = 5 ∧ ∀ i j, (X1.q i j).length ≤ k) := ⟨inv, hall, hdg, hn5, hle⟩
          clear hs hcells inv hall hdg hn5 hle hstep hrng hmsg hmf1 hmt1 hd1 hdo hsl hst hSb
          go_wp2_with (refine wpList_load_mid rfl 44 _ rfl ba (oa + k * 38) rfl (stepCells st.d st.f st.t st.i scs) _ HRNG.out hu44 rfl ?i1 ?_; (case i1 => rw [HSL.out]; exact size44))
          refine HDO.out.mono ?_
          rintro e w4 ⟨S2, X2, rfl, hnet, hfr, hmv, hall⟩
          have HST2 : Hid (ApSt U x (k + 1) w4) := by
            obtain ⟨i1, i2, i3, i4, i5⟩ := HST1.out
            exact ⟨S2, X2, i1.fr hnet hfr, hall, hmv.diag i3, hmv.n.trans i4, hmv.lens i5⟩
          clear hnet hfr hmv hall HDO HST1
          go_wp2
          go_roundw
          case rel => exact ⟨k + 1, by omega, by go_num, HST2.out⟩
          case measure => simp [intOf]; omega
        · obtain ⟨S1, X1, inv, hall, hdg, hn5, hle⟩ := hst.out
          have hle60 : ∀ i j, (X1.q i j).length ≤ 60 := fun i j => by have := hle i j; omega
          have INV := Lib.hid inv
          have HALL := Lib.hid hall
          have HDG := Lib.hid hdg
          have HN5 := Lib.hid hn5
          have HLE := Lib.hid hle60
          clear inv hall hdg hn5 hle hle60 hst
          go_wp2_with fail
          clear hkn
          refine (total_any _ _ x _ INV.out.1 ⟨by rw [HN5.out]; omega, fun i j => by have := HLE.out i j; omega⟩).mono ?_
          rintro e W2 ⟨rfl, hb⟩
          replace INV := Lib.hid (INV.out.up hb)
          replace HALL := Lib.hid (HALL.out.up hb)
          obtain ⟨tot, htot⟩ : ∃ tot, X1.total = tot := ⟨_, rfl⟩
          have HTOT := Lib.hid htot
          have htb : tot ≤ 1500 := by rw [← htot]; exact total_bound HN5.out HLE.out
          rw [htot]
          clear hb htot
          obtain ⟨i0, hi0, hz0, hz1, hz2⟩ := info_parts info3
          obtain ⟨i1, hi1, hy0, hy1, hy2⟩ := info_parts info4
          go_wp2
          go_loopw [11, 8, 9] (fun s v8 v9 wr => ∃ k : Nat, k ≤ 25 ∧ s = .int .i64 k ∧ Hid (RowsSt W2 X1 k k v8 v9 wr)) (fun s _ _ _ => 25 - (intOf s).toNat)
          case atStart => exact ⟨0, by omega, rfl, Below.refl _ _, World.ownsRow_nil _ _ _ _, World.ownsRow_nil _ _ _ _⟩
          case round =>
            obtain ⟨k, hk, rfl, hst⟩ := hrel
            by_cases hkn : k < 25
            · have inv := INV.out.up hst.out.1
              have hl := len_ok inv.1 ((k : Int) / 5) ((k : Int) % 5)
              obtain ⟨ln, hln⟩ : ∃ ln, lenAt X1 k = ln := ⟨_, rfl⟩
              rw [show X1.len ((k : Int) / 5) ((k : Int) % 5) = ln from hln] at hl
              have HL := Lib.hid hl
              have HLN := Lib.hid hln
              clear inv hl hln
              go_wp2_with fail
              refine HL.out.mono ?_
              rintro e w7 ⟨rfl, rfl⟩
              clear HL
              go_wp2_with (at_builtin; refine wpList_append_lies _ rfl _ _ 55 rfl W2.heap.size 3 i0 _ 1 8 und55 hi0 hz0 hz1 hz2 rfl (by decide) _ k (wasL X1 k) rfl ?own ⟨w7.heap.size, 0, none⟩ 1 1 [.int .i64 (ln : Nat)] rfl rfl ?c1 ?c2 (by decide) ?c3 ?c4 ?c5 _ rfl ?_)
              case own => exact hst.out.2.1.alloc _
              case c1 => exact cell_new_one w7 _ _
              case c2 => exact fun u hu => by rw [List.mem_singleton] at hu; subst hu; rfl
              case c3 => simp only [maxLen]; omega
              case c4 => omega
              case c5 => exact Nat.le_trans hst.out.1.size (by simp)
              intro g cap w8 h3 hg hor hlt8
              replace hst := Lib.hid (rows_app8 hst.out (by rw [HLN.out]; exact h3) hg)
              have inv := INV.out.up hst.out.1
              have ho := off_ok inv.1 ((k : Int) / 5) ((k : Int) % 5)
              obtain ⟨of, hof⟩ : ∃ of, offAt X1 k = of := ⟨_, rfl⟩
              rw [show X1.cutOf ((k : Int) / 5) ((k : Int) % 5) = of from hof] at ho
              have HO := Lib.hid ho
              have HOF := Lib.hid hof
              clear inv ho hof h3 hg hor hlt8
              go_wp2_with fail
              refine HO.out.mono ?_
              rintro e w9 ⟨rfl, rfl⟩
              clear HO
              go_wp2_with (at_builtin; refine wpList_append_lies _ rfl _ _ 60 rfl W2.heap.size 4 i1 _ 1 1 und60 hi1 hy0 hy1 hy2 rfl (by decide) _ k (offL X1 k) rfl ?own ⟨w9.heap.size, 0, none⟩ 1 1 [.bool of] rfl rfl ?c1 ?c2 (by decide) ?c3 ?c4 ?c5 _ rfl ?_)
              case own => exact hst.out.2.2.alloc _
              case c1 => exact cell_new_one w9 _ _
              case c2 => exact fun u hu => by rw [List.mem_singleton] at hu; subst hu; rfl
              case c3 => simp only [maxLen]; omega
              case c4 => omega
              case c5 => exact Nat.le_trans hst.out.1.size (by simp)
              intro g2 cap2 w10 h3 hg hor hlt8
              replace hst := Lib.hid (rows_app9 hst.out (by rw [HOF.out]; exact h3) hg)
              clear h3 hg hor hlt8
              go_wp2
              go_roundw
              case rel => exact ⟨k + 1, by omega, by go_num, hst.out⟩
              case measure => simp [intOf]; omega
            · obtain rfl : k = 25 := by omega
              clear hkn hk
              have inv := INV.out.up hst.out.1
              have hrng : wr.rangeAt w.heap.size 0 (stepCells d f t i cs) := fun j u hu => cell_later inv.2.2 (cell_at HB0.out (by simpa using hu))
              have hmsg : MsgIn wr S0 cs M := HMU.out.keep (fun _ h _ => h) (fun k hk _ => inv.2.2.block k (HSU.out k hk))
              have hdo := do_any wr S1 S0 x X1 d f t i mf mt cs M inv.1 (HALL.out.up hst.out.1) hmsg (fun q hq => Nat.lt_of_lt_of_le (HSU.out q hq) inv.2.2.size) HMF.out HMT.out HD.out
              have hsl : (stepCells d f t i cs).length = 38 := by unfold stepCells; simp [hmsg.1]
              have e0 := cell_later inv.2.2 c0
              have e1 := cell_later inv.2.2 c1
              have e2 := cell_later inv.2.2 c2
              have e5 := cell_later inv.2.2 c5
              have e6 := cell_later inv.2.2 c6
              have HRNG := Lib.hid hrng
              have HDO := Lib.hid hdo
              have HSL := Lib.hid hsl
              have HI := Lib.hid inv
              obtain ⟨p, hp⟩ : ∃ p, d % 8 = p := ⟨_, rfl⟩
              have hpick := pick_any wr d 8 HD.out (by omega) (by omega)
              rw [hp] at hpick
              have HPICK := Lib.hid hpick
              obtain ⟨a, ha⟩ : ∃ a, ownA d f mf = a := ⟨_, rfl⟩
              obtain ⟨b, hb⟩ : ∃ b, ownA d t mt = b := ⟨_, rfl⟩
              rw [ha, hb] at HDO
              have HA : Hid ((p < 3 → a = mf ∧ b = mt) ∧ (3 ≤ p → a = f ∧ b = t)) := by
                rw [← ha, ← hb, ← hp]
                unfold ownA
                exact ⟨fun h => by rw [if_pos h, if_pos h]; exact ⟨rfl, rfl⟩, fun h => by rw [if_neg (by omega), if_neg (by omega)]; exact ⟨rfl, rfl⟩⟩
              clear inv hrng hmsg hdo hsl hpick ha hb hp i0 hi0 hz0 hz1 hz2 i1 hi1 hy0 hy1 hy2 c0 c1 c2 c5 c6 c14
              go_wp2_with fail
              refine HPICK.out.mono ?_
              rintro e w7 ⟨rfl, rfl⟩
              clear HPICK
              go_upto_if 82 with fail
              go_cut [12, 13] (fun s12 s13 wx => s12 = .int .i64 a ∧ s13 = .int .i64 b ∧ wx = w7)
              case first =>
                as_aux_lemma =>
                  by_cases hp3 : p < 3
                  · obtain ⟨rfl, rfl⟩ := HA.out.1 hp3
                    clear HA HDO
                    go_wp2
                    go_meet
                    exact ⟨rfl, rfl, rfl⟩
                  · obtain ⟨rfl, rfl⟩ := HA.out.2 (by omega)
                    clear HA HDO
                    go_wp2
                    go_meet
                    exact ⟨rfl, rfl, rfl⟩
              case rest =>
                obtain ⟨rfl, rfl, rfl⟩ := hcut
                clear e0 e1 e2 e5 e6 HA
                go_wp2_with (refine wpList_load_mid rfl 44 _ rfl w.heap.size 0 rfl (stepCells d f t i cs) _ HRNG.out hu44 rfl ?i1 ?_; (case i1 => rw [HSL.out]; exact size44))
                refine HDO.out.mono ?_
                rintro e w8 ⟨S2, X2, rfl, hnet, hfr, hmv, hall⟩
                have hap : Ap3 U S2 x X1 X2 W2.heap.size u8 u9 w8 := ⟨HI.out.fr hnet hfr, own_fr hst.out.2.1 hfr INV.out.1.1, own_fr hst.out.2.2 hfr INV.out.1.1⟩
                have HMV := Lib.hid hmv
                clear HDO HRNG HSL HI hnet hfr hall hst hmv
                obtain ⟨a8, cc8, hu8⟩ := ownsRow_shape hap.2.1
                obtain ⟨a9, cc9, hu9⟩ := ownsRow_shape hap.2.2
                subst hu8 hu9
                obtain ⟨g8, rfl, _⟩ := own_get hap.2.1 (wasL_get X1 (k := 0) (by omega))
                obtain ⟨g9, rfl, _⟩ := own_get hap.2.2 (offL_get X1 (k := 0) (by omega))
                have HAP := Lib.hid hap
                clear hap
                go_wp2
                go_loopw [15, 14, 4] (fun s s14 s4 wr => ∃ k : Nat, k ≤ 25 ∧ s = .int .i64 k ∧ s14 = .int .i64 (gain X1 X2 k) ∧ s4 = .bool false ∧ Hid (Ap3 U S2 x X1 X2 W2.heap.size (.slice (some ⟨g8, 0, none⟩) 25 cc8) (.slice (some ⟨g9, 0, none⟩) 25 cc9) wr)) (fun s _ _ _ => 25 - (intOf s).toNat)
                case atStart => exact ⟨0, by omega, rfl, rfl, rfl, HAP.out⟩
                case round =>
                  obtain ⟨k, hk, rfl, rfl, rfl, hst⟩ := hrel
                  clear HAP
                  by_cases hkn : k < 25
                  · have hk0 : (0 : Int) ≤ k := by omega
                    have hk25 : (k : Int) < 25 := by omega
                    go_upto_region 27 with fail
                    go_cut [16] (fun s16 wx => s16 = .bool ((k : Int) / 5 == a && (k : Int) % 5 == b) ∧ wx = wr)
                    case first =>
                      as_aux_lemma =>
                        go_wp2
                        all_goals go_meet
                        all_goals (refine ⟨?_, rfl⟩; simp_all)
                    case rest =>
                      obtain ⟨rfl, rfl⟩ := hcut
                      obtain ⟨ow, how⟩ : ∃ ow, ((k : Int) / 5 == a && (k : Int) % 5 == b) = ow := ⟨_, rfl⟩
                      rw [how]
                      obtain ⟨ln1, hln1⟩ : ∃ n, lenAt X1 k = n := ⟨_, rfl⟩
                      obtain ⟨ln2, hln2⟩ : ∃ n, lenAt X2 k = n := ⟨_, rfl⟩
                      obtain ⟨of1, hof1⟩ : ∃ n, offAt X1 k = n := ⟨_, rfl⟩
                      obtain ⟨of2, hof2⟩ : ∃ n, offAt X2 k = n := ⟨_, rfl⟩
                      have hoth : ow = false → ln2 = ln1 ∧ of2 = of1 := fun h => by
                        have := HMV.out.other (c := (k : Int) / 5) (d := (k : Int) % 5) (by rintro ⟨e1, e2⟩; rw [h] at how; simp [e1, e2] at how)
                        exact ⟨hln2.symm.trans (this.1.trans hln1), hof2.symm.trans (this.2.trans hof1)⟩
                      have hdg : (k : Int) / 5 = (k : Int) % 5 → ln1 = 0 ∧ of1 = false := fun h => by
                        have := lenAt_diag (X := X1) h
                        exact ⟨hln1.symm.trans this.1, hof1.symm.trans this.2⟩
                      have h24 : ∀ wx, Ap3 U S2 x X1 X2 W2.heap.size (.slice (some ⟨g8, 0, none⟩) 25 cc8) (.slice (some ⟨g9, 0, none⟩) 25 cc9) wx → Calls Try.prog 24 #[.pointer (some ⟨x, 0, none⟩), .int .i64 ((k : Int) / 5), .int .i64 ((k : Int) % 5)] wx fun e w' => e = .returned (.int .i64 (ln2 : Nat)) ∧ w' = wx := fun wx h => by
                        rw [← hln2]
                        exact len_ok h.1.1 _ _
                      have h26 : ∀ wx, Ap3 U S2 x X1 X2 W2.heap.size (.slice (some ⟨g8, 0, none⟩) 25 cc8) (.slice (some ⟨g9, 0, none⟩) 25 cc9) wx → Calls Try.prog 26 #[.pointer (some ⟨x, 0, none⟩), .int .i64 ((k : Int) / 5), .int .i64 ((k : Int) % 5)] wx fun e w' => e = .returned (.bool of2) ∧ w' = wx := fun wx h => by
                        rw [← hof2]
                        exact off_ok h.1.1 _ _
                      have hc8 : ∀ wx, Ap3 U S2 x X1 X2 W2.heap.size (.slice (some ⟨g8, 0, none⟩) 25 cc8) (.slice (some ⟨g9, 0, none⟩) 25 cc9) wx → wx.cell? ⟨g8, k, none⟩ = some (.int .i64 (ln1 : Nat)) := fun wx h => by
                        obtain ⟨g, e, hc⟩ := own_get h.2.1 (wasL_get X1 hkn)
                        cases e
                        rw [← hln1]; exact hc
                      have hc9 : ∀ wx, Ap3 U S2 x X1 X2 W2.heap.size (.slice (some ⟨g8, 0, none⟩) 25 cc8) (.slice (some ⟨g9, 0, none⟩) 25 cc9) wx → wx.cell? ⟨g9, k, none⟩ = some (.bool of1) := fun wx h => by
                        obtain ⟨g, e, hc⟩ := own_get h.2.2 (offL_get X1 hkn)
                        cases e
                        rw [← hof1]; exact hc
                      have HGS : Hid (gain X1 X2 (k + 1) = gain X1 X2 k + ln2 - ln1) := by rw [← hln1, ← hln2]; exact gain_succ X1 X2 k
                      have hb1 : ∀ i j, (X1.q i j).length ≤ 60 := HLE.out
                      have hb2 : ∀ i j, (X2.q i j).length ≤ 61 := HMV.out.lens hb1
                      have hg := gain_bound hb1 hb2 k
                      have hl1 : ln1 ≤ 60 := by rw [← hln1]; exact lenAt_le hb1 k
                      have hl2 : ln2 ≤ 61 := by rw [← hln2]; exact lenAt_le hb2 k
                      have H24 := Lib.hid h24
                      have H26 := Lib.hid h26
                      have HC8 := Lib.hid hc8
                      have HC9 := Lib.hid hc9
                      have HOTH := Lib.hid hoth
                      have HDG1 := Lib.hid hdg
                      obtain ⟨gn, hgn⟩ : ∃ gn, gain X1 X2 k = gn := ⟨_, rfl⟩
                      rw [hgn] at hg HGS ⊢
                      have hg1 : -1500 ≤ gn := by omega
                      have hg2 : gn ≤ 1525 := by omega
                      clear h24 h26 hc8 hc9 hoth hdg hln1 hln2 hof1 hof2 hb1 hb2 hg hgn how
                      go_upto_region 28 with fail
                      go_cut [133] (fun s wx => s = .bool false ∧ Hid (Ap3 U S2 x X1 X2 W2.heap.size (.slice (some ⟨g8, 0, none⟩) 25 cc8) (.slice (some ⟨g9, 0, none⟩) 25 cc9) wx))
                      case first =>
                        as_aux_lemma =>
                          have c8 := HC8.out _ hst.out
                          have c9 := HC9.out _ hst.out
                          cases ow with
                          | true =>
                            go_quiet (fail)
                            trace "A"
                            go_wp2
                            go_meet
                            exact ⟨rfl, hst.out.drewN _⟩
                          | false =>
                            obtain ⟨rfl, rfl⟩ := HOTH.out rfl
                            go_quiet ((first | (go_at_call 24; exact Calls.quiet_of_same (H24.out _ (hst.out.drewN _))) | (go_at_call 26; exact Calls.quiet_of_same (H26.out _ (hst.out.drewN _)))))
                            trace "B"
                            go_wp2
                            go_meet
                            exact ⟨rfl, hst.out.drewN _⟩
                      case rest =>
                        obtain ⟨rfl, hst2⟩ := hcut
                        go_upto_region 30 with fail
                        go_cut [151] (fun s wx => s = .bool false ∧ Hid (Ap3 U S2 x X1 X2 W2.heap.size (.slice (some ⟨g8, 0, none⟩) 25 cc8) (.slice (some ⟨g9, 0, none⟩) 25 cc9) wx))
                        case first =>
                          as_aux_lemma =>
                            have c8 := HC8.out _ hst2.out
                            have c9 := HC9.out _ hst2.out
                            by_cases hdk : (k : Int) / 5 = (k : Int) % 5
                            · obtain ⟨rfl, rfl⟩ := HDG1.out hdk
                              go_wp2
                              go_meet
                              exact ⟨rfl, hst2.out⟩
                            · go_wp2
                              go_meet
                              exact ⟨rfl, hst2.out⟩
                        case rest =>
                          obtain ⟨rfl, hst3⟩ := hcut
                          have c8 := HC8.out _ hst3.out
                          have s1 : IntKind.i64.wrap (gn + ln2) = gn + ln2 := IntWalk.i64_in _ (by omega)
                          have s2 : IntKind.i64.wrap (gn + ln2 - ln1) = gn + ln2 - ln1 := IntWalk.i64_in _ (by omega)
                          go_upto_region 32 with fail
                          go_quiet ((go_at_call 24; exact Calls.quiet_of_same (H24.out _ (hst3.out.drewN _))))
                          clear c8 s1 s2
                          have hst4 := Lib.hid (hst3.out.drewN nq)
                          go_wp2
                          go_roundw
                          case rel => exact ⟨k + 1, by omega, by go_num, by rw [HGS.out], rfl, hst4.out⟩
                          case measure => simp [intOf]; omega
                  · obtain rfl : k = 25 := by omega
                    clear hkn hk
                    have hend := gain_end HMV.out HN5.out HDG.out
                    obtain ⟨tot2, ht2⟩ : ∃ n, X2.total = n := ⟨_, rfl⟩
                    rw [HTOT.out, ht2] at hend
                    obtain ⟨gn, hgn⟩ : ∃ gn, gain X1 X2 25 = gn := ⟨_, rfl⟩
                    rw [hgn] at hend ⊢
                    obtain ⟨he1, he2, he3⟩ := hend
                    have ht := total_any wr S2 x X2 hst.out.1.1 ⟨by rw [HMV.out.n, HN5.out]; omega, fun i j => by have := HMV.out.lens HLE.out i j; omega⟩
                    rw [ht2, he1] at ht
                    have HT := Lib.hid ht
                    clear ht ht2 hgn he1
                    go_wp2_with fail
                    refine HT.out.mono ?_
                    rintro e w10 ⟨rfl, hb10⟩
                    have HFIN : Hid (Below w.heap.size w w10) := HBW.out.trans ((hst.out.1.2.2.trans (hb10.mono hst.out.1.2.2.size)).mono HBW.out.size)
                    clear hb10 HT
                    go_wp2
                    go_ret
                    exact ⟨rfl, HFIN.out⟩
end Go.Proofs.Ytdkpgjhjdnfieaa
