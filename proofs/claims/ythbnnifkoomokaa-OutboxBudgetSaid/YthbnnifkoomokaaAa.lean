/- The contract of within on a plan that keeps its rules: it returns true. Conditions: the box, the ends and the plan lie in memory as stated. -/
import Derived.Test.YthbnnifkoomokaaV
import Derived.Test.YthbnnifkoomokaaX
import Derived.Deep.DeepCutAuto
set_option linter.unusedVariables false
set_option linter.unusedSimpArgs false
namespace Go.Proofs.Ythbnnifkoomokaa
open Go.RowKit Go.Mf

def mcount (l : List Snd) (i : Nat) (p : Int) : Nat := ((l.take i).filter fun s => s.peer == p).length
def esum (l : List Snd) (i : Nat) (p : Int) : Int := (((l.take i).filter fun s => s.peer == p).map (·.count)).sum

structure WOk (Y : Bx) (me bud : Int) (L : List (List Int)) (l : List Snd) : Prop where
  each : ∀ s ∈ l, s.peer ≠ me ∧ s.log ≠ s.peer ∧ 0 ≤ s.log ∧ s.log < L.length ∧ 1 ≤ s.count ∧ s.count ≤ 64 ∧ s.src = Y.sentOf s.peer s.log ∧ 0 ≤ s.src ∧ s.src + s.count ∈ rowAt L s.log
  asc : l.Pairwise fun a b => a.peer ≤ b.peer
  many : ∀ p, (l.filter fun s => s.peer == p).length ≤ 8
  ent : ∀ p, ((l.filter fun s => s.peer == p).map (·.count)).sum ≤ max bud 64

theorem mcount_succ {l : List Snd} {i : Nat} {s : Snd} (h : l[i]? = some s) (p : Int) : mcount l (i + 1) p = mcount l i p + (if s.peer = p then 1 else 0) := by
  have hi : i < l.length := (List.getElem?_eq_some_iff.1 h).1
  have he : l[i] = s := (List.getElem?_eq_some_iff.1 h).2
  unfold mcount
  rw [List.take_succ_eq_append_getElem hi, List.filter_append, List.length_append, he]
  by_cases e : s.peer = p <;> simp [e]
theorem esum_succ {l : List Snd} {i : Nat} {s : Snd} (h : l[i]? = some s) (p : Int) : esum l (i + 1) p = esum l i p + (if s.peer = p then s.count else 0) := by
  have hi : i < l.length := (List.getElem?_eq_some_iff.1 h).1
  have he : l[i] = s := (List.getElem?_eq_some_iff.1 h).2
  unfold esum
  rw [List.take_succ_eq_append_getElem hi, List.filter_append, List.map_append, List.sum_append, he]
  by_cases e : s.peer = p <;> simp [e]

theorem filter_take_le (l : List Snd) (i : Nat) (p : Int) : mcount l i p ≤ (l.filter fun s => s.peer == p).length := by
  unfold mcount
  have h : l.filter (fun s => s.peer == p) = (l.take i).filter (fun s => s.peer == p) ++ (l.drop i).filter (fun s => s.peer == p) := by rw [← List.filter_append, List.take_append_drop]
  rw [h, List.length_append]; omega
theorem sum_nonneg : ∀ l : List Snd, (∀ s ∈ l, 1 ≤ s.count) → 0 ≤ (l.map (·.count)).sum
  | [], _ => by simp
  | x :: l, h => by
    have := sum_nonneg l (fun s hs => h s (by simp [hs]))
    have := h x (by simp)
    simp only [List.map_cons, List.sum_cons]; omega
theorem esum_le {l : List Snd} (h : ∀ s ∈ l, 1 ≤ s.count) (i : Nat) (p : Int) : 0 ≤ esum l i p ∧ esum l i p ≤ ((l.filter fun s => s.peer == p).map (·.count)).sum := by
  unfold esum
  have e : l.filter (fun s => s.peer == p) = (l.take i).filter (fun s => s.peer == p) ++ (l.drop i).filter (fun s => s.peer == p) := by rw [← List.filter_append, List.take_append_drop]
  have h1 := sum_nonneg ((l.take i).filter fun s => s.peer == p) (fun s hs => h s (List.mem_of_mem_take (List.mem_filter.1 hs).1))
  have h2 := sum_nonneg ((l.drop i).filter fun s => s.peer == p) (fun s hs => h s (List.mem_of_mem_drop (List.mem_filter.1 hs).1))
  rw [e, List.map_append, List.sum_append]
  omega

/-- the two counters at the head of round i -/
def curOf (l : List Snd) : Nat → Nat × Int
  | 0 => (0, 0)
  | i + 1 => match l[i]? with
    | none => (0, 0)
    | some s => (mcount l (i + 1) s.peer, esum l (i + 1) s.peer)

theorem asc_get {l : List Snd} (h : l.Pairwise fun a b => a.peer ≤ b.peer) {i j : Nat} {s t : Snd} (hi : l[i]? = some s) (hj : l[j]? = some t) (hij : i ≤ j) : s.peer ≤ t.peer := by
  have h1 : i < l.length := (List.getElem?_eq_some_iff.1 hi).1
  have h2 : j < l.length := (List.getElem?_eq_some_iff.1 hj).1
  have e1 : l[i] = s := (List.getElem?_eq_some_iff.1 hi).2
  have e2 : l[j] = t := (List.getElem?_eq_some_iff.1 hj).2
  by_cases e : i = j
  · subst e; rw [← e1, ← e2]; exact Int.le_refl _
  · have := List.pairwise_iff_getElem.1 h i j h1 h2 (by omega)
    rw [e1, e2] at this; exact this
/-- where the peer before is another one, this peer has not come up yet -/
theorem fresh_peer {l : List Snd} (h : l.Pairwise fun a b => a.peer ≤ b.peer) {i : Nat} {s : Snd} (hi : l[i]? = some s) (hne : i = 0 ∨ ∃ j t, i = j + 1 ∧ l[j]? = some t ∧ t.peer ≠ s.peer) : mcount l i s.peer = 0 ∧ esum l i s.peer = 0 := by
  have hf : (l.take i).filter (fun x => x.peer == s.peer) = [] := by
    rw [List.filter_eq_nil_iff]
    intro x hx
    rcases hne with rfl | ⟨j, t, rfl, ht, hts⟩
    · simp at hx
    · obtain ⟨k, hk⟩ := List.mem_iff_getElem?.1 hx
      have hkl : k < j + 1 := by
        have := (List.getElem?_eq_some_iff.1 hk).1
        rw [List.length_take] at this; omega
      rw [List.getElem?_take, if_pos hkl] at hk
      have h1 := asc_get h hk ht (by omega)
      have h2 := asc_get h ht hi (by omega)
      simp only [beq_iff_eq]
      omega
  unfold mcount esum
  rw [hf]; exact ⟨rfl, rfl⟩

def knownTo (es : List Int) (z : Int) (j : Nat) : Bool := (es.take j).any fun e => e == z
theorem known_succ {es : List Int} {j : Nat} (h : j < es.length) (z : Int) : knownTo es z (j + 1) = (knownTo es z j || (es.getD j 0 == z)) := by
  unfold knownTo
  rw [List.take_succ_eq_append_getElem h, List.any_append]
  simp [List.getD, h]
theorem known_all {es : List Int} {z : Int} (h : z ∈ es) : knownTo es z es.length = true := by
  unfold knownTo; rw [List.take_of_length_le (Nat.le_refl _)]; simp [h]

def sendCells (sp sl ss sc : Int) : Array Value := #[.int .i64 sp, .int .i64 sl, .int .i64 ss, .int .i64 sc]

set_option maxHeartbeats 2000000 in
set_option maxRecDepth 100000 in
theorem within_yes (w : World) (lo hi b : Nat) (Y : Bx) (me bud : Int) (v pv : Value) (L : List (List Int)) (l : List Snd) (S S' : Nat → Prop) (hL : RowsAt w S v L) (hl : SndsS w S' pv l) (hbx : BoxAt w lo hi b Y) (ok : WOk Y me bud L l) (hbud : bud ≤ 9223372036854775807) :
    Calls Try.prog 16 #[.pointer (some ⟨b,0,none⟩), .int .i64 me, .int .i64 bud, v, pv] w (LawPost w) := by
  have HBD := Lib.hid (fun lg e (he : e ∈ rowAt L lg) => (show e ≤ 9223372036854775807 from by obtain ⟨a, c, rfl, h⟩ := hL; exact rows_bound (S := S) ⟨a, c, rfl, h⟩ lg e he))
  obtain ⟨av, cv, rfl, hlen, hrows⟩ := hL
  obtain ⟨al, cl, rfl, hll, hsc⟩ := hl
  have HRW := Lib.hid hrows
  have HSC := Lib.hid hsc
  obtain ⟨len, hlenv⟩ : ∃ len, L.length = len := ⟨_, rfl⟩
  obtain ⟨nl, hnl⟩ : ∃ nl, l.length = nl := ⟨_, rfl⟩
  have HLEN := Lib.hid hlenv
  have HNL := Lib.hid hnl
  rw [hlenv] at hlen ⊢
  rw [hnl] at hll ⊢
  have HBX := Lib.hid hbx
  have HOK := Lib.hid ok
  have HBUD := Lib.hid hbud
  clear hrows hsc hlenv hnl hbx ok
  go_enter Try.func16, Try.ntmps16
  go_wp2
  go_loopw [13, 11, 12] (fun i m e wr => ∃ k : Nat, k ≤ nl ∧ i = .int .i64 k ∧ m = .int .i64 (curOf l k).1 ∧ e = .int .i64 (curOf l k).2 ∧ Hid (Below w.heap.size w wr)) (fun i _ _ _ => nl - (intOf i).toNat)
  case atStart => exact ⟨0, by omega, rfl, rfl, rfl, Below.refl _ _⟩
  case round =>
    obtain ⟨k, hk, rfl, rfl, rfl, hbe⟩ := hrel
    obtain ⟨w4, rfl⟩ : ∃ w4 : World, w4 = wr := ⟨_, rfl⟩
    by_cases hkn : k < nl
    · obtain ⟨bl, ol, rfl, _, hcl⟩ := HSC.out (by intro e; have := HNL.out; rw [e] at this; simp at this; omega)
      obtain ⟨s, hs, p0, p1, p2, p3⟩ := hcl k (by rw [HNL.out]; exact hkn)
      obtain ⟨e1, e2, e3, e4, e5, e6, e7, e8, e9⟩ := HOK.out.each s (List.mem_of_getElem? hs)
      have hm := mcount_succ hs s.peer
      have he := esum_succ hs s.peer
      rw [if_pos rfl] at hm he
      have hmb := Nat.le_trans (filter_take_le l (k + 1) s.peer) (HOK.out.many s.peer)
      have heb := esum_le (fun x hx => (HOK.out.each x hx).2.2.2.2.1) (k + 1) s.peer
      have heb0 := (esum_le (fun x hx => (HOK.out.each x hx).2.2.2.2.1) k s.peer).1
      have hent := HOK.out.ent s.peer
      have hsum := HBD.out s.log (s.src + s.count) e9
      have hcur : curOf l (k + 1) = (mcount l (k + 1) s.peer, esum l (k + 1) s.peer) := by simp [curOf, hs]
      obtain ⟨q, hq⟩ : ∃ q : Nat, s.log = q := ⟨s.log.toNat, by omega⟩
      have cb := fun (x : Addr) (u : Value) (h : w.cell? x = some u) => cell_below hbe.out h
      have p0' := cb _ _ p0
      have p1' := cb _ _ p1
      have p2' := cb _ _ p2
      have p3' := cb _ _ p3
      obtain ⟨bL, oL, ae, ce, rfl, hce, hie⟩ := row_cell HRW.out hbe.out (k := q) (by omega)
      rw [← hq] at hce hie
      have hknown := known_all e9
      have hfresh := fresh_peer HOK.out.asc hs
      have hasc := HOK.out.asc
      obtain ⟨sp, sl, ss, sc⟩ := s
      dsimp only at e1 e2 e3 e4 e5 e6 e7 e8 e9 hm he hmb heb heb0 hent hsum hcur hq p0' p1' p2' p3' hce hie hknown hfresh
      subst hq
      obtain ⟨es, hes⟩ : ∃ es, rowAt L (q : Int) = es := ⟨_, rfl⟩
      rw [hes] at hce hie hknown
      obtain ⟨ne, hne⟩ : ∃ ne, es.length = ne := ⟨_, rfl⟩
      rw [hne] at hce hie hknown
      have hqlen : (q : Int) < len := by have := HLEN.out; omega
      have HCUR := Lib.hid hcur
      have HM := Lib.hid hm
      have HE := Lib.hid he
      have HKNOWN := Lib.hid hknown
      have HNE := Lib.hid hne
      have HIE := Lib.hid hie
      have HSENT := Lib.hid e7
      obtain ⟨mc, hmc⟩ : ∃ mc, mcount l k sp = mc := ⟨_, rfl⟩
      obtain ⟨ec, hec⟩ : ∃ ec, esum l k sp = ec := ⟨_, rfl⟩
      have HMC := Lib.hid hmc
      have HEC := Lib.hid hec
      have hmc8 : mc + 1 ≤ 8 := by omega
      have hec0 : 0 ≤ ec := by omega
      have hec1 : ec + sc ≤ max bud 64 := by omega
      have hbw : bl < w4.heap.size := World.block_lt_of_cell? _ _ p0'
      have hbLw : bL < w4.heap.size := World.block_lt_of_cell? _ _ hce
      -- what is known of the element before
      have hprev : k = 0 ∨ ∃ (j : Nat) (pp : Int), k = j + 1 ∧ w4.cell? ⟨bl, ol + j * 4, none⟩ = some (.int .i64 pp) ∧ pp ≤ sp ∧ curOf l k = (mcount l k pp, esum l k pp) ∧ (pp ≠ sp → mcount l k sp = 0 ∧ esum l k sp = 0) := by
        cases k with
        | zero => exact .inl rfl
        | succ j =>
          right
          obtain ⟨t, ht, t0, _⟩ := hcl j (by have := HNL.out; omega)
          refine ⟨j, t.peer, rfl, cb _ _ t0, asc_get hasc ht hs (by omega), by simp [curOf, ht], fun hne => ?_⟩
          exact hfresh (.inr ⟨j, t, rfl, ht, hne⟩)
      have hzero : k = 0 → mcount l k sp = 0 ∧ esum l k sp = 0 := fun e => hfresh (.inl e)
      rw [hmc, hec] at hprev hzero
      have HZERO := Lib.hid hzero
      clear hcl hs p0 p1 p2 p3 cb hm he hmb heb heb0 hent hcur hfresh hasc hknown hes hne hie e7 hmc hec hzero e9 hlen
      go_upto_region 7 with fail
      go_cut [39] (fun s39 wx => ∃ r, s39 = .bool r ∧ Hid ((r = true → mc = 0 ∧ ec = 0) ∧ (r = false → curOf l k = (mc, ec))) ∧ Hid (∃ q0, wx = (w4.alloc (.cells #[.int .i64 sp, .int .i64 (q : Int), .int .i64 ss, .int .i64 sc] 34)).drewN q0))
      case first =>
        rcases hprev with h0 | ⟨j, pp, hj, hpc, hpp, hcu, hfr⟩
        · have h0' : ((k : Int) == 0) = true := by simp; omega
          have HR := Lib.hid (HZERO.out h0)
          clear h0
          go_quiet (fail)
          go_wp2
          go_meet
          exact ⟨true, rfl, ⟨fun _ => HR.out, by simp⟩, _, rfl⟩
        · have h0' : ((k : Int) == 0) = false := by simp; omega
          have hij : (k : Int) - 1 = (j : Int) := by omega
          have hjn : j < nl := by omega
          have hw2 : wrap64 ((k : Int) - 1) = (j : Int) := by rw [hij]; simp only [wrap64]; omega
          have hw1 : IntKind.i64.wrap ((k : Int) - 1) = (j : Int) := by rw [hij, IntKind.wrap_i64]; omega
          have HCU := Lib.hid hcu
          have HFR := Lib.hid hfr
          clear hj hcu hfr
          by_cases he : pp = sp
          · have he' : (pp != sp) = false := by simpa using he
            have HEP := Lib.hid he
            clear he
            go_quiet (fail)
            go_wp2
            go_meet
            exact ⟨false, rfl, ⟨by simp, fun _ => by have := HCU.out; rw [HEP.out, HMC.out, HEC.out] at this; exact this⟩, _, rfl⟩
          · have he' : (pp != sp) = true := by simpa using he
            have HR := Lib.hid (HFR.out he)
            clear he
            go_quiet (fail)
            go_wp2
            go_meet
            exact ⟨true, rfl, ⟨fun _ => HR.out, by simp⟩, _, rfl⟩
      case rest =>
        obtain ⟨r, rfl, hr, hq0⟩ := hcut
        have hprev' : k = 0 ∨ ∃ (j : Nat) (pp : Int), k = j + 1 ∧ w4.cell? ⟨bl, ol + j * 4, none⟩ = some (.int .i64 pp) ∧ pp ≤ sp := by
          rcases hprev with h | ⟨j, pp, h1, h2, h3, _⟩
          · exact .inl h
          · exact .inr ⟨j, pp, h1, h2, h3⟩
        clear hprev
        obtain ⟨w5, rfl⟩ : ∃ w5 : World, w5 = wc := ⟨_, rfl⟩
        obtain ⟨q0, hw5⟩ := hq0.out
        obtain ⟨g, hg⟩ : ∃ g, w4.heap.size = g := ⟨_, rfl⟩
        have hbe5 : Below w.heap.size w w5 := by rw [hw5]; exact below_drewN (hbe.out.alloc hbe.out.size _) q0
        have hbe45 : Below w4.heap.size w4 w5 := by rw [hw5]; exact below_drewN ((Below.refl _ _).alloc (Nat.le_refl _) _) q0
        have hxb : w5.heap[g]? = some (.cells #[.int .i64 sp, .int .i64 (q : Int), .int .i64 ss, .int .i64 sc] 34) := by rw [hw5, ← hg]; exact heap_alloc_new w4 _
        have hx0 : w5.cell? ⟨g, 0, none⟩ = some (.int .i64 sp) := by rw [cell_of_block hxb]; rfl
        have hx1 : w5.cell? ⟨g, 1, none⟩ = some (.int .i64 (q : Int)) := by rw [cell_of_block hxb]; rfl
        have hx2 : w5.cell? ⟨g, 2, none⟩ = some (.int .i64 ss) := by rw [cell_of_block hxb]; rfl
        have hx3 : w5.cell? ⟨g, 3, none⟩ = some (.int .i64 sc) := by rw [cell_of_block hxb]; rfl
        have hce5 := cell_below hbe45 hce
        have hprev5 : k = 0 ∨ ∃ (j : Nat) (pp : Int), k = j + 1 ∧ w5.cell? ⟨bl, ol + j * 4, none⟩ = some (.int .i64 pp) ∧ pp ≤ sp := by
          rcases hprev' with h | ⟨j, pp, h1, h2, h3⟩
          · exact .inl h
          · exact .inr ⟨j, pp, h1, cell_below hbe45 h2, h3⟩
        have hie5 := HIE.out.of_cells (w' := w5) (fun a x _ hx => cell_below hbe45 hx)
        have htop : hi ≤ w.heap.size := HBX.out.top
        have hbx5 := HBX.out.below hbe5 htop
        have hbw5 : bl < w5.heap.size := by have := hbe45.size; omega
        have HBX5 := Lib.hid hbx5
        have HBE5 := Lib.hid hbe5
        have HIE5 := Lib.hid hie5
        rw [hg]
        clear hprev' hq0 hw5 hg hbe5 hbe45 hxb hce hie5 hbx5 p0' p1' p2' p3' hbe
        go_upto_if 39 with fail
        go_cut [11, 12] (fun s11 s12 wx => s11 = .int .i64 mc ∧ s12 = .int .i64 ec ∧ wx = w5)
        case first =>
          cases r with
          | true =>
            obtain ⟨h1, h2⟩ := hr.out.1 rfl
            subst h1; subst h2
            go_wp2
            go_meet
            exact ⟨rfl, rfl, rfl⟩
          | false =>
            have h1 := hr.out.2 rfl
            have H1 := Lib.hid h1
            clear h1
            go_wp2
            go_meet
            exact ⟨by rw [H1.out], by rw [H1.out], rfl⟩
        case rest =>
          obtain ⟨rfl, rfl, rfl⟩ := hcut
          obtain ⟨w5, rfl⟩ : ∃ w5 : World, w5 = wc := ⟨_, rfl⟩
          go_upto_region 10 with fail
          have hc1 : ((sp : Int) == me) = false := by simpa using e1
          have hc2 : ((q : Int) == sp) = false := by simpa using e2
          have hc0 : decide ((q : Int) < 0) = false := by simp only [decide_eq_false_iff_not]; omega
          have hc3 : decide ((len : Int) ≤ (q : Int)) = false := by simp; omega
          have hc3' : decide (len ≤ q) = false := by simp; omega
          have hc4 : (ss != ss) = false := by simp
          have hc5 : decide (sc < 1) = false := by simp; omega
          have hc6 : decide (64 < sc) = false := by simp; omega
          have hcs := fun m => sent_is' (w := w5.drewN m) (HBX5.out.drewN m) sp q HSENT.out.symm
          have HCS := Lib.hid hcs
          clear hcs
          rcases hprev5 with h0 | ⟨j, pp, hj, hpc, hpp⟩
          · have h0' : decide ((0 : Int) < (k : Int)) = false := by simp; omega
            have h0'' : decide (0 < k) = false := by simp; omega
            clear h0
            go_quiet (exact Calls.quiet_of_same (HCS.out _))
            go_wp2
            go_loopw [16, 15] (fun i z wx => ∃ j2 : Nat, j2 ≤ ne ∧ i = .int .i64 j2 ∧ z = .bool (knownTo es (ss + sc) j2) ∧ ∃ q1, wx = w5.drewN q1) (fun i _ _ => ne - (intOf i).toNat)
            case atStart => exact ⟨0, by omega, rfl, rfl, nq, rfl⟩
            case round =>
              obtain ⟨j2, hj2, rfl, rfl, q2, rfl⟩ := hrel
              by_cases hjn2 : j2 < ne
              · have hsucc := known_succ (es := es) (j := j2) (by rw [HNE.out]; exact hjn2) (ss + sc)
                obtain ⟨a2, c2, heq, _, _, hcells⟩ := HIE5.out
                simp only [Value.slice.injEq] at heq
                obtain ⟨rfl, _, rfl⟩ := heq
                obtain ⟨be, oe, rfl, _, hc2⟩ := hcells (by intro e; have := HNE.out; rw [e] at this; simp at this; omega)
                have hcj := hc2 j2 (by have := HNE.out; omega)
                obtain ⟨ej, hej⟩ : ∃ ej, es.getD j2 0 = ej := ⟨_, rfl⟩
                rw [hej] at hcj hsucc
                obtain ⟨z, hz⟩ : ∃ z, knownTo es (ss + sc) j2 = z := ⟨_, rfl⟩
                rw [hz] at hsucc ⊢
                have HS := Lib.hid hsucc
                clear hcells hc2 hej hsucc hz
                cases z with
                | true =>
                  go_wp2
                  go_quiet (fail)
                  go_wp2
                  go_roundw
                  case rel => exact ⟨j2 + 1, by omega, by go_num, by rw [HS.out]; rfl, _, rfl⟩
                  case measure => simp [intOf]; omega
                | false =>
                  go_wp2
                  go_quiet (fail)
                  go_wp2
                  go_roundw
                  case rel => exact ⟨j2 + 1, by omega, by go_num, by rw [HS.out]; simp, _, by first | exact World.drewN_drewN _ _ _ | rfl⟩
                  case measure => simp [intOf]; omega
              · have hj3 : j2 = ne := by omega
                have hkn2 : knownTo es (ss + sc) j2 = true := by rw [hj3]; exact HKNOWN.out
                rw [hkn2]
                clear hkn2 hj3
                have hm8 : decide ((8 : Int) < ((mc + 1 : Nat) : Int)) = false := by simp; omega
                have hm8' : decide ((8 : Int) < ((mc : Int) + 1)) = false := by simp; omega
                have hm8'' : decide (8 < mc + 1) = false := by simp; omega
                have hmx : decide (max bud 64 < ec + sc) = false := by simp; omega
                have hmx2 : decide ((if bud ≤ 64 then 64 else bud) < ec + sc) = false := by simp; split <;> omega
                go_wp2
                go_roundw
                case rel => exact ⟨k + 1, by omega, by go_num, by rw [HCUR.out]; show _ = Value.int .i64 ((mcount l (k + 1) sp : Nat) : Int); rw [HM.out, HMC.out]; exact int_eq (by omega), by rw [HCUR.out]; show _ = Value.int .i64 (esum l (k + 1) sp); rw [HE.out, HEC.out], below_drewN HBE5.out _⟩
                case measure => simp [intOf]; omega
          · have h0' : decide ((0 : Int) < (k : Int)) = true := by simp; omega
            have h0'' : decide (0 < k) = true := by simp; omega
            have hij : (k : Int) - 1 = (j : Int) := by omega
            have hjn : j < nl := by omega
            have hw2 : wrap64 ((k : Int) - 1) = (j : Int) := by rw [hij]; simp only [wrap64]; omega
            have hw1 : IntKind.i64.wrap ((k : Int) - 1) = (j : Int) := by rw [hij, IntKind.wrap_i64]; omega
            have hpp' : decide (sp < pp) = false := by simp; omega
            clear hj
            go_quiet (exact Calls.quiet_of_same (HCS.out _))
            go_wp2
            go_loopw [16, 15] (fun i z wx => ∃ j2 : Nat, j2 ≤ ne ∧ i = .int .i64 j2 ∧ z = .bool (knownTo es (ss + sc) j2) ∧ ∃ q1, wx = w5.drewN q1) (fun i _ _ => ne - (intOf i).toNat)
            case atStart => exact ⟨0, by omega, rfl, rfl, nq, rfl⟩
            case round =>
              obtain ⟨j2, hj2, rfl, rfl, q2, rfl⟩ := hrel
              by_cases hjn2 : j2 < ne
              · have hsucc := known_succ (es := es) (j := j2) (by rw [HNE.out]; exact hjn2) (ss + sc)
                obtain ⟨a2, c2, heq, _, _, hcells⟩ := HIE5.out
                simp only [Value.slice.injEq] at heq
                obtain ⟨rfl, _, rfl⟩ := heq
                obtain ⟨be, oe, rfl, _, hc2⟩ := hcells (by intro e; have := HNE.out; rw [e] at this; simp at this; omega)
                have hcj := hc2 j2 (by have := HNE.out; omega)
                obtain ⟨ej, hej⟩ : ∃ ej, es.getD j2 0 = ej := ⟨_, rfl⟩
                rw [hej] at hcj hsucc
                obtain ⟨z, hz⟩ : ∃ z, knownTo es (ss + sc) j2 = z := ⟨_, rfl⟩
                rw [hz] at hsucc ⊢
                have HS := Lib.hid hsucc
                clear hcells hc2 hej hsucc hz
                cases z with
                | true =>
                  go_wp2
                  go_quiet (fail)
                  go_wp2
                  go_roundw
                  case rel => exact ⟨j2 + 1, by omega, by go_num, by rw [HS.out]; rfl, _, rfl⟩
                  case measure => simp [intOf]; omega
                | false =>
                  go_wp2
                  go_quiet (fail)
                  go_wp2
                  go_roundw
                  case rel => exact ⟨j2 + 1, by omega, by go_num, by rw [HS.out]; simp, _, by first | exact World.drewN_drewN _ _ _ | rfl⟩
                  case measure => simp [intOf]; omega
              · have hj3 : j2 = ne := by omega
                have hkn2 : knownTo es (ss + sc) j2 = true := by rw [hj3]; exact HKNOWN.out
                rw [hkn2]
                clear hkn2 hj3
                have hm8 : decide ((8 : Int) < ((mc + 1 : Nat) : Int)) = false := by simp; omega
                have hm8' : decide ((8 : Int) < ((mc : Int) + 1)) = false := by simp; omega
                have hm8'' : decide (8 < mc + 1) = false := by simp; omega
                have hmx : decide (max bud 64 < ec + sc) = false := by simp; omega
                have hmx2 : decide ((if bud ≤ 64 then 64 else bud) < ec + sc) = false := by simp; split <;> omega
                go_wp2
                go_roundw
                case rel => exact ⟨k + 1, by omega, by go_num, by rw [HCUR.out]; show _ = Value.int .i64 ((mcount l (k + 1) sp : Nat) : Int); rw [HM.out, HMC.out]; exact int_eq (by omega), by rw [HCUR.out]; show _ = Value.int .i64 (esum l (k + 1) sp); rw [HE.out, HEC.out], below_drewN HBE5.out _⟩
                case measure => simp [intOf]; omega
    · go_wp2
      go_ret
      exact ⟨rfl, hbe.out⟩
end Go.Proofs.Ythbnnifkoomokaa
