/- The walk of OutboxArrives: it returns true and writes nothing that was there. Condition: its slice reads as lists of numbers. -/
import Derived.Test.YthbnnifkoomokaaU
set_option linter.unusedVariables false
set_option linter.unusedSimpArgs false
namespace Go.Proofs.Ythbnnifkoomokaa
open Go.RowKit Go.Mf

/-- what holds at each turn's head -/
def TurnAt (w wr : World) (lo hi b : Nat) (L : List (List Int)) (me n t : Int) (T : Nat) : Prop :=
  ∃ X, BoxAt wr lo hi b X ∧ X.Ok (20 * T) ∧ TInv L me n t T X ∧ Below w.heap.size w wr

theorem few_yes (w : World) (S : Nat → Prop) (v : Value) (L : List (List Int)) (hL : RowsAt w S v L) {r : Bool} (hf : decide (Few L) = r) : Calls Try.prog 8 #[v] w fun e w' => e = .returned (.bool r) ∧ w = w' := by
  subst hf; exact few_any w S v L hL

theorem rowAt_few {L : List (List Int)} (h : Few L) (k : Nat) : (rowAt L k).length ≤ 40 := by
  unfold rowAt
  by_cases hk : k < L.length
  · simpa using h.2 k hk
  · simp [List.getD, List.getElem?_eq_none (by omega : L.length ≤ k)]
theorem allOf_few {L : List (List Int)} (h : Few L) : ∀ k, allOf L k ≤ 40 * k
  | 0 => Nat.le_refl _
  | k + 1 => by have := allOf_few h k; have := rowAt_few h k; simp only [allOf]; omega

/-- the row of ends at k, as the walk meets it -/
theorem row_cell {w wr : World} {S : Nat → Prop} {av : Option Addr} {L : List (List Int)} (h : L ≠ [] → ∃ b off, av = some ⟨b, off, none⟩ ∧ S b ∧ ∀ j, j < L.length → ∃ u, w.cell? ⟨b, off + j, none⟩ = some u ∧ IntsAt w S u (L.getD j []))
    (hb : Below w.heap.size w wr) {k : Nat} (hk : k < L.length) : ∃ b off ae ce, av = some ⟨b, off, none⟩ ∧ wr.cell? ⟨b, off + k, none⟩ = some (.slice ae (rowAt L k).length ce) ∧ IntsAt wr S (.slice ae (rowAt L k).length ce) (rowAt L k) := by
  obtain ⟨b, off, h1, _, h2⟩ := h (by intro e; rw [e] at hk; simp at hk)
  obtain ⟨u, h3, h4⟩ := h2 k hk
  have e : L.getD k [] = rowAt L k := by simp [rowAt]
  rw [e] at h4
  have h5 := h4.of_cells (w' := wr) (fun a x _ hx => cell_below hb hx)
  obtain ⟨ae, ce, rfl, h6⟩ := h4
  exact ⟨b, off, ae, ce, h1, cell_below hb h3, h5⟩

open Classical in
noncomputable def lkB (X : Bx) (L : List (List Int)) (me : Int) (q : Nat) (m : Nat) : Bool := decide (lk X L me q m)
theorem lkB_zero (X : Bx) (L : List (List Int)) (me : Int) (q : Nat) : lkB X L me q 0 = false := by
  unfold lkB; simp only [decide_eq_false_iff_not]; rintro ⟨lg, h, _⟩; omega
theorem lkB_succ (X : Bx) (L : List (List Int)) (me : Int) (q j : Nat) : lkB X L me q (j + 1) = (lkB X L me q j || (((q : Int) != me) && ((q : Int) != (j : Int)) && decide (X.sentOf q j < lastOf (rowAt L j)))) := by
  rw [Bool.eq_iff_iff]
  simp only [lkB, decide_eq_true_eq, Bool.or_eq_true, Bool.and_eq_true, bne_iff_ne, ne_eq]
  constructor
  · rintro ⟨lg, h1, h2, h3, h4⟩
    by_cases e : lg = j
    · subst e; exact .inr ⟨⟨h2, h3⟩, h4⟩
    · exact .inl ⟨lg, by omega, h2, h3, h4⟩
  · rintro (⟨lg, h1, h2⟩ | ⟨⟨h2, h3⟩, h4⟩)
    · exact ⟨lg, by omega, h2⟩
    · exact ⟨j, by omega, h2, h3, h4⟩
theorem lkB_iff (X : Bx) (L : List (List Int)) (me : Int) (q m : Nat) : lkB X L me q m = true ↔ lk X L me q m := by unfold lkB; simp

/-- the row 'lacks' while it is filled: before peer p, and inside peer p before log j -/
structure LackSt (wr wx : World) (g N m : Nat) (X : Bx) (L : List (List Int)) (me : Int) (p : Nat) : Prop where
  row : BoolRow wx g N (fun q => if q < p then lkB X L me q m else false)
  below : Below g wr wx
  hg : wr.heap.size = g
  sz : g < wx.heap.size
structure LackIn (wr wx : World) (g N m : Nat) (X : Bx) (L : List (List Int)) (me : Int) (p j : Nat) : Prop where
  row : BoolRow wx g N (fun q => if q < p then lkB X L me q m else if q = p then lkB X L me q j else false)
  below : Below g wr wx
  hg : wr.heap.size = g
  sz : g < wx.heap.size

theorem lack_start {wr : World} {g N m : Nat} {X : Bx} {L : List (List Int)} {me : Int} (hg : wr.heap.size = g) : LackSt wr (wr.alloc (.cells (boolCells N fun _ => false) 4)) g N m X L me 0 where
  row := by subst hg; exact (BoolRow.made wr N).congr (fun p hp => by simp)
  below := (Below.refl _ _).alloc (by omega) _
  hg := hg
  sz := by simp; omega
theorem lack_in {wr wx : World} {g N m : Nat} {X : Bx} {L : List (List Int)} {me : Int} {p : Nat} (h : LackSt wr wx g N m X L me p) : LackIn wr wx g N m X L me p 0 where
  row := h.row.congr (fun q hq => by
    by_cases e : q < p
    · simp [e]
    · simp only [if_neg e]
      by_cases e2 : q = p
      · subst e2; simp [lkB_zero]
      · simp [e2])
  below := h.below
  hg := h.hg
  sz := h.sz
theorem lack_set {wr wx : World} {g N m : Nat} {X : Bx} {L : List (List Int)} {me : Int} {p j : Nat} (h : LackIn wr wx g N m X L me p j) {b : Bool} (hb : b = lkB X L me p (j + 1)) :
    LackIn wr ((wx.setCell ⟨g, p, none⟩ (.bool b)).drew) g N m X L me p (j + 1) where
  row := ((h.row.set p b).of_heap rfl).congr (fun q hq => by
    by_cases e : q = p
    · subst e; simp [hb]
    · simp [e])
  below := (h.below.setCell (by show g ≤ g; omega) _).drew
  hg := h.hg
  sz := by simpa using h.sz
theorem lack_out {wr wx : World} {g N m : Nat} {X : Bx} {L : List (List Int)} {me : Int} {p : Nat} (h : LackIn wr wx g N m X L me p m) : LackSt wr wx g N m X L me (p + 1) where
  row := h.row.congr (fun q hq => by
    by_cases e : q < p
    · simp [e, show q < p + 1 by omega]
    · by_cases e2 : q = p
      · subst e2; simp
      · simp [e, e2, show ¬ q < p + 1 by omega])
  below := h.below
  hg := h.hg
  sz := h.sz

theorem rows_bound {w : World} {S : Nat → Prop} {av : Option Addr} {n cv : Nat} {L : List (List Int)} (h : RowsAt w S (.slice av n cv) L) (lg e : Int) (he : e ∈ rowAt L lg) : e ≤ 9223372036854775807 := by
  obtain ⟨a, c, _, _, h4⟩ := h
  unfold rowAt at he
  by_cases hk : lg.toNat < L.length
  · obtain ⟨b, off, _, _, h5⟩ := h4 (by intro e; rw [e] at hk; simp at hk)
    obtain ⟨u, _, a2, c2, _, _, h6, _⟩ := h5 _ hk
    exact (h6 e he).2
  · simp [List.getD, List.getElem?_eq_none (by omega : L.length ≤ lg.toNat)] at he

def servedB (l : List Snd) (j : Nat) (p : Int) : Bool := (l.take j).any fun s => s.peer == p
theorem servedB_succ {l : List Snd} {j : Nat} {s : Snd} (h : l[j]? = some s) (p : Int) : servedB l (j + 1) p = (servedB l j p || (s.peer == p)) := by
  have hj : j < l.length := (List.getElem?_eq_some_iff.1 h).1
  have he : l[j] = s := (List.getElem?_eq_some_iff.1 h).2
  unfold servedB
  rw [List.take_succ_eq_append_getElem hj, List.any_append, he]; simp
theorem servedB_iff (l : List Snd) (j : Nat) (p : Int) : servedB l j p = true ↔ ∃ s ∈ l.take j, s.peer = p := by
  unfold servedB; simp [List.any_eq_true]

theorem snds_upd {w5 w7 w8 : World} {lo hi lo' : Nat} {al : Option Addr} {l : List Snd} (h : l ≠ [] → ∃ b off, al = some ⟨b, off, none⟩ ∧ w5.heap.size ≤ b ∧ ∀ j, j < l.length → ∃ s, l[j]? = some s ∧
    w7.cell? ⟨b, off + j * 4, none⟩ = some (.int .i64 s.peer) ∧ w7.cell? ⟨b, off + j * 4 + 1, none⟩ = some (.int .i64 s.log) ∧
    w7.cell? ⟨b, off + j * 4 + 2, none⟩ = some (.int .i64 s.src) ∧ w7.cell? ⟨b, off + j * 4 + 3, none⟩ = some (.int .i64 s.count)) (_h5 : Upd lo hi w5 w7) (h7 : Upd lo hi w7 w8) (hg : lo' ≤ w5.heap.size) (hh : hi ≤ lo') :
    l ≠ [] → ∃ b off, al = some ⟨b, off, none⟩ ∧ w5.heap.size ≤ b ∧ ∀ j, j < l.length → ∃ s, l[j]? = some s ∧
    w8.cell? ⟨b, off + j * 4, none⟩ = some (.int .i64 s.peer) ∧ w8.cell? ⟨b, off + j * 4 + 1, none⟩ = some (.int .i64 s.log) ∧
    w8.cell? ⟨b, off + j * 4 + 2, none⟩ = some (.int .i64 s.src) ∧ w8.cell? ⟨b, off + j * 4 + 3, none⟩ = some (.int .i64 s.count) := by
  intro hn
  obtain ⟨b, off, h1, h2, h3⟩ := h hn
  refine ⟨b, off, h1, h2, fun j hj => ?_⟩
  obtain ⟨s, h4, p0, p1, p2, p3⟩ := h3 j hj
  have hs : ¬ (lo ≤ b ∧ b < hi) := by omega
  exact ⟨s, h4, cell_upd h7 hs p0, cell_upd h7 hs p1, cell_upd h7 hs p2, cell_upd h7 hs p3⟩

/-- while a plan is acknowledged -/
structure AckSt (w5 wx : World) (lo hi b g N : Nat) (X : Bx) (L : List (List Int)) (me t : Int) (l : List Snd) (f : Nat → Bool) (M : Int) (i : Nat) (Y : Bx) : Prop where
  box : BoxAt wx lo hi b Y
  inv : KInv X L me (N : Int) t l i Y
  upd : Upd lo hi w5 wx
  ok : Y.Ok M
  row : BoolRow wx g N f

set_option maxHeartbeats 1000000 in
set_option maxRecDepth 100000 in
theorem arrives_raw (w : World) (me n bud now : Int) (v : Value) (L : List (List Int)) (hL : RowsAt w (fun j => j < w.heap.size) v L) (hbud : bud ≤ 9223372036854775807) :
    Calls Try.prog 3 #[.int .i64 me, .int .i64 n, .int .i64 bud, v, .int .i64 now] w (LawPost w) := by
  have HL := Lib.hid hL
  obtain ⟨av, cv, rfl, hlen, hrows⟩ := hL
  have HRW := Lib.hid hrows
  clear hrows
  obtain ⟨len, hlenv⟩ : ∃ len, L.length = len := ⟨_, rfl⟩
  have HLEN := Lib.hid hlenv
  rw [hlenv] at hlen ⊢
  clear hlenv
  have HL2 := Lib.hid (show RowsAt w (fun j => j < w.heap.size) (.slice av len cv) L by have := HL.out; rw [HLEN.out] at this; exact this)
  clear HL
  have HBUD := Lib.hid hbud
  clear hbud
  by_cases hfew : Few L
  · have hf : decide (Few L) = true := by simpa using hfew
    have HF := Lib.hid hf
    have HFEW := Lib.hid hfew
    have hl25 : len ≤ 25 := by have := hfew.1; have := HLEN.out; omega
    clear hf hfew
    go_enter Try.func3, Try.ntmps3
    go_wp2_with fail
    refine (small_any _).mono ?_
    rintro e w1 ⟨rfl, hbel1⟩
    have HBEL1 := Lib.hid hbel1
    clear hbel1
    go_wp2_with fail
    refine (few_yes w1 _ _ L (HL2.out.below HBEL1.out) HF.out).mono ?_
    rintro e w2 ⟨rfl, rfl⟩
    go_wp2_with fail
    go_loop [13, 12] (fun i a => ∃ k : Nat, k ≤ len ∧ i = .int .i64 k ∧ a = .int .i64 (allOf L k : Nat)) (fun i _ => len - (intOf i).toNat)
    case atStart => exact ⟨0, by omega, rfl, rfl⟩
    case round =>
      obtain ⟨k, hk, rfl, rfl⟩ := hrel
      have hall := allOf_few HFEW.out k
      by_cases hlt : k < len
      · obtain ⟨bL, oL, ae, ce, rfl, hce, hie⟩ := row_cell HRW.out HBEL1.out (k := k) (by rw [HLEN.out]; exact hlt)
        have hallk : allOf L (k + 1) = allOf L k + (rowAt L k).length := rfl
        have hr40 := rowAt_few HFEW.out k
        obtain ⟨es, hes⟩ : ∃ es, rowAt L k = es := ⟨_, rfl⟩
        rw [hes] at hce hie hallk hr40
        obtain ⟨ne, hne⟩ : ∃ ne, es.length = ne := ⟨_, rfl⟩
        rw [hne] at hce hallk hr40
        obtain ⟨A, hA⟩ : ∃ A, allOf L k = A := ⟨_, rfl⟩
        rw [hA] at hall hallk ⊢
        have HIE := Lib.hid hie
        have HALLK := Lib.hid hallk
        have HNE := Lib.hid hne
        clear hie hallk hne hes hA
        go_wp2
        go_loop [14] (fun i => ∃ j : Nat, j ≤ ne ∧ i = .int .i64 j) (fun i => ne - (intOf i).toNat)
        case atStart => exact ⟨0, by omega, rfl⟩
        case round =>
          obtain ⟨j, hj, rfl⟩ := hrel
          by_cases hjn : j < ne
          · obtain ⟨a2, c2, heq, _, _, hcells⟩ := HIE.out
            simp only [Value.slice.injEq] at heq
            obtain ⟨rfl, _, rfl⟩ := heq
            obtain ⟨be, oe, rfl, _, hc2⟩ := hcells (by intro e; have := HNE.out; rw [e] at this; simp at this; omega)
            have hcj := hc2 j (by have := HNE.out; omega)
            obtain ⟨ej, hej⟩ : ∃ ej, es.getD j 0 = ej := ⟨_, rfl⟩
            rw [hej] at hcj
            clear hcells hc2 hej
            by_cases h4 : 400 < ej
            · have h4' : decide (400 < ej) = true := by simpa using h4
              go_wp2
              go_ret
              exact ⟨rfl, HBEL1.out⟩
            · have h4' : decide (400 < ej) = false := by simpa using h4
              go_wp2
              go_round
              case rel => exact ⟨j + 1, by omega, by go_num⟩
              case measure => simp [intOf]; omega
          · go_wp2
            go_round
            case rel => exact ⟨k + 1, by omega, by go_num, by rw [HALLK.out]; exact int_eq (by omega)⟩
            case measure => simp [intOf]; omega
      · have hkl : k = len := by omega
        subst hkl
        obtain ⟨A, hA⟩ : ∃ A, allOf L k = A := ⟨_, rfl⟩
        have HA := Lib.hid (show allOf L L.length = A by rw [HLEN.out]; exact hA)
        rw [hA] at hall ⊢
        clear hA hk hlt
        go_wp2_with fail
        by_cases hok : newOk me n
        · refine (new_box me n bud _ hok).mono ?_
          rintro e w3 ⟨b, rfl, hb3, hbel3⟩
          obtain ⟨N, hN⟩ : ∃ N : Nat, n = N := ⟨n.toNat, by have := hok.1; omega⟩
          subst hN
          have hN1 : 1 ≤ N := by have := hok.1; omega
          have hN20 : N ≤ 20 := by have := hok.2.1; omega
          obtain ⟨lo, hlo⟩ : ∃ lo, w1.heap.size = lo := ⟨_, rfl⟩
          obtain ⟨hi, hhi⟩ : ∃ hi, w3.heap.size = hi := ⟨_, rfl⟩
          have hwlo : w.heap.size ≤ lo := by have := HBEL1.out.size; omega
          rw [hlo, hhi] at hb3
          obtain ⟨t, ht⟩ : ∃ t, clamp now 0 1099511627776 = t := ⟨_, rfl⟩
          have htb := clamp_bounds now
          rw [ht] at htb
          have HT := Lib.hid ht
          have HTB := Lib.hid htb
          have HBE3 := Lib.hid (HBEL1.out.trans (hbel3.mono (by omega)))
          have HST := Lib.hid (show TurnAt w w3 lo hi b L me (N : Int) t 0 from ⟨_, hb3, (new_ok hok HBUD.out).mono (by omega), tinv_start hok htb.1 bud, HBE3.out⟩)
          have HNOK := Lib.hid hok
          have hloN : w.heap.size ≤ hi := by have := HBE3.out.size; omega
          clear hb3 hbel3 hlo hhi ht htb hok HBE3
          have hmk := fun W => make_bools N hN20 W
          have HMK := Lib.hid hmk
          clear hmk
          go_wp2_with fail
          go_loopw [16] (fun i wr => ∃ T : Nat, T ≤ A + 1 ∧ i = .int .i64 T ∧ Hid (TurnAt w wr lo hi b L me (N : Int) t T)) (fun i _ => A + 1 - (intOf i).toNat)
          case atStart => exact ⟨0, by omega, rfl, HST.out⟩
          case round =>
            obtain ⟨T, hT, rfl, hturn⟩ := hrel
            by_cases hTA : T ≤ A
            · have hTA' : decide ((T : Int) ≤ (A : Int)) = true := by simp; omega
              obtain ⟨w4, rfl⟩ : ∃ w4 : World, w4 = wr := ⟨_, rfl⟩
              obtain ⟨X, hbx, hxo, hti, hbe⟩ := hturn.out
              have HBX := Lib.hid hbx
              have HXO := Lib.hid hxo
              have HTI := Lib.hid hti
              have HBE := Lib.hid hbe
              clear hturn hbx hxo hti hbe
              have hmk := HMK.out
              go_wp2
              obtain ⟨g, hg⟩ : ∃ g, w4.heap.size = g := ⟨_, rfl⟩
              have HG := Lib.hid hg
              have hstart : LackSt w4 (w4.alloc (.cells (boolCells N fun _ => false) 4)) g N (min N k) X L me 0 := lack_start HG.out
              have HSTART := Lib.hid hstart
              rw [hg]
              clear hstart hg hmk
              go_loopw [18] (fun i wx => ∃ p : Nat, p ≤ N ∧ i = .int .i64 p ∧ Hid (LackSt w4 wx g N (min N k) X L me p)) (fun i _ => N - (intOf i).toNat)
              case atStart => exact ⟨0, by omega, rfl, HSTART.out⟩
              case round =>
                obtain ⟨p, hp, rfl, hls⟩ := hrel
                obtain ⟨w5, rfl⟩ : ∃ w5 : World, w5 = wr := ⟨_, rfl⟩
                by_cases hpN : p < N
                · go_wp2
                  go_loopw [19] (fun i wx => ∃ j : Nat, j ≤ min N k ∧ i = .int .i64 j ∧ Hid (LackIn w4 wx g N (min N k) X L me p j)) (fun i _ => N - (intOf i).toNat)
                  case atStart => exact ⟨0, by omega, rfl, lack_in hls.out⟩
                  case round =>
                    obtain ⟨j, hj, rfl, hli⟩ := hrel
                    obtain ⟨w6, rfl⟩ : ∃ w6 : World, w6 = wr := ⟨_, rfl⟩
                    by_cases hjm : j < min N k
                    · have hjN : j < N := by omega
                      have hjk : j < k := by omega
                      have hcell := hli.out.row.cell hpN
                      have hfz := hli.out.row.frozen p
                      have hsz := hli.out.sz
                      have hsucc := lkB_succ X L me p j
                      rw [if_neg (by omega), if_pos rfl] at hcell
                      cases hb : lkB X L me p j with
                      | true =>
                        rw [hb] at hcell
                        have hnew : true = lkB X L me p (j + 1) := by rw [hsucc, hb, Bool.true_or]
                        have HNEW := Lib.hid hnew
                        clear hsucc hb hnew
                        go_wp2
                        refine wp_region_still_tail 29 (by kernel_rfl) (by kernel_rfl) ?_
                        simp only [List.take_succ_cons, List.take_zero, List.drop_succ_cons, List.drop_zero, World.drew_eq, World.drew_drewN]
                        refine still_of_quiet _ _ ?_
                        repeat (go_big_quiet_step (fail))
                        refine wpQuiet_nil ?_
                        go_wp2
                        go_roundw
                        case rel => exact ⟨j + 1, by omega, by go_num, lack_set hli.out HNEW.out⟩
                        case measure => simp [intOf]; omega
                      | false =>
                        rw [hb] at hcell
                        rw [hb, Bool.false_or] at hsucc
                        clear hb
                        by_cases hpme : (p : Int) = me
                        · have hpme' : ((p : Int) != me) = false := by simpa using hpme
                          have hnew : false = lkB X L me p (j + 1) := by rw [hsucc, hpme']; rfl
                          have HNEW := Lib.hid hnew
                          clear hsucc hnew hpme
                          go_wp2
                          refine wp_region_still_tail 29 (by kernel_rfl) (by kernel_rfl) ?_
                          simp only [List.take_succ_cons, List.take_zero, List.drop_succ_cons, List.drop_zero, World.drew_eq, World.drew_drewN]
                          refine still_of_quiet _ _ ?_
                          repeat (go_big_quiet_step (fail))
                          refine wpQuiet_nil ?_
                          go_wp2
                          go_roundw
                          case rel => exact ⟨j + 1, by omega, by go_num, lack_set hli.out HNEW.out⟩
                          case measure => simp [intOf]; omega
                        · have hpme' : ((p : Int) != me) = true := by simpa using hpme
                          by_cases hpj : p = j
                          · have hpj' : ((p : Int) != (j : Int)) = false := by simp; omega
                            have hpj2 : (p != j) = false := by simp; omega
                            have hnew : false = lkB X L me p (j + 1) := by rw [hsucc, hpj']; simp
                            have HNEW := Lib.hid hnew
                            clear hsucc hnew hpj hpme
                            go_wp2
                            refine wp_region_still_tail 29 (by kernel_rfl) (by kernel_rfl) ?_
                            simp only [List.take_succ_cons, List.take_zero, List.drop_succ_cons, List.drop_zero, World.drew_eq, World.drew_drewN]
                            refine still_of_quiet _ _ ?_
                            repeat (go_big_quiet_step (fail))
                            refine wpQuiet_nil ?_
                            go_wp2
                            go_roundw
                            case rel => exact ⟨j + 1, by omega, by go_num, lack_set hli.out HNEW.out⟩
                            case measure => simp [intOf]; omega
                          · have hpj' : ((p : Int) != (j : Int)) = true := by simp; omega
                            have hpj2 : (p != j) = true := by simp; omega
                            have hbx6 := (HBX.out.below hli.out.below (by have := HBX.out.top; rw [HG.out] at this; exact this)).drewN 1
                            have hbe6 : Below w.heap.size w w6 := HBE.out.trans (hli.out.below.mono (by rw [← HG.out]; exact HBE.out.size))
                            obtain ⟨bL, oL, ae, ce, rfl, hce, hie⟩ := row_cell HRW.out hbe6 (k := j) (by rw [HLEN.out]; exact hjk)
                            obtain ⟨ne, hne⟩ : ∃ ne, (rowAt L j).length = ne := ⟨_, rfl⟩
                            rw [hne] at hce hie
                            have hie2 : IntsAt w6.drew (fun j => j < w.heap.size) (.slice ae ne ce) (rowAt L j) := hie
                            obtain ⟨sv, hsv⟩ : ∃ sv, X.sentOf p j = sv := ⟨_, rfl⟩
                            obtain ⟨lv, hlv⟩ : ∃ lv, lastOf (rowAt L j) = lv := ⟨_, rfl⟩
                            have hcs := sent_is' (w := w6.drew) hbx6 p j hsv
                            have hcl := last_is hie2
                            rw [hlv] at hcl
                            rw [hpme', hpj', hsv, hlv, Bool.true_and, Bool.true_and] at hsucc
                            have HCS := Lib.hid hcs
                            have HCL := Lib.hid hcl
                            have HNEW := Lib.hid hsucc.symm
                            clear hcs hcl hsucc hie hie2 hbx6 hbe6 hsv hlv hne hpj hpme
                            go_wp2
                            refine wp_region_still_tail 29 (by kernel_rfl) (by kernel_rfl) ?_
                            simp only [List.take_succ_cons, List.take_zero, List.drop_succ_cons, List.drop_zero, World.drew_eq, World.drew_drewN]
                            refine still_of_quiet _ _ ?_
                            repeat (first | (go_big_quiet_step (fail)) | (go_big_quiet_want; go_big_quiet_op; apply Exists.intro; refine ⟨?_, ?_⟩; (first | exact HCS.out | exact HCL.out); go_big_quiet_on))
                            refine wpQuiet_nil ?_
                            go_wp2
                            go_roundw
                            case rel => exact ⟨j + 1, by omega, by go_num, lack_set hli.out HNEW.out⟩
                            case measure => simp [intOf]; omega
                    · have hjm2 : j = min N k := by omega
                      have hout := lack_out (hjm2 ▸ hli.out)
                      have HOUT := Lib.hid hout
                      clear hout hjm2
                      by_cases hjN : j < N
                      · have hjk : ¬ j < k := by omega
                        go_wp2
                        go_roundw
                        case rel => exact ⟨p + 1, by omega, by go_num, HOUT.out⟩
                        case measure => simp [intOf]; omega
                      · go_wp2
                        go_roundw
                        case rel => exact ⟨p + 1, by omega, by go_num, HOUT.out⟩
                        case measure => simp [intOf]; omega
                · have hpN2 : p = N := by omega
                  have hrow : BoolRow w5 g N (fun q => lkB X L me q (min N k)) := hls.out.row.congr (fun q hq => by rw [if_pos (by omega)])
                  have hbel5 := hls.out.below
                  have hsz5 := hls.out.sz
                  have HROW := Lib.hid hrow
                  have HBEL5 := Lib.hid hbel5
                  clear hpN2 hls hrow hbel5 hp
                  have hbeW : Below w.heap.size w w5 := HBE.out.trans (HBEL5.out.mono (by rw [← HG.out]; exact HBE.out.size))
                  have hrows5 := (HL2.out.below hbeW).weaken (S' := fun j => ¬ (lo ≤ j ∧ j < hi)) (fun j hj => by omega)
                  have htop4 : hi ≤ g := by have := HBX.out.top; rw [HG.out] at this; exact this
                  have hbx5 := HBX.out.below HBEL5.out htop4
                  have hHBW := Lib.hid hbeW
                  have hpt := plan_turn HTI.out.inv HT.out
                  go_wp2_with fail
                  refine (plan_raw w5 lo hi b X (20 * T) now _ L hrows5 hbx5 HXO.out (by have := hT; have := hall; omega)).mono ?_
                  rintro e w7 ⟨u, rfl, hown, hbx7, hup7⟩
                  have hlen160 := plan_len HXO.out now L
                  have hxo7 := plan_ok HXO.out now L
                  obtain ⟨r, hr⟩ : ∃ r, X.plan now L = r := ⟨_, rfl⟩
                  rw [hr] at hown hbx7 hpt hlen160 hxo7
                  obtain ⟨hpok, hk0, hiff⟩ := hpt
                  have hsnds := sndsS_of_own (l := r.1) (by omega) hown
                  have HSN := Lib.hid hsnds
                  have HPOK := Lib.hid hpok
                  have HIFF := Lib.hid hiff
                  obtain ⟨nl, hnl⟩ : ∃ nl, r.1.length = nl := ⟨_, rfl⟩
                  rw [hnl] at hlen160
                  have HNL := Lib.hid hnl
                  obtain ⟨al, cl, rfl, _, hsc⟩ := HSN.out
                  have HSC := Lib.hid hsc
                  have HUP7 := Lib.hid hup7
                  have hg7 : g < w7.heap.size := Nat.lt_of_lt_of_le hsz5 hup7.size
                  have HA0 := Lib.hid (show AckSt w7 w7 lo hi b g N X L me t r.1 (fun q => lkB X L me q (min N k)) (20 * T + 20) 0 r.2 from
                    ⟨hbx7, hk0, Upd.refl _ _ _, hxo7, HROW.out.of_heap (hup7.block g hsz5 (by omega))⟩)
                  rw [hnl]
                  clear hrows5 hbx5 hown hbx7 hup7 hxo7 hr hpok hk0 hiff hsnds hnl hsc hbeW
                  go_wp2
                  go_loopw [21] (fun i wx => ∃ i0 : Nat, i0 ≤ nl ∧ i = .int .i64 i0 ∧ Hid (∃ Y, AckSt w7 wx lo hi b g N X L me t r.1 (fun q => lkB X L me q (min N k)) (20 * T + 20) i0 Y)) (fun i _ => nl - (intOf i).toNat)
                  case atStart => exact ⟨0, by omega, rfl, _, HA0.out⟩
                  case round =>
                    obtain ⟨i0, hi0, rfl, hast⟩ := hrel
                    obtain ⟨w8, rfl⟩ : ∃ w8 : World, w8 = wr := ⟨_, rfl⟩
                    by_cases hin : i0 < nl
                    · obtain ⟨Y, hY⟩ := hast.out
                      obtain ⟨bl, ol, rfl, hSb, hcl⟩ := HSC.out (by intro e; have := HNL.out; rw [e] at this; simp at this; omega)
                      obtain ⟨s, hs, p0, p1, p2, p3⟩ := hcl i0 (by rw [HNL.out]; exact hin)
                      have hsm : s ∈ r.1 := List.mem_of_getElem? hs
                      obtain ⟨hack, hk8⟩ := kinv_step hY.inv HPOK.out HTI.out.inv.hn hs HT.out
                      obtain ⟨hso, hp0, hpN, hpme⟩ := HPOK.out.each s hsm
                      have hlk := (lkB_iff X L me s.peer.toNat (min N k)).2 (by
                        have := (HIFF.out s.peer hp0 hpN).2 ⟨s, hsm, rfl⟩
                        rw [show ((s.peer.toNat : Nat) : Int) = s.peer by omega]
                        rw [HLEN.out] at this
                        simpa using this)
                      have hcu : ∀ (a : Addr) (x : Value), a.block = bl → w7.cell? a = some x → w8.cell? a = some x := fun a x ha hx => cell_upd hY.upd (by rw [ha]; have hSb' : w5.heap.size ≤ bl := hSb; have := hsz5; omega) hx
                      have p0 := hcu _ _ rfl p0
                      have p1 := hcu _ _ rfl p1
                      have p2 := hcu _ _ rfl p2
                      have p3 := hcu _ _ rfl p3
                      have hsrc0 : 0 ≤ s.src := by rw [hso.src]; exact HXO.out.s0 _ _
                      have hcnt1 := hso.c1
                      have hcnt2 := hso.c2
                      have hsum : s.src + s.count ≤ 9223372036854775807 := rows_bound HL2.out _ _ hso.mem
                      obtain ⟨sp, sl, ss, sc⟩ := s
                      dsimp only at p0 p1 p2 p3 hsrc0 hcnt1 hcnt2 hsum hack hk8 hlk hp0 hpN hpme
                      obtain ⟨q, hq⟩ : ∃ q : Nat, sp = q := ⟨sp.toNat, by omega⟩
                      subst hq
                      have hqN : q < N := by omega
                      have hbc := hY.row.cell hqN
                      have hw1 : wrap64 (ss + sc) = ss + sc := by simp only [wrap64]; omega
                      have hw2 : IntKind.i64.wrap (ss + sc) = ss + sc := by rw [IntKind.wrap_i64]; omega
                      rw [Int.toNat_natCast] at hlk
                      rw [hlk] at hbc
                      have HY := Lib.hid hY
                      have HACK := Lib.hid hack
                      have HK8 := Lib.hid hk8
                      clear hast hY hcl hs hsm hack hk8 hso hpme hlk hcu
                      go_wp2
                      refine wp_region_still_tail 33 (by kernel_rfl) (by kernel_rfl) ?_
                      simp only [List.take_succ_cons, List.take_zero, List.drop_succ_cons, List.drop_zero, World.drew_eq, World.drew_drewN]
                      refine still_of_quiet _ _ ?_
                      repeat (go_big_quiet_step (fail))
                      refine wpQuiet_nil ?_
                      go_wp2_with fail
                      refine (ack_is (w := w8.drew) (HY.out.box.drewN 1) _ _ _ _ HACK.out).mono ?_
                      rintro e w9 ⟨rfl, hb9, hu9⟩
                      have hu9' : Upd lo hi w8 w9 := (show Upd lo hi w8.drew w9 from hu9) |> fun h => ⟨h.os, h.tape, h.output, h.size, h.block⟩
                      have hA9 : AckSt w7 w9 lo hi b g N X L me t r.1 (fun q => lkB X L me q (min N k)) (20 * T + 20) (i0 + 1) _ :=
                        ⟨hb9, HK8.out, HY.out.upd.trans hu9', ack_ok HY.out.ok (by omega) _ _ _ _, HY.out.row.of_heap (hu9'.block g (HY.out.row.lt) (by omega))⟩
                      have HA9 := Lib.hid hA9
                      clear hb9 hu9 hu9' hA9
                      go_wp2
                      go_roundw
                      case rel => exact ⟨i0 + 1, by omega, by go_num, _, HA9.out⟩
                      case measure => simp [intOf]; omega
                    · have hin2 : i0 = nl := by omega
                      subst hin2
                      obtain ⟨Y, hY⟩ := hast.out
                      have HY := Lib.hid hY
                      have hkend : KInv X L me (N : Int) t r.1 r.1.length Y := by rw [HNL.out]; exact hY.inv
                      have hiff2 : ∀ p, 0 ≤ p → p < (N : Int) → (lk X L me p (min ((N : Int)).toNat L.length) ↔ ∃ s ∈ r.1, s.peer = p) := HIFF.out
                      have hti2 := turn_end HTI.out HPOK.out hiff2 hkend
                      have HTI2 := Lib.hid hti2
                      have HSC8 := Lib.hid (snds_upd HSC.out HUP7.out hY.upd (by omega) htop4)
                      have hserved : ∀ q : Nat, q < N → servedB r.1 i0 (q : Int) = lkB X L me q (min N k) := by
                        intro q hq
                        have h1 := HIFF.out (q : Int) (by omega) (by omega)
                        rw [HLEN.out, Int.toNat_natCast] at h1
                        rw [Bool.eq_iff_iff, lkB_iff, h1, servedB_iff, ← HNL.out, List.take_of_length_le (Nat.le_refl _)]
                      have HSV := Lib.hid hserved
                      clear hast hY hkend hiff2 hti2 hserved hi0 hin
                      go_wp2
                      go_loop [22] (fun i => ∃ q : Nat, q ≤ N ∧ i = .int .i64 q) (fun i => N - (intOf i).toNat)
                      case atStart => exact ⟨0, by omega, rfl⟩
                      case round =>
                        obtain ⟨q, hq, rfl⟩ := hrel
                        by_cases hqN : q < N
                        · have hbc := HY.out.row.cell hqN
                          have hsv := HSV.out q hqN
                          obtain ⟨bv, hbv⟩ : ∃ bv, lkB X L me q (min N k) = bv := ⟨_, rfl⟩
                          rw [hbv] at hbc hsv
                          have HSVQ := Lib.hid hsv
                          clear hsv hbv
                          go_wp2
                          go_loop [24, 23] (fun i sv => ∃ j : Nat, j ≤ i0 ∧ i = .int .i64 j ∧ sv = .bool (servedB r.1 j (q : Int))) (fun i _ => i0 - (intOf i).toNat)
                          case atStart => exact ⟨0, by omega, rfl, rfl⟩
                          case round =>
                            obtain ⟨j, hj, rfl, rfl⟩ := hrel
                            by_cases hjn : j < i0
                            · obtain ⟨bl, ol, rfl, hSb, hcl⟩ := HSC8.out (by intro e; have := HNL.out; rw [e] at this; simp at this; omega)
                              obtain ⟨s, hs, p0, _⟩ := hcl j (by rw [HNL.out]; exact hjn)
                              have hsucc := servedB_succ hs (q : Int)
                              obtain ⟨sb, hsb⟩ : ∃ sb, servedB r.1 j (q : Int) = sb := ⟨_, rfl⟩
                              rw [hsb] at hsucc ⊢
                              obtain ⟨sp, hsp⟩ : ∃ sp, s.peer = sp := ⟨_, rfl⟩
                              rw [hsp] at hsucc p0
                              have HSUCC := Lib.hid hsucc
                              clear hcl hs hsucc hsb hsp
                              cases sb with
                              | true =>
                                go_wp2
                                go_round
                                case rel => exact ⟨j + 1, by omega, by go_num, by rw [HSUCC.out]; rfl⟩
                                case measure => simp [intOf]; omega
                              | false =>
                                go_wp2
                                go_round
                                case rel => exact ⟨j + 1, by omega, by go_num, by rw [HSUCC.out]; rfl⟩
                                case measure => simp [intOf]; omega
                            · have hjn2 : j = i0 := by omega
                              subst hjn2
                              obtain ⟨sv, hsv⟩ : ∃ sv, servedB r.1 j (q : Int) = sv := ⟨_, rfl⟩
                              have hbs : sv = bv := hsv.symm.trans HSVQ.out
                              subst hbs
                              rw [hsv]
                              have hne : (sv != sv) = false := by simp
                              clear hsv
                              go_wp2
                              go_round
                              case rel => exact ⟨q + 1, by omega, by go_num⟩
                              case measure => simp [intOf]; omega
                        · have hbe8 : Below w.heap.size w w8 := hHBW.out.trans ((HUP7.out.trans HY.out.upd).below hwlo (by have := hHBW.out.size; exact this))
                          have HT8 := Lib.hid (show TurnAt w w8 lo hi b L me (N : Int) t (T + 1) from ⟨Y, HY.out.box, by have := HY.out.ok; rw [show ((20 : Int) * ((T + 1 : Nat) : Int)) = 20 * (T : Int) + 20 by omega]; exact this, HTI2.out, hbe8⟩)
                          clear hbe8
                          go_wp2
                          go_roundw
                          case rel => exact ⟨T + 1, by omega, by go_num, HT8.out⟩
                          case measure => simp [intOf]; omega
            · have hTA' : decide ((T : Int) ≤ (A : Int)) = false := by simp; omega
              have hTA1 : T = A + 1 := by omega
              obtain ⟨w4, rfl⟩ : ∃ w4 : World, w4 = wr := ⟨_, rfl⟩
              obtain ⟨X, hbx, hxo, hti, hbe⟩ := hturn.out
              have hno : ∀ p, 0 ≤ p → p < (N : Int) → ¬ lk X L me p (min ((N : Int)).toNat L.length) := fun p p0 pn => turns_end (by rw [hTA1, ← HA.out] at hti; exact hti) p p0 pn
              have hplan := plan_empty hti.inv HT.out hno
              have hsl : ∀ p j : Nat, p < N → j < min N k → (p : Int) ≠ me → (p : Int) ≠ (j : Int) → X.sentOf p j = lastOf (rowAt L j) := fun p j hp hj h1 h2 =>
                no_lack hti.inv h1 (hno p (by omega) (by omega)) (lg := j) (by rw [HLEN.out, Int.toNat_natCast]; exact hj) h2
              have HBX := Lib.hid hbx
              have HXO := Lib.hid hxo
              have HBE := Lib.hid hbe
              have HPLAN := Lib.hid hplan
              have HSL := Lib.hid hsl
              clear hturn hbx hxo hti hbe hno hplan hsl hTA
              go_wp2
              go_loopw [25] (fun i wx => ∃ p : Nat, p ≤ N ∧ i = .int .i64 p ∧ Hid (∃ q, wx = w4.drewN q)) (fun i _ => N - (intOf i).toNat)
              case atStart => exact ⟨0, by omega, rfl, 0, rfl⟩
              case round =>
                obtain ⟨p, hp, rfl, hq⟩ := hrel
                obtain ⟨q, rfl⟩ := hq.out
                clear hq
                by_cases hpN : p < N
                · go_wp2
                  go_loopw [26] (fun i wx => ∃ j : Nat, j ≤ min N k ∧ i = .int .i64 j ∧ Hid (∃ q, wx = w4.drewN q)) (fun i _ => N - (intOf i).toNat)
                  case atStart => exact ⟨0, by omega, rfl, q, rfl⟩
                  case round =>
                    obtain ⟨j, hj, rfl, hq⟩ := hrel
                    obtain ⟨q2, rfl⟩ := hq.out
                    clear hq
                    by_cases hjm : j < min N k
                    · have hjN : j < N := by omega
                      have hjk : j < k := by omega
                      by_cases hpme : (p : Int) = me
                      · have hpme' : ((p : Int) != me) = false := by simpa using hpme
                        clear hpme
                        go_wp2
                        go_quiet (fail)
                        go_wp2
                        go_roundw
                        case rel => exact ⟨j + 1, by omega, by go_num, q2 + nq, by simp⟩
                        case measure => simp [intOf]; omega
                      · have hpme' : ((p : Int) != me) = true := by simpa using hpme
                        by_cases hpj : p = j
                        · have hpj' : ((p : Int) != (j : Int)) = false := by simp; omega
                          have hpj2 : (p != j) = false := by simp; omega
                          clear hpj hpme
                          go_wp2
                          go_quiet (fail)
                          go_wp2
                          go_roundw
                          case rel => exact ⟨j + 1, by omega, by go_num, q2 + nq, by simp⟩
                          case measure => simp [intOf]; omega
                        · have hpj' : ((p : Int) != (j : Int)) = true := by simp; omega
                          have hpj2 : (p != j) = true := by simp; omega
                          obtain ⟨w5, h5⟩ : ∃ w5, w4.drewN q2 = w5 := ⟨_, rfl⟩
                          rw [h5]
                          obtain ⟨bL, oL, ae, ce, rfl, hce, hie⟩ := row_cell (wr := w5) HRW.out (by rw [← h5]; exact below_drewN HBE.out q2) (k := j) (by rw [HLEN.out]; exact hjk)
                          obtain ⟨ne, hne⟩ : ∃ ne, (rowAt L j).length = ne := ⟨_, rfl⟩
                          rw [hne] at hce hie
                          have hie2 : ∀ m, IntsAt (w5.drewN m) (fun j => j < w.heap.size) (.slice ae ne ce) (rowAt L j) := fun m => hie
                          obtain ⟨lv, hlv⟩ : ∃ lv, lastOf (rowAt L j) = lv := ⟨_, rfl⟩
                          have hsv := HSL.out p j hpN hjm hpme (by omega)
                          rw [hlv] at hsv
                          have hcs := fun m => sent_is' (w := w5.drewN m) (lo := lo) (hi := hi) (by rw [← h5]; exact (HBX.out.drewN q2).drewN m) p j hsv
                          have hcl := fun m => last_is (hie2 m)
                          rw [hlv] at hcl
                          have hll : (lv != lv) = false := by simp
                          have HCS := Lib.hid hcs
                          have HCL := Lib.hid hcl
                          have H5 := Lib.hid h5
                          clear hcs hcl hie hie2 hsv hlv hne hpj hpme h5
                          go_wp2
                          go_quiet ((first | exact Calls.quiet_of_same (HCS.out _) | exact Calls.quiet_of_same (HCL.out _)))
                          go_wp2
                          go_roundw
                          case rel => exact ⟨j + 1, by omega, by go_num, q2 + nq, by rw [← H5.out]; simp⟩
                          case measure => simp [intOf]; omega
                    · by_cases hjN : j < N
                      · have hjk : ¬ j < k := by omega
                        go_wp2
                        go_roundw
                        case rel => exact ⟨p + 1, by omega, by go_num, q2, rfl⟩
                        case measure => simp [intOf]; omega
                      · go_wp2
                        go_roundw
                        case rel => exact ⟨p + 1, by omega, by go_num, q2, rfl⟩
                        case measure => simp [intOf]; omega
                · have hrows := (HL2.out.below HBE.out).weaken (S' := fun j => ¬ (lo ≤ j ∧ j < hi)) (fun j hj => by omega)
                  go_wp2_with fail
                  refine (plan_raw (w4.drewN q) lo hi b X (20 * T) now _ L hrows (HBX.out.drewN q) HXO.out (by omega)).mono ?_
                  rintro e w7 ⟨u, rfl, hown, hbx7, hup7⟩
                  rw [HPLAN.out] at hown
                  obtain ⟨au, cu, rfl⟩ := ownsRow_shape hown
                  have hbe7 : Below w.heap.size w w7 := (below_drewN HBE.out q).trans (hup7.below hwlo HBE.out.size)
                  have HBE7 := Lib.hid hbe7
                  clear hown hbx7 hup7 hrows hbe7
                  go_wp2
                  go_ret
                  exact ⟨rfl, HBE7.out⟩
        · refine (new_none me n bud _ hok).mono ?_
          rintro e w2 ⟨rfl, rfl⟩
          clear hok
          go_wp2
          go_ret
          exact ⟨rfl, HBEL1.out⟩
  · have hf : decide (Few L) = false := by simpa using hfew
    have HF := Lib.hid hf
    clear hf hfew
    go_enter Try.func3, Try.ntmps3
    go_wp2_with fail
    refine (small_any _).mono ?_
    rintro e w1 ⟨rfl, hbel1⟩
    have HBEL1 := Lib.hid hbel1
    clear hbel1
    go_wp2_with fail
    refine (few_yes w1 _ _ L (HL2.out.below HBEL1.out) HF.out).mono ?_
    rintro e w2 ⟨rfl, rfl⟩
    go_wp2
    go_ret
    exact ⟨rfl, HBEL1.out⟩
end Go.Proofs.Ythbnnifkoomokaa
