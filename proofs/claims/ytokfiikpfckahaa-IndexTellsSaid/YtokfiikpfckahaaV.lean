/- The contract of set. Condition: the steps can be read, the index lies as stated. -/
import Derived.Test.YtokfiikpfckahaaU
set_option linter.unusedVariables false
set_option linter.unusedSimpArgs false
namespace Go.Proofs.Ytokfiikpfckahaa
open Go.RowKit Go.Lib Go.Ix Go.Sort Go.Mf
set_option maxRecDepth 100000

/-- which call a step is -/
def kind (d : Int) : Int := Go.bits .and .i64 d 3
def setW (W : Str → Option (List Str)) (s : StepD) : Str → Option (List Str) := fun j => if j = s.id then some (wordsOf s.text) else W j
def rmW (W : Str → Option (List Str)) (s : StepD) : Str → Option (List Str) := fun j => if j = s.id then none else W j
def stepW (W : Str → Option (List Str)) (s : StepD) : Str → Option (List Str) :=
  if kind s.d = 0 ∨ kind s.d = 1 then setW W s else if kind s.d = 2 then rmW W s else W
def runW (W : Str → Option (List Str)) (l : List StepD) : Str → Option (List Str) := l.foldl stepW W
theorem runW_take (W : Str → Option (List Str)) (l : List StepD) {j : Nat} (hj : j < l.length) : runW W (l.take (j + 1)) = stepW (runW W (l.take j)) l[j] := by
  unfold runW
  rw [List.take_succ_eq_append_getElem hj, List.foldl_append]
  rfl

/-- the loop's state -/
def SeSt (w : World) (B : Ter) (x : Nat) (W : Str → Option (List Str)) (wr : World) : Prop := IxAt wr B x W ∧ Bk B w wr

theorem SeSt.set {w wr : World} {B : Ter} {x : Nat} {W : Str → Option (List Str)} (h : SeSt w B x W wr) (hB : B.fresh w.heap.size) (id text : Str) (ht : text.length ≤ 1000000) (q : Nat) :
    Calls Try.prog 15 #[.pointer (some ⟨x, 0, none⟩), encStr id, encStr text] (wr.drewN q) fun e w' => e = .returned (.tuple #[]) ∧ Hid (SeSt w B x (fun j => if j = id then some (wordsOf text) else W j) w') := by
  have hd := below_dn wr q
  refine (set_any (h.1.up hd) ((hB.up h.2.size).up hd.size) id text ht).mono ?_
  rintro e w' ⟨rfl, h1, h2⟩
  exact ⟨rfl, Lib.hid ⟨h1, (h.2.up hd (hB.up h.2.size)).trans h2⟩⟩
theorem SeSt.rm {w wr : World} {B : Ter} {x : Nat} {W : Str → Option (List Str)} (h : SeSt w B x W wr) (hB : B.fresh w.heap.size) (id : Str) (q : Nat) :
    Calls Try.prog 17 #[.pointer (some ⟨x, 0, none⟩), encStr id] (wr.drewN q) fun e w' => e = .returned (.tuple #[]) ∧ Hid (SeSt w B x (fun j => if j = id then none else W j) w') := by
  have hd := below_dn wr q
  refine (remove_any (h.1.up hd) ((hB.up h.2.size).up hd.size) id).mono ?_
  rintro e w' ⟨rfl, h1, h2⟩
  exact ⟨rfl, Lib.hid ⟨h1, (h.2.up hd (hB.up h.2.size)).trans h2⟩⟩

set_option maxHeartbeats 4000000 in
theorem steps_any {w0 w : World} {B : Ter} {x : Nat} {W : Str → Option (List Str)} {v : Value} {l : List StepD} (hl : StepsAt w0 v l) (hf : okF l = true) (h : IxAt w B x W) (hb : Below w0.heap.size w0 w) (hB : B.fresh w.heap.size) (hB0 : w0.heap.size ≤ B.base) :
    Calls Try.prog 22 #[.pointer (some ⟨x, 0, none⟩), v] w fun e w' => e = .returned (.tuple #[]) ∧ SeSt w B x (runW W l) w' := by
  obtain ⟨p, cap, rfl, hc⟩ := hl
  obtain ⟨n, hn⟩ : ∃ n, n = l.length := ⟨_, rfl⟩
  have hn40 : n ≤ 40 := by have := okF_len hf; omega
  have HC := Lib.hid hc
  have HN := Lib.hid hn
  have HF := Lib.hid hf
  have HIX := Lib.hid h
  have HB := Lib.hid hb
  have HFR := Lib.hid hB
  have HB0 := Lib.hid hB0
  rw [← hn]
  clear hc hn hf h hb hB hB0
  go_enter Try.func22, Try.ntmps22
  go_wp2
  go_loopw [4] (fun t wr => ∃ j : Nat, j ≤ n ∧ t = .int .i64 j ∧ Hid (SeSt w B x (runW W (l.take j)) wr)) (fun t _ => n - (intOf t).toNat)
  case atStart => exact ⟨0, by omega, rfl, Lib.hid ⟨HIX.out, Bk.refl _ _⟩⟩
  case round =>
    obtain ⟨j, hj, rfl, hst⟩ := hrel
    by_cases hjn : j < n
    · have hjl : j < l.length := by rw [← HN.out]; exact hjn
      obtain ⟨b', o', rfl, hlt, c0, c1, c2, c3, hw⟩ := HC.out j hjl
      have hjI : (j : Int) < n := by omega
      have hj0 : (0 : Int) ≤ j := by omega
      have hbw : Below w0.heap.size w0 wr := HB.out.trans (hst.out.2.below.mono HB0.out)
      have d0 := (hbw.cell (p := ⟨b', o' + j * 4, none⟩) hlt).trans c0
      have d1 := (hbw.cell (p := ⟨b', o' + j * 4 + 1, none⟩) hlt).trans c1
      have d2 := (hbw.cell (p := ⟨b', o' + j * 4 + 2, none⟩) hlt).trans c2
      obtain ⟨d, hd⟩ : ∃ d, d = l[j].d := ⟨_, rfl⟩
      obtain ⟨id, hid⟩ : ∃ id, id = l[j].id := ⟨_, rfl⟩
      obtain ⟨text, htext⟩ : ∃ text, text = l[j].text := ⟨_, rfl⟩
      rw [← hd] at d0
      rw [← hid] at d1
      rw [← htext] at d2
      have htl : text.length ≤ 1000000 := by
        have := (okF_at HF.out (List.getElem_mem hjl)).2.1
        rw [← htext] at this
        omega
      have HSET := Lib.hid (fun q => SeSt.set hst.out HFR.out id text htl q)
      have HRM := Lib.hid (fun q => SeSt.rm hst.out HFR.out id q)
      have HN1 : Hid (∀ w', SeSt w B x (fun j_1 => if j_1 = id then some (wordsOf text) else runW W (l.take j) j_1) w' → kind d = 0 ∨ kind d = 1 → SeSt w B x (runW W (l.take (j + 1))) w') := Lib.hid (fun w' h hk => by
        rw [runW_take W l hjl, stepW, ← hd, if_pos hk]
        subst hid htext
        exact h)
      have HN2 : Hid (∀ w', SeSt w B x (fun j_1 => if j_1 = id then none else runW W (l.take j) j_1) w' → kind d = 2 → SeSt w B x (runW W (l.take (j + 1))) w') := Lib.hid (fun w' h hk => by
        rw [runW_take W l hjl, stepW, ← hd, if_neg (by omega), if_pos hk]
        subst hid
        exact h)
      have HN3 : Hid (¬ (kind d = 0 ∨ kind d = 1) → ¬ kind d = 2 → SeSt w B x (runW W (l.take (j + 1))) wr) := Lib.hid (fun h1 h2 => by
        rw [runW_take W l hjl, stepW, ← hd, if_neg h1, if_neg h2]
        exact hst.out)
      clear c0 c1 c2 c3 hw hd hid htext hbw hst
      by_cases e0 : Go.bits .and .i64 d 3 = 0
      · have e0' : (Go.bits .and .i64 d 3 == 0) = true := by simp [e0]
        clear e0
        go_upto_region 6 with fail
        change Code.wp _ _ _ _ (wr.drewN 0)
        go_region_with (go_at_call 15; refine (HSET.out _).mono ?_; rintro e w1 ⟨rfl, h1⟩)
        all_goals
          go_wp2
          go_roundw
          case rel => exact ⟨j + 1, by omega, by go_num, Lib.hid (HN1.out _ h1.out (Or.inl (by simpa [kind] using e0')))⟩
          case measure => simp [intOf]; omega
      · have e0' : (Go.bits .and .i64 d 3 == 0) = false := by simp [e0]
        by_cases e1 : Go.bits .and .i64 d 3 = 1
        · have e1' : (Go.bits .and .i64 d 3 == 1) = true := by simp [e1]
          clear e0 e1
          go_upto_region 6 with fail
          change Code.wp _ _ _ _ (wr.drewN 0)
          go_region_with (go_at_call 15; refine (HSET.out _).mono ?_; rintro e w1 ⟨rfl, h1⟩)
          all_goals
            go_wp2
            go_roundw
            case rel => exact ⟨j + 1, by omega, by go_num, Lib.hid (HN1.out _ h1.out (Or.inr (by simpa [kind] using e1')))⟩
            case measure => simp [intOf]; omega
        · have e1' : (Go.bits .and .i64 d 3 == 1) = false := by simp [e1]
          by_cases e2 : Go.bits .and .i64 d 3 = 2
          · have e2' : (Go.bits .and .i64 d 3 == 2) = true := by simp [e2]
            clear e0 e1 e2
            go_wp2_with (go_at_call 17; refine (HRM.out 0).mono ?_; rintro e w1 ⟨rfl, h1⟩)
            go_roundw
            case rel => exact ⟨j + 1, by omega, by go_num, Lib.hid (HN2.out _ h1.out (by simpa [kind] using e2'))⟩
            case measure => simp [intOf]; omega
          · have e2' : (Go.bits .and .i64 d 3 == 2) = false := by simp [e2]
            clear e0 e1 e2
            go_wp2
            go_roundw
            case rel => exact ⟨j + 1, by omega, by go_num, Lib.hid (HN3.out (by rintro (h | h); · simp [kind] at h; simp [h] at e0'
                                                                                · simp [kind] at h; simp [h] at e1') (by intro h; simp [kind] at h; simp [h] at e2'))⟩
            case measure => simp [intOf]; omega
    · obtain rfl : j = n := by omega
      go_wp2
      go_end0
      refine ⟨rfl, ?_⟩
      have := hst.out
      rw [HN.out, List.take_length] at this
      exact this
end Go.Proofs.Ytokfiikpfckahaa
