/- The contract of outbox.New on every input. -/
import Derived.Test.YthbnnifkoomokaaE
set_option linter.unusedVariables false
set_option linter.unusedSimpArgs false
namespace Go.Proofs.Ythbnnifkoomokaa
open Go.RowKit Go.Mf

set_option maxHeartbeats 400000 in
theorem new_nil (me n bud : Int) (w : World) (h : n < 1 ∨ 20 < n ∨ me < 0 ∨ n ≤ me) :
    Calls Try.prog 9 #[.int .i64 me, .int .i64 n, .int .i64 bud] w fun e w' => e = .returned (.pointer none) ∧ w = w' := by
  by_cases h1 : n < 1
  · clear h
    go_enter Try.func9, Try.ntmps9
    go_wp2
    go_ret
    exact ⟨rfl, rfl⟩
  · by_cases h2 : 20 < n
    · clear h
      go_enter Try.func9, Try.ntmps9
      go_wp2
      go_ret
      exact ⟨rfl, rfl⟩
    · by_cases h3 : me < 0
      · clear h
        go_enter Try.func9, Try.ntmps9
        go_wp2
        go_ret
        exact ⟨rfl, rfl⟩
      · have h4 : n ≤ me := by omega
        clear h
        go_enter Try.func9, Try.ntmps9
        go_wp2
        go_ret
        exact ⟨rfl, rfl⟩

def newX (me n bud : Int) (k : Int) : Bx := { me := me, n := n, bud := bud, peers := fun j => if 0 ≤ j ∧ j < k ∧ j ≠ me then some (0, 0) else none, sentm := fun _ => none }
def npb (N : Nat) (me : Int) (j : Int) : Nat := N + 3 + (if j < me then j.toNat else j.toNat - 1)

structure NewRel (w wr : World) (me n bud : Int) (k : Int) : Prop where
  box : BoxIn wr w.heap.size wr.heap.size (w.heap.size + 2) w.heap.size (w.heap.size + 1) (npb w.heap.size me) (newX me n bud k)
  size : wr.heap.size = w.heap.size + 3 + (if k ≤ me then k.toNat else k.toNat - 1)
  below : Below w.heap.size w wr

theorem new_start (w : World) (me n bud : Int) (h3 : 0 ≤ me) : NewRel w (((w.alloc (.map #[] 0)).alloc (.map #[] 0)).alloc (.cells #[.int .i64 me, .int .i64 n, .int .i64 bud, .map (some w.heap.size), .map (some (w.heap.size + 1))] 50)) me n bud 0 where
  box := {
    hb := by
      have := heap_alloc_new ((w.alloc (.map #[] 0)).alloc (.map #[] 0)) (.cells #[.int .i64 me, .int .i64 n, .int .i64 bud, .map (some w.heap.size), .map (some (w.heap.size + 1))] 50)
      have e : ((w.alloc (.map #[] 0)).alloc (.map #[] 0)).heap.size = w.heap.size + 2 := by simp
      rw [e] at this; exact this
    hp := by
      have : pk (npb w.heap.size me) (newX me n bud 0) = fun _ => none := by funext j; simp [pk, newX]; omega
      rw [this]; exact ((MapFn.made w (encInt .i64)).alloc _).alloc _
    hs := by
      have : sk (newX me n bud 0) = fun _ => none := by funext q; simp [sk, newX]
      rw [this]
      have := (MapFn.made (w.alloc (.map #[] 0)) encPl).alloc (.cells #[.int .i64 me, .int .i64 n, .int .i64 bud, .map (some w.heap.size), .map (some (w.heap.size + 1))] 50)
      simpa using this
    hc := by intro k st hk; simp [newX] at hk; omega
    inj := by intro i j hi; simp [newX] at hi; omega
    hps := by omega
    rb := by simp only [World.size_alloc]; omega
    rp := by simp only [World.size_alloc]; omega
    rs := by simp only [World.size_alloc]; omega
    rc := by intro k hk; simp [newX] at hk; omega
    top := Nat.le_refl _ }
  size := by simp [h3]
  below := (((Below.refl _ _).alloc (Nat.le_refl _) _).alloc (by simp) _).alloc (by simp; omega) _

theorem new_keep {w wr : World} {me n bud : Int} {k : Int} (h : NewRel w wr me n bud k) (hk : k = me) : NewRel w wr me n bud (k + 1) where
  box := by
    have : newX me n bud (k + 1) = newX me n bud k := by
      unfold newX; congr 1; funext j; by_cases e : 0 ≤ j ∧ j < k ∧ j ≠ me
      · rw [if_pos e, if_pos (by omega)]
      · rw [if_neg e, if_neg (by omega)]
    rw [this]; exact h.box
  size := by
    have := h.size
    have e1 : (if k ≤ me then k.toNat else k.toNat - 1) = k.toNat := by rw [if_pos (by omega)]
    have e2 : (if k + 1 ≤ me then (k + 1).toNat else (k + 1).toNat - 1) = k.toNat := by rw [if_neg (by omega)]; omega
    rw [e2]; rw [e1] at this; exact this
  below := h.below

theorem new_put {w wr w1 : World} {me n bud : Int} {k : Int} (h : NewRel w wr me n bud k) (hk : k ≠ me) (h0 : 0 ≤ k) (hme : 0 ≤ me)
    (h1 : MapFn w1 w.heap.size (encInt .i64) (fun j => if j = k then some (.pointer (some ⟨wr.heap.size, 0, none⟩)) else pk (npb w.heap.size me) (newX me n bud k) j))
    (h2 : (wr.alloc (.cells #[.int .i64 0, .int .i64 0] 53)).grownBy w1 (some w.heap.size)) (h3 : w1.heap.size = (wr.alloc (.cells #[.int .i64 0, .int .i64 0] 53)).heap.size) : NewRel w w1 me n bud (k + 1) := by
  have hsz := h.size
  have hp0 : wr.heap.size = npb w.heap.size me k := by
    rw [hsz]; unfold npb; by_cases e : k < me
    · rw [if_pos e, if_pos (by omega)]
    · rw [if_neg e, if_neg (by omega)]
  have hs1 : w1.heap.size = wr.heap.size + 1 := by rw [h3]; simp
  have old : ∀ j, j < wr.heap.size → j ≠ w.heap.size → w1.heap[j]? = wr.heap[j]? := fun j hj hn => by
    rw [h2.block j (by simp; omega) (by simpa using hn)]; exact Below.heap_alloc _ _ _ hj
  have b := h.box
  have hX : ∀ j, (newX me n bud (k + 1)).peers j = if j = k then some (0, 0) else (newX me n bud k).peers j := by
    intro j; unfold newX; simp only []
    by_cases e : j = k
    · subst e; rw [if_pos rfl, if_pos (by omega)]
    · rw [if_neg e]; by_cases e2 : 0 ≤ j ∧ j < k ∧ j ≠ me
      · rw [if_pos e2, if_pos (by omega)]
      · rw [if_neg e2, if_neg (by omega)]
  have hXs : ∀ j, ((newX me n bud k).peers j).isSome → 0 ≤ j ∧ j < k ∧ j ≠ me := by
    intro j hj; unfold newX at hj; simp only [] at hj; by_cases e2 : 0 ≤ j ∧ j < k ∧ j ≠ me
    · exact e2
    · rw [if_neg e2] at hj; simp at hj
  have hpbk : ∀ j, 0 ≤ j → j < k → j ≠ me → w.heap.size + 3 ≤ npb w.heap.size me j ∧ npb w.heap.size me j < wr.heap.size := by
    intro j j0 jk jm
    rw [hp0]; unfold npb
    by_cases e : j < me <;> by_cases e2 : k < me <;> simp only [e, e2, if_true, if_false] <;> omega
  exact {
    box := {
      hb := (old _ (by omega) (by omega)).trans b.hb
      hp := by
        have : pk (npb w.heap.size me) (newX me n bud (k + 1)) = (fun j => if j = k then some (.pointer (some ⟨wr.heap.size, 0, none⟩)) else pk (npb w.heap.size me) (newX me n bud k) j) := by
          funext j; unfold pk; rw [hX]
          by_cases e : j = k
          · subst e; simp [hp0]
          · simp [e]
        rw [this]; exact h1
      hs := b.hs.of_heap (old _ (by omega) (by omega))
      hc := by
        intro j st hj
        rw [hX] at hj
        by_cases e : j = k
        · subst e
          simp at hj; subst hj
          rw [← hp0, h2.block _ (by simp) (by simp; omega)]
          exact heap_alloc_new _ _
        · rw [if_neg e] at hj
          have hj3 := hXs j (by rw [hj]; rfl)
          have := hpbk j hj3.1 hj3.2.1 hj3.2.2
          exact (old _ this.2 (by omega)).trans (b.hc j st hj)
      inj := by
        intro i j hi hj he
        rw [hX] at hi hj
        have hi3 : 0 ≤ i ∧ i ≤ k ∧ i ≠ me := by
          by_cases e : i = k
          · omega
          · rw [if_neg e] at hi; have := hXs i hi; omega
        have hj3 : 0 ≤ j ∧ j ≤ k ∧ j ≠ me := by
          by_cases e : j = k
          · omega
          · rw [if_neg e] at hj; have := hXs j hj; omega
        unfold npb at he
        by_cases e : i < me <;> by_cases e2 : j < me <;> simp only [e, e2, if_true, if_false] at he <;> omega
      hps := by omega
      rb := by omega
      rp := by omega
      rs := by omega
      rc := by
        intro j hj
        rw [hX] at hj
        by_cases e : j = k
        · subst e; rw [← hp0]; omega
        · rw [if_neg e] at hj
          have hj3 := hXs j hj
          have := hpbk j hj3.1 hj3.2.1 hj3.2.2
          omega
      top := Nat.le_refl _ }
    size := by
      rw [hs1, hp0]; unfold npb
      by_cases e : k < me
      · rw [if_pos e, if_pos (by omega)]; omega
      · rw [if_neg e, if_neg (by omega)]; omega
    below := (h.below.alloc (by omega) _).grown h2 (by simp; omega) (fun j hj => by cases hj; exact Nat.le_refl _) }

set_option maxHeartbeats 1000000 in
theorem new_raw (me n bud B : Int) (w : World) (h1 : 1 ≤ n) (h2 : n ≤ 20) (h3 : 0 ≤ me) (h4 : me < n) (hB : (64 ≤ bud ∧ B = bud) ∨ (bud < 64 ∧ B = 64)) :
    Calls Try.prog 9 #[.int .i64 me, .int .i64 n, .int .i64 bud] w fun e w' => e = .returned (.pointer (some ⟨w.heap.size + 2, 0, none⟩)) ∧ NewRel w w' me n B n := by
  have hmm := @run_makeMap Try.prog
  have d1 : decide (n < 1) = false := by simpa using h1
  have d2 : decide (20 < n) = false := by simpa using h2
  have d3 : decide (me < 0) = false := by simpa using h3
  have d4 : decide (n ≤ me) = false := by simpa using h4
  rcases hB with ⟨hb, rfl⟩ | ⟨hb, rfl⟩
  all_goals
    go_enter Try.func9, Try.ntmps9
    go_wp2
    go_loopw [33] (fun i wr => ∃ k : Nat, (k : Int) ≤ n ∧ i = .int .i64 k ∧ NewRel w wr me n _ k) (fun i _ => (n - intOf i).toNat)
    case atStart => exact ⟨0, by omega, rfl, new_start w me n _ h3⟩
    case round =>
      obtain ⟨k, hk, rfl, hr⟩ := hrel
      have hR := Lib.hid hr
      have hcm : wr.cell? ⟨w.heap.size + 2, 3, none⟩ = some (.map (some w.heap.size)) := by rw [cell_of_block hr.box.hb]; rfl
      clear hr
      by_cases hlt : (k : Int) < n
      · by_cases hme : (k : Int) = me
        · have hme' : ((k : Int) != me) = false := by simpa using hme
          have HME := Lib.hid hme
          clear hme
          go_wp2
          go_roundw
          case rel => exact ⟨k + 1, by omega, by go_num, by have := new_keep hR.out HME.out; simpa using this⟩
          case measure => simp [intOf]; omega
        · have hme' : ((k : Int) != me) = true := by simpa using hme
          have HME := Lib.hid hme
          clear hme
          go_wp2_with (at_mapUpdate; refine wpList_mapUpdate_fn rfl _ _ _ rfl keyInt Try.underlying47 rfl (hR.out.box.hp.alloc _) (k : Int) rfl ?_; intro w1 m1 m2 m3 m4)
          have hN := Lib.hid (new_put hR.out HME.out (by omega) h3 m1 m2 m3)
          clear m1 m2 m3 m4
          go_wp2
          go_roundw
          case rel => exact ⟨k + 1, by omega, by go_num, by have := hN.out; simpa using this⟩
          case measure => simp [intOf]; omega
      · have hkn : (k : Int) = n := by omega
        have HKN := Lib.hid hkn
        clear hkn
        go_wp2
        go_ret
        exact ⟨rfl, by have := hR.out; rw [HKN.out] at this; exact this⟩
end Go.Proofs.Ythbnnifkoomokaa
