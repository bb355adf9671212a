/- The contract of New: a net without messages in new memory. No condition. -/
import Derived.Test.YtdkpgjhjdnfieaaN
set_option linter.unusedVariables false
set_option linter.unusedSimpArgs false
namespace Go.Proofs.Ytdkpgjhjdnfieaa
open Go.RowKit Go.Mf
set_option maxRecDepth 100000
theorem info67 : (Try.prog.info? 67).map (fun i => (i.zero, i.size, i.bytes)) = some (some (.slice none 0 0), 1, 24) := by kernel_rfl
theorem info77 : (Try.prog.info? 77).map (fun i => (i.zero, i.size, i.bytes)) = some (some (.agg #[.slice none 0 0, .bool false]), 2, 32) := by kernel_rfl
theorem und64 : Try.prog.underlying 64 = some (.slice 67) := by kernel_rfl
theorem und67 : Try.prog.underlying 67 = some (.slice 77) := by kernel_rfl
def rowsUpto (n k : Nat) (B : Nat) : Array Value := ((List.range n).map fun i => if i < k then Value.slice (some ⟨B + i, 0, none⟩) n n else .slice none 0 0).toArray

theorem make64 (n : Nat) (h : n ≤ 20) (W : World) : (Instr.makeSlice 64 (.int .i64 (n : Int)) (.int .i64 (n : Int))).run Try.prog W = .ok (.slice (some ⟨W.heap.size, 0, none⟩) n n) (W.alloc (.cells (rowsUpto n 0 0) 67)) := by
  obtain ⟨i0, hi, hz0, hz1, hz2⟩ := info_parts info67
  have := run_make (P := Try.prog) W 64 67 i0 (.slice none 0 0) und64 hi hz0 .i64 .i64 n n (by omega) (by omega) (by rw [hz2]; omega) (by omega)
  rw [this, hz1]
  have e : madeCells (Value.slice none 0 0).cells (((n : Int)).toNat * 1) = rowsUpto n 0 0 := by
    apply Array.ext
    · simp [madeCells, rowsUpto]
    · intro i h1 h2; simp [madeCells, rowsUpto, Value.cells, Nat.mod_one]
  rw [e]; simp
theorem make67 (n : Nat) (h : n ≤ 20) (W : World) : (Instr.makeSlice 67 (.int .i64 (n : Int)) (.int .i64 (n : Int))).run Try.prog W = .ok (.slice (some ⟨W.heap.size, 0, none⟩) n n) (W.alloc (.cells (linkCells n (fun _ => .slice none 0 0) (fun _ => false)) 77)) := by
  obtain ⟨i0, hi, hz0, hz1, hz2⟩ := info_parts info77
  have := run_make (P := Try.prog) W 67 77 i0 _ und67 hi hz0 .i64 .i64 n n (by omega) (by omega) (by rw [hz2]; omega) (by omega)
  rw [this, hz1]
  have e : madeCells (Value.agg #[.slice none 0 0, .bool false]).cells (((n : Int)).toNat * 2) = linkCells n (fun _ => .slice none 0 0) (fun _ => false) := by
    have hl := link_len n (fun _ => Value.slice none 0 0) (fun _ => false)
    apply Array.ext
    · simp [madeCells, hl]; omega
    · intro i h1 h2
      have h3 : i / 2 < n := by omega
      have hg := link_get (fun _ => Value.slice none 0 0) (fun _ => false) h3
      rcases Nat.mod_two_eq_zero_or_one i with e | e
      · have e2 : 2 * (i / 2) = i := by omega
        rw [e2, Array.getElem?_eq_getElem h2, Option.some.injEq] at hg
        rw [hg.1]
        simp [madeCells, Value.cells, e]
      · have e2 : 2 * (i / 2) + 1 = i := by omega
        have := hg.2
        rw [e2, Array.getElem?_eq_getElem h2, Option.some.injEq] at this
        rw [this]
        simp [madeCells, Value.cells, e]
  rw [e]; simp

def NewSt (w : World) (n k : Nat) (wr : World) : Prop :=
  Below w.heap.size w wr ∧ wr.heap.size = w.heap.size + 2 + k ∧ wr.heap[w.heap.size]? = some (.cells (rowsUpto n k (w.heap.size + 2)) 67 (0, 0)) ∧ wr.heap[w.heap.size + 1]? = some (.cells #[.slice (some ⟨w.heap.size, 0, none⟩) n n] 66 (0, 0)) ∧
    ∀ i, i < k → wr.heap[w.heap.size + 2 + i]? = some (.cells (linkCells n (fun _ => .slice none 0 0) (fun _ => false)) 77 (0, 0))

theorem ret_int' {k : IntKind} {a b : Int} (h : a = b) : Value.int k a = .int k b := by rw [h]
def many (n : Int) : Nat := (min (max n 0) 20).toNat
def NewPost (w : World) (n : Nat) : Ending → World → Prop := fun e w' => ∃ x, e = .returned (.pointer (some ⟨x, 0, none⟩)) ∧ NetAt w' (fun k => w.heap.size ≤ k ∧ k < w'.heap.size) x ⟨n, fun _ _ => [], fun _ _ => false⟩ ∧ Below w.heap.size w w'

theorem rowsUpto_set {n k B : Nat} (hk : k < n) : (rowsUpto n k B).setIfInBounds k (.slice (some ⟨B + k, 0, none⟩) n n) = rowsUpto n (k + 1) B := by
  apply Array.ext_getElem?
  intro j
  rw [Array.getElem?_setIfInBounds]
  unfold rowsUpto
  by_cases hj : j < n
  · simp only [List.getElem?_toArray, List.getElem?_map, List.getElem?_range hj, Option.map_some]
    by_cases e : k = j
    · subst e; simp [hk]
    · rw [if_neg e]
      by_cases hjk : j < k
      · rw [if_pos hjk, if_pos (by omega)]
      · rw [if_neg hjk, if_neg (by omega)]
  · rw [if_neg (by omega)]
    simp [hj]
theorem new_start (w : World) (n : Nat) : NewSt w n 0 ((w.alloc (.cells (rowsUpto n 0 0) 67)).alloc (.cells #[.slice (some ⟨w.heap.size, 0, none⟩) n n] 66)) := by
  refine ⟨((Below.refl _ w).alloc (Nat.le_refl _) _).alloc (by simp) _, by simp, ?_, heap_alloc2_new w _ _, fun i h => by omega⟩
  rw [heap_alloc2_old w _ _]
  simp [rowsUpto]
theorem new_step {w wr : World} {n k : Nat} (h : NewSt w n k wr) (hk : k < n) : NewSt w n (k + 1) ((wr.setCell ⟨w.heap.size, k, none⟩ (.slice (some ⟨w.heap.size + 2 + k, 0, none⟩) n n)).alloc (.cells (linkCells n (fun _ => .slice none 0 0) (fun _ => false)) 77)).drew := by
  obtain ⟨h1, h2, h3, h4, h5⟩ := h
  obtain ⟨W, hW⟩ : ∃ W, W = wr.setCell ⟨w.heap.size, k, none⟩ (.slice (some ⟨w.heap.size + 2 + k, 0, none⟩) n n) := ⟨_, rfl⟩
  have hs : W.heap.size = wr.heap.size := by rw [hW]; simp
  rw [← hW]
  have old : ∀ j, j ≠ w.heap.size → j < wr.heap.size → (W.alloc (.cells (linkCells n (fun _ => .slice none 0 0) (fun _ => false)) 77)).heap[j]? = wr.heap[j]? := fun j hj hl => by
    rw [Below.heap_alloc _ _ _ (by omega), hW, Below.heap_setCell _ _ _ _ (show j ≠ w.heap.size from hj)]
  refine ⟨?_, ?_, ?_, ?_, ?_⟩
  · rw [hW]; exact ((h1.setCell (Nat.le_refl _) _).alloc (by simp; omega) _).drew
  · show (W.alloc _).heap.size = _
    simp; omega
  · show (W.alloc _).heap[w.heap.size]? = _
    rw [Below.heap_alloc _ _ _ (by omega), hW, setCell_block h3, rowsUpto_set hk]
  · show (W.alloc _).heap[w.heap.size + 1]? = _
    rw [old _ (by omega) (by omega)]; exact h4
  · intro i hi
    show (W.alloc _).heap[w.heap.size + 2 + i]? = _
    by_cases e : i = k
    · subst e
      rw [← h2, ← hs]
      exact heap_alloc_new W _
    · rw [old _ (by omega) (by omega)]; exact h5 i (by omega)
theorem new_done {w wr : World} {n : Nat} (h : NewSt w n n wr) : NewPost w n (.returned (.pointer (some ⟨w.heap.size + 1, 0, none⟩))) wr := by
  obtain ⟨h1, h2, h3, h4, h5⟩ := h
  refine ⟨_, rfl, ⟨w.heap.size, fun i => w.heap.size + 2 + i, fun _ _ => .slice none 0 0, ?_⟩, h1⟩
  exact {
    hx := h4
    hr := by
      rw [h3]
      congr 2
      unfold rowsUpto rowCells
      congr 1
      apply List.map_congr_left
      intro i hi
      rw [if_pos (by simpa using hi)]
    hl := fun i hi => h5 i hi
    hq := fun i j _ _ => World.ownsRow_nil _ _ _ _
    ok := fun i j m hm => absurd hm List.not_mem_nil
    sx := by constructor <;> omega
    sr := by constructor <;> omega
    sl := fun i hi => by dsimp only at hi; constructor <;> omega
    sq := fun i j g _ _ hg => by simp [Value.ownBlock] at hg
    inj := fun i i' _ _ e => by omega
    apart := fun i j i' j' g _ _ _ _ hg => by simp [Value.ownBlock] at hg }

set_option maxHeartbeats 400000 in
theorem new_any (w : World) (n0 : Int) : Calls Try.prog 9 #[.int .i64 n0] w (NewPost w (many n0)) := by
  obtain ⟨n, hn⟩ : ∃ n, n = many n0 := ⟨_, rfl⟩
  have hmin : min (max n0 0) 20 = (n : Int) := by rw [hn]; unfold many; omega
  have hn20 : n ≤ 20 := by omega
  have hm64 := make64 n hn20
  have hm67 := make67 n hn20
  rw [← hn]
  clear hn
  have HMIN := Lib.hid hmin
  have HM64 := Lib.hid hm64
  clear hmin hm64
  go_enter Try.func9, Try.ntmps9
  go_upto_region 1 with fail
  go_cut [0] (fun s0 wx => s0 = .int .i64 (n : Int) ∧ wx = w)
  case first =>
    go_wp2
    all_goals
      go_meet
      exact ⟨ret_int' (by have := HMIN.out; omega), rfl⟩
  case rest =>
    obtain ⟨rfl, rfl⟩ := hcut
    have hm64 := HM64.out
    obtain ⟨w, rfl⟩ : ∃ w : World, w = wc := ⟨_, rfl⟩
    go_wp2
    obtain ⟨B, hB⟩ : ∃ B, w.heap.size = B := ⟨_, rfl⟩
    have HST : Hid (NewSt w n 0 ((w.alloc (.cells (rowsUpto n 0 0) 67)).alloc (.cells #[.slice (some ⟨w.heap.size, 0, none⟩) n n] 66))) := new_start w n
    have HB := Lib.hid hB
    rw [hB]
    clear hB
    go_loopw [17] (fun i wr => ∃ k : Nat, k ≤ n ∧ i = .int .i64 k ∧ Hid (NewSt w n k wr)) (fun i _ => n - (intOf i).toNat)
    case atStart => exact ⟨0, by omega, rfl, by rw [← HB.out]; exact HST.out⟩
    case round =>
      obtain ⟨k, hk, rfl, hst⟩ := hrel
      by_cases hkn : k < n
      · have hsz : wr.heap.size = B + 2 + k := by rw [hst.out.2.1, HB.out]
        have hrow : wr.heap[B]? = some (.cells (rowsUpto n k (w.heap.size + 2)) 67 (0, 0)) := by rw [← HB.out]; exact hst.out.2.2.1
        have cx : wr.cell? ⟨B + 1, 0, none⟩ = some (.slice (some ⟨B, 0, none⟩) n n) := by rw [← HB.out, cell_of_block hst.out.2.2.2.1]; rfl
        have cr : wr.cell? ⟨B, k, none⟩ = some (.slice none 0 0) := by rw [cell_of_block hrow]; simp [rowsUpto, hkn]
        have fr : wr.frozen? ⟨B, k, none⟩ = false := frozen_of_block hrow _
        have hbl : B < wr.heap.size := by omega
        have hbl1 : B + 1 < wr.heap.size := by omega
        have HSZ := Lib.hid hsz
        have HNX : Hid (NewSt w n (k + 1) ((wr.setCell ⟨B, k, none⟩ (.slice (some ⟨B + 2 + k, 0, none⟩) n n)).alloc (.cells (linkCells n (fun _ => .slice none 0 0) (fun _ => false)) 77)).drew) := by
          rw [← HB.out]; exact new_step hst.out hkn
        clear hst hrow hsz HST
        go_wp2
        go_region
        all_goals
          rw [HSZ.out]
          go_wp2
          go_roundw
          case rel => exact ⟨k + 1, by omega, by go_num, HNX.out⟩
          case measure => simp [intOf]; omega
      · have hkn2 : k = n := by omega
        rw [hkn2] at hst
        have hd := new_done hst.out
        rw [HB.out] at hd
        have HD := Lib.hid hd
        clear hkn2 hst HST
        go_wp2
        go_ret
        exact HD.out
end Go.Proofs.Ytdkpgjhjdnfieaa
