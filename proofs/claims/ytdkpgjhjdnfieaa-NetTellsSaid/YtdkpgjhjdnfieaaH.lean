/- Slices that read as rows of plain cells, and the contracts of Clone at entries, strings and wraps: a copy in new memory. Condition: the slice reads as its rows. -/
import Derived.Test.YtdkpgjhjdnfieaaG
set_option linter.unusedVariables false
set_option linter.unusedSimpArgs false
namespace Go.Proofs.Ytdkpgjhjdnfieaa
open Go.RowKit Go.Mf

/-- v is a slice of n rows of sz cells each (by bytes a row), that read as xs; its cells lie in blocks of S -/
def RowsIn (w : World) (S : Nat → Prop) (sz bt : Nat) (v : Value) (n : Nat) (xs : List Value) : Prop :=
  ∃ a c, v = .slice a n c ∧ xs.length = n * sz ∧ n * bt ≤ 140737488355328 ∧ n ≤ 140737488355328 ∧ (∀ u ∈ xs, u.oneCell' = true) ∧
    (0 < n → ∃ b o, a = some ⟨b, o, none⟩ ∧ S b ∧ ∀ j u, xs[j]? = some u → w.cell? ⟨b, o + j, none⟩ = some u)

theorem RowsIn.keep {w w' : World} {S S' : Nat → Prop} {sz bt : Nat} {v : Value} {n : Nat} {xs : List Value} (h : RowsIn w S sz bt v n xs) (hS : ∀ k, S k → S' k) (hw : ∀ k, S k → k < w.heap.size → w'.heap[k]? = w.heap[k]?) : RowsIn w' S' sz bt v n xs := by
  obtain ⟨a, c, h1, h2, h3, h4, h5, h6⟩ := h
  refine ⟨a, c, h1, h2, h3, h4, h5, fun hn => ?_⟩
  obtain ⟨b, o, h7, h8, h9⟩ := h6 hn
  refine ⟨b, o, h7, hS b h8, fun j u hu => ?_⟩
  have hc := h9 j u hu
  have hb := World.block_lt_of_cell? _ _ hc
  rw [← hc]
  exact World.cell?_of_block (hw b h8 hb)

theorem RowsIn.keep' {w w' : World} {S S' : Nat → Prop} {sz bt : Nat} {v : Value} {n : Nat} {xs : List Value} (h : RowsIn w S sz bt v n xs) (hz : 0 < sz) (hS : ∀ k, S k → k < w.heap.size → S' k) (hw : ∀ k, S k → k < w.heap.size → w'.heap[k]? = w.heap[k]?) : RowsIn w' S' sz bt v n xs := by
  obtain ⟨a, c, h1, h2, h3, h4, h5, h6⟩ := h
  refine ⟨a, c, h1, h2, h3, h4, h5, fun hn => ?_⟩
  obtain ⟨b, o, h7, h8, h9⟩ := h6 hn
  have hp : 0 < xs.length := by rw [h2]; exact Nat.mul_pos hn hz
  have hb : b < w.heap.size := World.block_lt_of_cell? _ _ (h9 0 xs[0] (List.getElem?_eq_getElem hp))
  refine ⟨b, o, h7, hS b h8 hb, fun j u hu => ?_⟩
  rw [← h9 j u hu]
  exact World.cell?_of_block (hw b h8 hb)

/-- no cell of block k is marked as one that may not be written -/
def Thaw (w : World) (k : Nat) : Prop := ∀ o, w.frozen? ⟨k, o, none⟩ = false
theorem Thaw.of {w w' : World} {k : Nat} (h : w'.heap[k]? = w.heap[k]?) (ht : Thaw w k) : Thaw w' k := fun o => by
  rw [← ht o]
  exact World.frozen?_of_block h
theorem own_thaw {w : World} {base : Nat} {e : TypeId} {sz : Nat} {v : Value} {n : Nat} {xs : List Value} (h : w.ownsRow base e sz v n xs) : ∀ g, v.ownBlock = some g → Thaw w g := fun g hg o => by
  rcases h.2 with ⟨rfl, _⟩ | ⟨g', cap, cur, rfl, _, hb, _⟩
  · simp [Value.ownBlock] at hg
  · simp only [Value.ownBlock, Option.some.injEq] at hg
    subst hg
    exact frozen_of_block hb o
theorem RowsIn.of_own {w : World} {base : Nat} {e : TypeId} {sz bt : Nat} {v : Value} {n : Nat} {xs : List Value} (h : w.ownsRow base e sz v n xs) (h3 : n * bt ≤ 140737488355328) (h4 : n ≤ 140737488355328) (h1 : ∀ u ∈ xs, u.oneCell' = true) : RowsIn w (fun k => base ≤ k ∧ k < w.heap.size ∧ Thaw w k) sz bt v n xs := by
  have hth := own_thaw h
  have hlt := h.lt
  have hcs := fun g hg => h.cells (g := g) hg
  rcases h.2 with ⟨rfl, rfl⟩ | ⟨g, cap, cur, rfl, _⟩
  · exact ⟨none, 0, rfl, h.1, h3, h4, h1, fun h => absurd h (by omega)⟩
  · refine ⟨_, cap, rfl, h.1, h3, h4, h1, fun _ => ⟨g, 0, rfl, ⟨(hlt g rfl).1, (hlt g rfl).2, hth g rfl⟩, fun j u hu => ?_⟩⟩
    have := hcs g rfl j u hu
    rw [Addr.add_lit] at this
    exact this

def ClonePost (w : World) (e sz : Nat) (n : Nat) (xs : List Value) : Ending → World → Prop := fun en w' =>
  ∃ v', en = .returned v' ∧ w'.ownsRow w.heap.size e sz v' n xs ∧ Below w.heap.size w w'

theorem und84 : Try.prog.underlying 84 = some (.slice 99) := by kernel_rfl
def zWrap : List Value := [.int .i64 0, .int .i64 0, .string ⟨#[]⟩, .string ⟨#[]⟩, .string ⟨#[]⟩]
def zAct : List Value := [.string ⟨#[]⟩, .int .i64 0, .string ⟨#[]⟩, .int .i64 0, .int .i64 0, .string ⟨#[]⟩, .string ⟨#[]⟩, .int .i64 0, .string ⟨#[]⟩, .slice none 0 0, .string ⟨#[]⟩, .string ⟨#[]⟩, .string ⟨#[]⟩, .string ⟨#[]⟩, .int .i64 0, .slice none 0 0, .int .i64 0, .int .i64 0, .int .i64 0, .int .i64 0]
def zEntry : List Value := [.int .i64 0, .int .i64 0] ++ zAct ++ [.string ⟨#[]⟩, .int .i64 0, .string ⟨#[]⟩, .int .i64 0, .int .i64 0, .int .i64 0, .int .i64 0, .int .i64 0, .int .i64 0] ++ [.int .i64 0, .string ⟨#[]⟩, .int .i64 0, .string ⟨#[]⟩, .int .i64 0, .int .i64 0, .int .i64 0] ++
  [.int .i64 0, .int .i64 0, .int .i64 0, .string ⟨#[]⟩, .string ⟨#[]⟩, .string ⟨#[]⟩, .slice none 0 0, .int .i64 0, .int .i64 0, .int .i64 0, .int .i64 0, .int .i64 0]
theorem info99 : (Try.prog.info? 99).map (fun i => (i.zero, i.size, i.bytes)) = some (some (.agg zWrap.toArray), 5, 64) := by kernel_rfl
theorem info9 : (Try.prog.info? 9).map (fun i => (i.zero, i.size, i.bytes)) = some (some (.string ⟨#[]⟩), 1, 16) := by kernel_rfl
theorem info96 : (Try.prog.info? 96).map (fun i => (i.zero, i.size, i.bytes)) = some (some (.agg zEntry.toArray), 50, 576) := by kernel_rfl

-- CLONES
set_option maxHeartbeats 400000 in
set_option maxRecDepth 100000 in
theorem clone48_some (w : World) (S : Nat → Prop) (a : Addr) (n c : Nat) (xs : List Value) (h : RowsIn w S 50 576 (.slice (some a) n c) n xs) :
    Calls Try.prog 48 #[.slice (some a) n c] w (ClonePost w 96 50 n xs) := by
  obtain ⟨i0, hi0, hz0, hz1, hz2⟩ := info_parts info96
  have hu := und33
  obtain ⟨a', c', h1, h2, h3, h4, h5, h6⟩ := h
  simp only [Value.slice.injEq] at h1
  obtain ⟨rfl, _, rfl⟩ := h1
  have hx : ∀ j u, xs[j]? = some u → (w.alloc (.cells #[] 96)).cell? (a.add j) = some u := fun j u hu => by
    have hn : 0 < n := by
      rcases Nat.eq_zero_or_pos n with e | e
      · rw [e] at h2; have := List.length_eq_zero_iff.1 (h2.trans (Nat.zero_mul _)); rw [this] at hu; simp at hu
      · exact e
    obtain ⟨b, o, e, _, h9⟩ := h6 hn
    simp only [Option.some.injEq] at e
    subst e
    rw [Addr.add_lit]
    exact (World.cell?_of_block (Below.heap_alloc w _ _ (World.block_lt_of_cell? _ _ (h9 j u hu)))).trans (h9 j u hu)
  have HX := Lib.hid hx
  have HL := Lib.hid h2
  have H1 := Lib.hid h5
  have HM : Hid ((w.alloc (.cells #[] 96)).ownsRow w.heap.size 96 50 (.slice (some ⟨w.heap.size, 0, none⟩) 0 0) 0 []) := World.ownsRow_made w #[] 0 (Nat.le_refl _) (by simp [maxLen]) rfl
  clear h2 h5 h6 hx
  have q : ∀ (w : World) (a : Option Addr) (n c n' c' : Nat), (binOp .eql 33 (.slice a n c) (.slice none n' c')).run Try.prog w = .ok (.bool a.isNone) w := fun w a n c n' c' => Lib.run_eql_slice_nil w _ _ a n c n' c' hu
  go_enter Try.func48, Try.ntmps48
  go_wp2_with (at_builtin; refine wpList_append_own _ rfl _ _ 33 rfl w.heap.size 96 i0 _ 50 576 hu hi0 hz0 hz1 hz2 rfl (by decide) _ 0 [] rfl ?own a n c xs rfl ?len ?c1 ?c2 ?c3 ?c4 ?c5 ?_)
  case own => exact HM.out
  case len => exact HL.out
  case c1 => exact HX.out
  case c2 => exact H1.out
  case c3 => simp only [maxLen]; omega
  case c4 => omega
  case c5 => simp
  intro v' w1 hown' hgrow hnil
  have HB := Lib.hid (((Below.refl w.heap.size w).alloc (Nat.le_refl _) (.cells #[] 96)).grown hgrow (by simp) (fun q hq => (HM.out.lt q hq).1))
  have HO := Lib.hid hown'
  clear hown' hgrow hnil
  go_wp2
  go_ret
  exact ⟨_, rfl, HO.out, HB.out⟩
set_option maxRecDepth 100000 in
theorem clone48_nil (w : World) (n c : Nat) (xs : List Value) (S : Nat → Prop) (h : RowsIn w S 50 576 (.slice none n c) n xs) : Calls Try.prog 48 #[.slice none n c] w (ClonePost w 96 50 n xs) := by
  have hu := und33
  have q : ∀ (w : World) (a : Option Addr) (n c n' c' : Nat), (binOp .eql 33 (.slice a n c) (.slice none n' c')).run Try.prog w = .ok (.bool a.isNone) w := fun w a n c n' c' => Lib.run_eql_slice_nil w _ _ a n c n' c' hu
  obtain ⟨a', c', h1, h2, h3, h4, h5, h6⟩ := h
  simp only [Value.slice.injEq] at h1
  obtain ⟨rfl, _, rfl⟩ := h1
  obtain rfl : n = 0 := by
    rcases Nat.eq_zero_or_pos n with e | e
    · exact e
    · obtain ⟨b, o, e, _⟩ := h6 e; simp at e
  obtain rfl : xs = [] := List.length_eq_zero_iff.1 (by omega)
  clear h2 h3 h4 h5 h6
  go_enter Try.func48, Try.ntmps48
  go_wp2
  go_ret
  exact ⟨_, rfl, World.ownsRow_nil _ _ _ _, Below.refl _ _⟩
theorem clone48_any (w : World) (S : Nat → Prop) (v : Value) (n : Nat) (xs : List Value) (h : RowsIn w S 50 576 v n xs) : Calls Try.prog 48 #[v] w (ClonePost w 96 50 n xs) := by
  obtain ⟨a, c, rfl, _⟩ := id h
  cases a with
  | none => exact clone48_nil w n c xs S h
  | some a => exact clone48_some w S a n c xs h

set_option maxHeartbeats 400000 in
set_option maxRecDepth 100000 in
theorem clone50_some (w : World) (S : Nat → Prop) (a : Addr) (n c : Nat) (xs : List Value) (h : RowsIn w S 1 16 (.slice (some a) n c) n xs) :
    Calls Try.prog 50 #[.slice (some a) n c] w (ClonePost w 9 1 n xs) := by
  obtain ⟨i0, hi0, hz0, hz1, hz2⟩ := info_parts info9
  have hu := und38
  obtain ⟨a', c', h1, h2, h3, h4, h5, h6⟩ := h
  simp only [Value.slice.injEq] at h1
  obtain ⟨rfl, _, rfl⟩ := h1
  have hx : ∀ j u, xs[j]? = some u → (w.alloc (.cells #[] 9)).cell? (a.add j) = some u := fun j u hu => by
    have hn : 0 < n := by
      rcases Nat.eq_zero_or_pos n with e | e
      · rw [e] at h2; have := List.length_eq_zero_iff.1 (h2.trans (Nat.zero_mul _)); rw [this] at hu; simp at hu
      · exact e
    obtain ⟨b, o, e, _, h9⟩ := h6 hn
    simp only [Option.some.injEq] at e
    subst e
    rw [Addr.add_lit]
    exact (World.cell?_of_block (Below.heap_alloc w _ _ (World.block_lt_of_cell? _ _ (h9 j u hu)))).trans (h9 j u hu)
  have HX := Lib.hid hx
  have HL := Lib.hid h2
  have H1 := Lib.hid h5
  have HM : Hid ((w.alloc (.cells #[] 9)).ownsRow w.heap.size 9 1 (.slice (some ⟨w.heap.size, 0, none⟩) 0 0) 0 []) := World.ownsRow_made w #[] 0 (Nat.le_refl _) (by simp [maxLen]) rfl
  clear h2 h5 h6 hx
  have q : ∀ (w : World) (a : Option Addr) (n c n' c' : Nat), (binOp .eql 38 (.slice a n c) (.slice none n' c')).run Try.prog w = .ok (.bool a.isNone) w := fun w a n c n' c' => Lib.run_eql_slice_nil w _ _ a n c n' c' hu
  go_enter Try.func50, Try.ntmps50
  go_wp2_with (at_builtin; refine wpList_append_own _ rfl _ _ 38 rfl w.heap.size 9 i0 _ 1 16 hu hi0 hz0 hz1 hz2 rfl (by decide) _ 0 [] rfl ?own a n c xs rfl ?len ?c1 ?c2 ?c3 ?c4 ?c5 ?_)
  case own => exact HM.out
  case len => exact HL.out
  case c1 => exact HX.out
  case c2 => exact H1.out
  case c3 => simp only [maxLen]; omega
  case c4 => omega
  case c5 => simp
  intro v' w1 hown' hgrow hnil
  have HB := Lib.hid (((Below.refl w.heap.size w).alloc (Nat.le_refl _) (.cells #[] 9)).grown hgrow (by simp) (fun q hq => (HM.out.lt q hq).1))
  have HO := Lib.hid hown'
  clear hown' hgrow hnil
  go_wp2
  go_ret
  exact ⟨_, rfl, HO.out, HB.out⟩
set_option maxRecDepth 100000 in
theorem clone50_nil (w : World) (n c : Nat) (xs : List Value) (S : Nat → Prop) (h : RowsIn w S 1 16 (.slice none n c) n xs) : Calls Try.prog 50 #[.slice none n c] w (ClonePost w 9 1 n xs) := by
  have hu := und38
  have q : ∀ (w : World) (a : Option Addr) (n c n' c' : Nat), (binOp .eql 38 (.slice a n c) (.slice none n' c')).run Try.prog w = .ok (.bool a.isNone) w := fun w a n c n' c' => Lib.run_eql_slice_nil w _ _ a n c n' c' hu
  obtain ⟨a', c', h1, h2, h3, h4, h5, h6⟩ := h
  simp only [Value.slice.injEq] at h1
  obtain ⟨rfl, _, rfl⟩ := h1
  obtain rfl : n = 0 := by
    rcases Nat.eq_zero_or_pos n with e | e
    · exact e
    · obtain ⟨b, o, e, _⟩ := h6 e; simp at e
  obtain rfl : xs = [] := List.length_eq_zero_iff.1 (by omega)
  clear h2 h3 h4 h5 h6
  go_enter Try.func50, Try.ntmps50
  go_wp2
  go_ret
  exact ⟨_, rfl, World.ownsRow_nil _ _ _ _, Below.refl _ _⟩
theorem clone50_any (w : World) (S : Nat → Prop) (v : Value) (n : Nat) (xs : List Value) (h : RowsIn w S 1 16 v n xs) : Calls Try.prog 50 #[v] w (ClonePost w 9 1 n xs) := by
  obtain ⟨a, c, rfl, _⟩ := id h
  cases a with
  | none => exact clone50_nil w n c xs S h
  | some a => exact clone50_some w S a n c xs h

set_option maxHeartbeats 400000 in
set_option maxRecDepth 100000 in
theorem clone51_some (w : World) (S : Nat → Prop) (a : Addr) (n c : Nat) (xs : List Value) (h : RowsIn w S 5 64 (.slice (some a) n c) n xs) :
    Calls Try.prog 51 #[.slice (some a) n c] w (ClonePost w 99 5 n xs) := by
  obtain ⟨i0, hi0, hz0, hz1, hz2⟩ := info_parts info99
  have hu := und84
  obtain ⟨a', c', h1, h2, h3, h4, h5, h6⟩ := h
  simp only [Value.slice.injEq] at h1
  obtain ⟨rfl, _, rfl⟩ := h1
  have hx : ∀ j u, xs[j]? = some u → (w.alloc (.cells #[] 99)).cell? (a.add j) = some u := fun j u hu => by
    have hn : 0 < n := by
      rcases Nat.eq_zero_or_pos n with e | e
      · rw [e] at h2; have := List.length_eq_zero_iff.1 (h2.trans (Nat.zero_mul _)); rw [this] at hu; simp at hu
      · exact e
    obtain ⟨b, o, e, _, h9⟩ := h6 hn
    simp only [Option.some.injEq] at e
    subst e
    rw [Addr.add_lit]
    exact (World.cell?_of_block (Below.heap_alloc w _ _ (World.block_lt_of_cell? _ _ (h9 j u hu)))).trans (h9 j u hu)
  have HX := Lib.hid hx
  have HL := Lib.hid h2
  have H1 := Lib.hid h5
  have HM : Hid ((w.alloc (.cells #[] 99)).ownsRow w.heap.size 99 5 (.slice (some ⟨w.heap.size, 0, none⟩) 0 0) 0 []) := World.ownsRow_made w #[] 0 (Nat.le_refl _) (by simp [maxLen]) rfl
  clear h2 h5 h6 hx
  have q : ∀ (w : World) (a : Option Addr) (n c n' c' : Nat), (binOp .eql 84 (.slice a n c) (.slice none n' c')).run Try.prog w = .ok (.bool a.isNone) w := fun w a n c n' c' => Lib.run_eql_slice_nil w _ _ a n c n' c' hu
  go_enter Try.func51, Try.ntmps51
  go_wp2_with (at_builtin; refine wpList_append_own _ rfl _ _ 84 rfl w.heap.size 99 i0 _ 5 64 hu hi0 hz0 hz1 hz2 rfl (by decide) _ 0 [] rfl ?own a n c xs rfl ?len ?c1 ?c2 ?c3 ?c4 ?c5 ?_)
  case own => exact HM.out
  case len => exact HL.out
  case c1 => exact HX.out
  case c2 => exact H1.out
  case c3 => simp only [maxLen]; omega
  case c4 => omega
  case c5 => simp
  intro v' w1 hown' hgrow hnil
  have HB := Lib.hid (((Below.refl w.heap.size w).alloc (Nat.le_refl _) (.cells #[] 99)).grown hgrow (by simp) (fun q hq => (HM.out.lt q hq).1))
  have HO := Lib.hid hown'
  clear hown' hgrow hnil
  go_wp2
  go_ret
  exact ⟨_, rfl, HO.out, HB.out⟩
set_option maxRecDepth 100000 in
theorem clone51_nil (w : World) (n c : Nat) (xs : List Value) (S : Nat → Prop) (h : RowsIn w S 5 64 (.slice none n c) n xs) : Calls Try.prog 51 #[.slice none n c] w (ClonePost w 99 5 n xs) := by
  have hu := und84
  have q : ∀ (w : World) (a : Option Addr) (n c n' c' : Nat), (binOp .eql 84 (.slice a n c) (.slice none n' c')).run Try.prog w = .ok (.bool a.isNone) w := fun w a n c n' c' => Lib.run_eql_slice_nil w _ _ a n c n' c' hu
  obtain ⟨a', c', h1, h2, h3, h4, h5, h6⟩ := h
  simp only [Value.slice.injEq] at h1
  obtain ⟨rfl, _, rfl⟩ := h1
  obtain rfl : n = 0 := by
    rcases Nat.eq_zero_or_pos n with e | e
    · exact e
    · obtain ⟨b, o, e, _⟩ := h6 e; simp at e
  obtain rfl : xs = [] := List.length_eq_zero_iff.1 (by omega)
  clear h2 h3 h4 h5 h6
  go_enter Try.func51, Try.ntmps51
  go_wp2
  go_ret
  exact ⟨_, rfl, World.ownsRow_nil _ _ _ _, Below.refl _ _⟩
theorem clone51_any (w : World) (S : Nat → Prop) (v : Value) (n : Nat) (xs : List Value) (h : RowsIn w S 5 64 v n xs) : Calls Try.prog 51 #[v] w (ClonePost w 99 5 n xs) := by
  obtain ⟨a, c, rfl, _⟩ := id h
  cases a with
  | none => exact clone51_nil w n c xs S h
  | some a => exact clone51_some w S a n c xs h
end Go.Proofs.Ytdkpgjhjdnfieaa
