/- The contract of slices.Delete at messages, for one message: the row without it, the rest of memory as it was. Condition: the index is in range. -/
import Derived.Test.YtdkpgjhjdnfieaaA
import Derived.Test.YtdkpgjhjdnfieaaRows
set_option linter.unusedVariables false
set_option linter.unusedSimpArgs false
namespace Go.Proofs.Ytdkpgjhjdnfieaa
open Go.RowKit Go.Mf

def zMsg : List Value := [.int .i64 0, .int .i64 0, .int .i64 0, .int .i64 0, .int .i64 0, .string ⟨#[]⟩, .int .i64 0, .int .i64 0, .int .i64 0, .int .i64 0, .slice none 0 0, .int .i64 0, .int .i64 0, .int .i64 0, .string ⟨#[]⟩,
  .int .i64 0, .int .i64 0, .int .i64 0, .int .i64 0, .int .i64 0, .int .i64 0, .int .i64 0, .string ⟨#[]⟩, .int .i64 0, .int .i64 0, .int .i64 0, .int .i64 0, .int .i64 0, .string ⟨#[]⟩, .int .i64 0, .int .i64 0, .int .i64 0, .string ⟨#[]⟩, .slice none 0 0]
theorem zMsg_zero (w : World) : (zeroValue 42).run Try.prog w = .ok (.agg zMsg.toArray) w := by kernel_rfl
theorem info42 : (Try.prog.info? 42).map (fun i => (i.zero, i.size, i.bytes)) = some (some (.agg zMsg.toArray), 34, 344) := by kernel_rfl
theorem und68 : Try.prog.underlying 68 = some (.slice 42) := by kernel_rfl

def MsgsOk (l : List (List Value)) : Prop := ∀ m ∈ l, m.length = 34 ∧ ∀ u ∈ m, u.oneCell' = true
theorem flat_len : ∀ {l : List (List Value)}, MsgsOk l → l.flatten.length = l.length * 34
  | [], _ => rfl
  | m :: l, h => by
    have h1 := (h m (by simp)).1
    have h2 := flat_len (l := l) (fun x hx => h x (by simp [hx]))
    simp only [List.flatten_cons, List.length_append, List.length_cons]; omega
theorem MsgsOk.one {l : List (List Value)} (h : MsgsOk l) : ∀ u ∈ l.flatten, u.oneCell' = true := by
  intro u hu
  obtain ⟨m, hm, hum⟩ := List.mem_flatten.1 hu
  exact (h m hm).2 u hum
theorem MsgsOk.take {l : List (List Value)} (h : MsgsOk l) (i : Nat) : MsgsOk (l.take i) := fun m hm => h m (List.mem_of_mem_take hm)
theorem MsgsOk.drop {l : List (List Value)} (h : MsgsOk l) (i : Nat) : MsgsOk (l.drop i) := fun m hm => h m (List.mem_of_mem_drop hm)
theorem flat_take {l : List (List Value)} (h : MsgsOk l) {i : Nat} (hi : i ≤ l.length) : l.flatten.take (i * 34) = (l.take i).flatten := by
  have e : l.flatten = (l.take i).flatten ++ (l.drop i).flatten := by rw [← List.flatten_append, List.take_append_drop]
  have hl := flat_len (h.take i)
  rw [List.length_take, Nat.min_eq_left hi] at hl
  rw [e, ← hl]; simp
theorem flat_drop {l : List (List Value)} (h : MsgsOk l) {i : Nat} (hi : i ≤ l.length) : l.flatten.drop (i * 34) = (l.drop i).flatten := by
  have e : l.flatten = (l.take i).flatten ++ (l.drop i).flatten := by rw [← List.flatten_append, List.take_append_drop]
  have hl := flat_len (h.take i)
  rw [List.length_take, Nat.min_eq_left hi] at hl
  rw [e, ← hl]; simp

/-- what Delete leaves of the array's cells -/
theorem delete_cells {cur : Array Value} {cap n i : Nat} {l : List (List Value)} (hsz : cur.size = cap * 34) (hn : l.length = n) (ht : cur.toList.take (n * 34) = l.flatten) (hm : MsgsOk l) (hi : i < n) (hnc : n ≤ cap) :
    ((putL (putL cur (i * 34) (l.drop (i + 1)).flatten) ((n - 1) * 34) zMsg).toList.take ((n - 1) * 34) = (l.eraseIdx i).flatten) := by
  have hdl := flat_len (hm.drop (i + 1))
  rw [List.length_drop, hn] at hdl
  have hz : zMsg.length = 34 := rfl
  have h1 : i * 34 + (l.drop (i + 1)).flatten.length ≤ cur.size := by rw [hdl, hsz]; omega
  have e1 := putL_list _ cur (i * 34) h1
  have h2 : (n - 1) * 34 + zMsg.length ≤ (putL cur (i * 34) (l.drop (i + 1)).flatten).size := by rw [putL_size, hz, hsz]; omega
  rw [putL_list _ _ _ h2, List.append_assoc, List.take_append_of_le_length (by rw [List.length_take, Array.length_toList, putL_size, hsz]; omega), List.take_take, Nat.min_self, e1, List.append_assoc]
  have e2 : cur.toList.take (i * 34) = (l.take i).flatten := by
    rw [← flat_take hm (by omega), ← ht, List.take_take, Nat.min_eq_left (by omega)]
  have hl2 := flat_len (hm.take i)
  rw [List.length_take, Nat.min_eq_left (by omega)] at hl2
  rw [e2, List.eraseIdx_eq_take_drop_succ, List.flatten_append, ← List.append_assoc, List.take_append_of_le_length (by rw [List.length_append, hl2, hdl]; omega), List.take_of_length_le (by rw [List.length_append, hl2, hdl]; omega)]

set_option maxHeartbeats 1000000 in
set_option maxRecDepth 100000 in
theorem delete_msg (w : World) (g cap n i j : Nat) (hij : j = i + 1) (l : List (List Value)) (cur : Array Value) (hb : w.heap[g]? = some (.cells cur 42 (0, 0))) (hsz : cur.size = cap * 34) (hn : l.length = n) (ht : cur.toList.take (n * 34) = l.flatten) (hm : MsgsOk l) (hi : i < n) (hnc : n ≤ cap) (hcap : cap ≤ 9223372036854775807) :
    Calls Try.prog 46 #[.slice (some ⟨g, 0, none⟩) n cap, .int .i64 i, .int .i64 j] w fun e w' => e = .returned (.slice (some ⟨g, 0, none⟩) (n - 1 : Nat) cap) ∧ Only g w w' ∧
      ∃ cur', w'.heap[g]? = some (.cells cur' 42 (0, 0)) ∧ cur'.size = cap * 34 ∧ cur'.toList.take ((n - 1) * 34) = (l.eraseIdx i).flatten := by
  obtain ⟨i0, hi0, hz0, hz1, hz2⟩ := info_parts info42
  have t68 := und68
  have hdel := delete_cells hsz hn ht hm hi hnc
  rw [← hij] at hdel
  obtain ⟨news, hnews⟩ : ∃ news, news = (l.drop j).flatten := ⟨_, rfl⟩
  have hlen : news.length = (n - j) * 34 := by rw [hnews, flat_len (hm.drop _), List.length_drop, hn]
  have hcell : ∀ t, t < cap * 34 → (w.drew.cell? ⟨g, t, none⟩).isSome = true ∧ w.drew.frozen? ⟨g, t, none⟩ = false := fun t h => by
    refine ⟨?_, frozen_of_block (w := w) hb t⟩
    show (w.cell? ⟨g, t, none⟩).isSome = true
    rw [cell_of_block hb]; simp [hsz, h]
  obtain ⟨A, hA, hsrc⟩ : ∃ A : Addr, (if cap = j then (some (⟨g, 0, none⟩ : Addr)) else some ⟨g, j * 34, none⟩) = some A ∧ Hid (∀ t u, news[t]? = some u → w.drew.cell? (A.add t) = some u) := by
    by_cases h : cap = j
    · refine ⟨⟨g, 0, none⟩, by simp [h], fun t u hu => ?_⟩
      have h0 : news.length = 0 := by rw [hlen]; omega
      rw [List.length_eq_zero_iff.1 h0] at hu
      simp at hu
    · refine ⟨⟨g, j * 34, none⟩, by simp [h], fun t u hu => ?_⟩
      rw [Addr.add_lit]
      show w.cell? _ = some u
      rw [cell_of_block hb, ← Array.getElem?_toList]
      have htl : t < (n - j) * 34 := by rw [← hlen]; exact (List.getElem?_eq_some_iff.1 hu).1
      have e : l.flatten[j * 34 + t]? = news[t]? := by
        rw [← List.getElem?_drop, flat_drop hm (by omega), hnews]
      rw [← hu, ← e, ← ht, List.getElem?_take, if_pos (by omega)]
  have s1 : Hid (news.length = (n - j) * 34) := hlen
  have s2 : Hid (∀ u ∈ news, u.oneCell' = true) := fun u hu => by rw [hnews] at hu; exact (hm.drop _).one u hu
  have s3 : Hid (∀ t, t < news.length → (w.drew.cell? ⟨g, 0 + i * 34 + t, none⟩).isSome = true ∧ w.drew.frozen? ⟨g, 0 + i * 34 + t, none⟩ = false) := fun t h => by
    rw [Nat.zero_add]; rw [hlen] at h; exact hcell _ (by omega)
  obtain ⟨W1, hW1⟩ : ∃ W1, W1 = w.drew.setCells g (0 + i * 34) news := ⟨_, rfl⟩
  have hW1b : W1.heap[g]? = some (.cells (putL cur (i * 34) news) 42 (0, 0)) := by rw [hW1, Nat.zero_add]; exact setCells_heap _ _ (w := w.drew) hb
  have hW1o : Only g w W1 := by rw [hW1]; exact Only.setCells _ _ ((Only.refl g w).drew)
  have hcl : ∀ ty, (Builtin.clear_ #[68] ty #[.slice (some ⟨g, (n - 1) * 34, none⟩) 1 (cap - (n - 1))]).run Try.prog W1 = .ok (.tuple #[]) (W1.setCells g ((n - 1) * 34) zMsg) := fun ty =>
    run_clear_one W1 68 42 ty _ zMsg t68 zMsg_zero rfl (by decide) (List.all_eq_true.1 (show zMsg.all (·.oneCell') = true from rfl)) g _ _
      (fun j hj => by rw [cell_of_block hW1b]; simp [putL_size, hsz]; have : zMsg.length = 34 := rfl; omega) (fun j hj => frozen_of_block hW1b _)
  rw [← hnews] at hdel
  have hfin : (W1.setCells g ((n - 1) * 34) zMsg).heap[g]? = some (.cells (putL (putL cur (i * 34) news) ((n - 1) * 34) zMsg) 42 (0, 0)) := setCells_heap _ _ hW1b
  have hfino : Only g w (W1.setCells g ((n - 1) * 34) zMsg) := Only.setCells _ _ hW1o
  have hfs : (putL (putL cur (i * 34) news) ((n - 1) * 34) zMsg).size = cap * 34 := by rw [putL_size, putL_size, hsz]
  have HFIN := Lib.hid (show Only g w (W1.setCells g ((n - 1) * 34) zMsg) ∧ ∃ cur', (W1.setCells g ((n - 1) * 34) zMsg).heap[g]? = some (.cells cur' 42 (0, 0)) ∧ cur'.size = cap * 34 ∧ cur'.toList.take ((n - 1) * 34) = (l.eraseIdx i).flatten from ⟨hfino, _, hfin, hfs, hdel⟩)
  have hW : Hid (W1 = w.drew.setCells g (0 + i * 34) news) := hW1
  have hne : ((i : Int) == (j : Int)) = false := by simp; omega
  have hne2 : (i == j) = false := by simp; omega
  have hij1 : i ≤ j := by omega
  have hnj : i + (n - j) = n - 1 := by omega
  have hn1 : n - (n - 1) = 1 := by omega
  have hic : i ≤ cap := by omega
  have hjc : j ≤ cap := by omega
  have hjn : j ≤ n := by omega
  clear hij hW1 hW1b hW1o hdel hfin hfino hfs hcell hlen hnews hb hsz ht hm hn
  go_enter Try.func46, Try.ntmps46
  go_wp2_with fail
  go_region_law (refine step_append_room rfl (.tmp 22) (.tmp 25) 68 rfl 42 i0 34 t68 hi0 hz1 g 0 i cap (by simp [Act.eval, Act.put]) A (n - j) (cap - j) news (by simp [Act.eval, Act.put]) s1.out hsrc.out s2.out (by omega) s3.out ?_; rw [← hW.out])
  have hcn : ¬ cap = n - 1 := by omega
  have hle1 : n - 1 ≤ n := by omega
  go_wp2
  go_ret
  exact ⟨rfl, HFIN.out⟩
end Go.Proofs.Ytdkpgjhjdnfieaa
