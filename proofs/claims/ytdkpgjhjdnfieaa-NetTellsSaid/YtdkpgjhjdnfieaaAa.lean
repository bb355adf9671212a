/- The contracts of pick and without. Condition: the list lies in memory as stated, the index is in range. -/
import Derived.Test.YtdkpgjhjdnfieaaY
set_option linter.unusedVariables false
set_option linter.unusedSimpArgs false
namespace Go.Proofs.Ytdkpgjhjdnfieaa
open Go.RowKit Go.Mf
set_option maxRecDepth 100000

theorem ret_int {k : IntKind} {a b : Int} (h : a = b) : Ending.returned (.int k a) = .returned (.int k b) := by rw [h]
theorem pick_any (w : World) (a b : Int) (ha : -9223372036854775808 ≤ a ∧ a ≤ 9223372036854775807) (hb : 0 < b) (hb2 : b ≤ 100) : Calls Try.prog 12 #[.int .i64 a, .int .i64 b] w fun e w' => e = .returned (.int .i64 (a % b)) ∧ w' = w := by
  obtain ⟨h1, h2⟩ := ha
  have hb0 : (b == 0) = false := by simp; omega
  by_cases h0 : 0 ≤ a
  · have hm : 0 ≤ a % b := Int.emod_nonneg _ (by omega)
    have hm2 : decide (a % b < 0) = false := by simp; omega
    have hr := Lib.hid (show a.tmod b = a % b from Int.tmod_eq_emod_of_nonneg h0)
    go_enter Try.func12, Try.ntmps12
    go_wp2
    go_ret
    exact ⟨by first | rfl | rw [hr.out], rfl⟩
  · have ht := Int.tmod_eq_emod (a := a) (b := b)
    have hm : 0 ≤ a % b := Int.emod_nonneg _ (by omega)
    have hm3 : a % b < b := Int.emod_lt_of_pos _ hb
    by_cases hd : b ∣ a
    · have hz : a % b = 0 := Int.emod_eq_zero_of_dvd hd
      rw [if_pos (.inr hd), hz] at ht
      have HZ := Lib.hid hz
      have HT := Lib.hid (show a.tmod b = 0 by omega)
      have h3 : decide (a.tmod b < 0) = false := by rw [HT.out]; rfl
      clear ht hz hm hm3 hd
      go_enter Try.func12, Try.ntmps12
      go_wp2
      go_ret
      exact ⟨by rw [HZ.out, HT.out]; rfl, rfl⟩
    · rw [if_neg (by rintro (h | h); exact h0 h; exact hd h)] at ht
      have HT := Lib.hid (show a.tmod b + b = a % b by omega)
      have h3 : decide (a.tmod b < 0) = true := by rw [decide_eq_true_eq]; omega
      have h4 : -100 ≤ a.tmod b := by omega
      have h5 : a.tmod b < 0 := by omega
      clear ht hm hm3 hd
      go_enter Try.func12, Try.ntmps12
      go_wp2
      go_ret
      exact ⟨by rw [← HT.out]; rfl, rfl⟩

theorem info3 : (Try.prog.info? 3).map (fun i => (i.zero, i.size, i.bytes)) = some (some (.int .i64 0), 1, 8) := by kernel_rfl
theorem und55 : Try.prog.underlying 55 = some (.slice 3) := by kernel_rfl

def WoPost (w : World) (n : Nat) (xs : List Value) : Ending → World → Prop := fun e w' => ∃ v', e = .returned v' ∧ w'.ownsRow w.heap.size 3 1 v' n xs ∧ Below w.heap.size w w'

set_option maxHeartbeats 1000000 in
theorem without_any (w : World) (base : Nat) (v : Value) (n i : Nat) (xs : List Value) (hown : w.ownsRow base 3 1 v n xs) (hi : i < n) (h1 : ∀ u ∈ xs, u.oneCell' = true) (hn : n ≤ 1000) :
    Calls Try.prog 31 #[v, .int .i64 i] w (WoPost w (n - 1) (xs.eraseIdx i)) := by
  obtain ⟨i0, hi0, hz0, hz1, hz2⟩ := info_parts info3
  have t55 := und55
  have hlen := hown.1
  have hcs := fun g hg => hown.cells (g := g) hg
  rcases hown.2 with ⟨_, h2⟩ | ⟨g, cap, cur, rfl, hg0, hg, hnc, hcap, hsz, htk⟩
  · omega
  have hgl := (Array.getElem?_eq_some_iff.1 hg).1
  have hcell : ∀ (w' : World), w'.heap[g]? = w.heap[g]? → ∀ j u, xs[j]? = some u → w'.cell? ⟨g, j, none⟩ = some u := fun w' hw j u hu => by
    have := hcs g rfl j u hu
    rw [Addr.add_lit, Nat.zero_add] at this
    rw [← this]
    exact World.cell?_of_block hw
  have hcap2 : cap ≤ 9223372036854775807 := by simpa [maxLen] using hcap
  have HLEN := Lib.hid hlen
  have HCELL := Lib.hid hcell
  have H1 := Lib.hid h1
  have hic : i ≤ cap := by omega
  have hic1 : i + 1 ≤ cap := by omega
  have hin1 : i + 1 ≤ n := by omega
  obtain ⟨A, hA, hAc⟩ : ∃ A : Addr, (if cap = i + 1 then (some (⟨g, 0, none⟩ : Addr)) else some ⟨g, i + 1, none⟩) = some A ∧ Hid (∀ w' : World, w'.heap[g]? = w.heap[g]? → ∀ t u, (xs.drop (i + 1))[t]? = some u → w'.cell? (A.add t) = some u) := by
    by_cases h : cap = i + 1
    · refine ⟨⟨g, 0, none⟩, by simp [h], fun w' hw t u hu => ?_⟩
      rw [List.getElem?_drop] at hu
      have := (List.getElem?_eq_some_iff.1 hu).1
      omega
    · refine ⟨⟨g, i + 1, none⟩, by simp [h], fun w' hw t u hu => ?_⟩
      rw [List.getElem?_drop] at hu
      rw [Addr.add_lit]
      exact hcell w' hw _ _ hu
  have hw1 : IntKind.i64.wrap ((i : Int) + 1) = (i : Int) + 1 := IntWalk.i64_in _ (by omega)
  have hw2 : (0 : Int) ≤ (i : Int) + 1 := by omega
  have hw3 : ((i : Int) + 1).toNat = i + 1 := by omega
  clear hlen hcs hcell h1 hg hsz htk hown
  go_enter Try.func31, Try.ntmps31
  go_wp2
  refine wp_region_any (by kernel_rfl) ?_
  change wpAny _ _ _ _ _ _ _ (World.drew _)
  refine wpAny_take (i := 1) (v := .slice (some ⟨g, 0, none⟩) n cap) rfl (by kernel_rfl) (by kernel_rfl) (by kernel_rfl) (fun _ _ _ h => h) (Or.inl ⟨by rfl, by intro _; go_simp⟩) ?_
  refine wpAny_take (i := 2) (v := .int .i64 (i : Int)) rfl (by kernel_rfl) (by kernel_rfl) (by kernel_rfl) (fun _ _ _ h => h) (Or.inl ⟨by rfl, by intro _; go_simp⟩) ?_
  refine wpAny_take (i := 3) (v := .slice (some ⟨g, 0, none⟩) i cap) rfl (by kernel_rfl) (by kernel_rfl) (by kernel_rfl) (fun _ _ _ h => h) (Or.inl ⟨by rfl, by intro _; go_simp⟩) ?_
  refine wpAny_take (i := 5) (v := .slice (some ⟨g, 0, none⟩) n cap) rfl (by kernel_rfl) (by kernel_rfl) (by kernel_rfl) (fun _ _ _ h => h) (Or.inl ⟨by rfl, by intro _; go_simp⟩) ?_
  refine wpAny_take (i := 6) (v := .int .i64 (i : Int)) rfl (by kernel_rfl) (by kernel_rfl) (by kernel_rfl) (fun _ _ _ h => h) (Or.inl ⟨by rfl, by intro _; go_simp⟩) ?_
  refine wpAny_take (i := 7) (v := .int .i64 ((i : Int) + 1)) rfl (by kernel_rfl) (by kernel_rfl) (by kernel_rfl) (fun _ _ _ h => h) (Or.inl ⟨by rfl, by intro _; go_simp⟩) ?_
  refine wpAny_take (i := 8) (v := .slice (some A) (n - (i + 1)) (cap - (i + 1))) rfl (by kernel_rfl) (by kernel_rfl) (by kernel_rfl) (fun _ _ _ h => h) (Or.inl ⟨by rfl, by intro _; go_simp; intro h; omega⟩) ?_
  refine Rg.Any.plain (S := fun _ _ => True) _ _ _ _ ?_
  refine Rg.only 0 (by kernel_rfl) (by simp only [List.getElem?_toArray, List.getElem?_cons_succ, List.getElem?_cons_zero]; rfl) (fun K hK => ?_)
  go_simp
  refine hK.out _ _ trivial ?_
  clear hK K
  have HM : Hid ((w.drew.alloc (.cells #[] 3)).ownsRow w.heap.size 3 1 (.slice (some ⟨w.heap.size, 0, none⟩) 0 0) 0 []) := World.ownsRow_made w.drew #[] 0 (Nat.le_refl _) (by simp [maxLen]) rfl
  refine Rg.only 4 (by kernel_rfl) (by simp only [List.getElem?_toArray, List.getElem?_cons_succ, List.getElem?_cons_zero]; rfl) (fun K hK => ?_)
  rw [if_pos (by rfl)]
  have hold0 : ∀ k, k < w.heap.size → (w.alloc (.cells #[] 3)).drew.heap[k]? = w.heap[k]? := fun k hk => Below.heap_alloc w _ _ hk
  have HB0 : Hid (Below w.heap.size w (w.alloc (.cells #[] 3)).drew) := ((Below.refl _ w).alloc (Nat.le_refl _) _).drew
  have HM2 : Hid ((w.alloc (.cells #[] 3)).drew.ownsRow w.heap.size 3 1 (.slice (some ⟨w.heap.size, 0, none⟩) 0 0) 0 []) := own_heap HM.out (fun _ _ _ => rfl)
  have hcA : ∀ j u, (xs.take i)[j]? = some u → (w.alloc (.cells #[] 3)).drew.cell? ((⟨g, 0, none⟩ : Addr).add j) = some u := fun j u hu => by
    rw [Addr.add_lit, Nat.zero_add]
    rw [List.getElem?_take] at hu
    split at hu
    · exact HCELL.out _ (hold0 g hgl) j u hu
    · cases hu
  refine wp_append_own _ (.tmp 5) (.tmp 8) 55 rfl w.heap.size 3 i0 _ 1 8 t55 hi0 hz0 hz1 hz2 rfl (by decide) _ 0 [] rfl HM2.out ⟨g, 0, none⟩ i cap (xs.take i) rfl ?c0 hcA ?c1 ?c2 ?c3 ?c4 ?_
  case c0 => rw [List.length_take, HLEN.out]; omega
  case c1 => exact fun u hu => H1.out u (List.mem_of_mem_take hu)
  case c2 => simp only [maxLen]; omega
  case c3 => omega
  case c4 => exact HB0.out.size
  intro v1 w1 hown1 hg1 _
  rw [Nat.zero_add, List.nil_append] at hown1
  have hB1 : Below w.heap.size w w1 := HB0.out.grown hg1 HB0.out.size (fun q hq => (HM2.out.lt q hq).1)
  refine hK.out _ _ trivial ?_
  clear hK K
  refine Rg.only 9 (by kernel_rfl) (by simp only [List.getElem?_toArray, List.getElem?_cons_succ, List.getElem?_cons_zero]; rfl) (fun K hK => ?_)
  rw [if_pos (by rfl)]
  refine wp_append_own _ (.tmp 9) (.tmp 13) 55 rfl w.heap.size 3 i0 _ 1 8 t55 hi0 hz0 hz1 hz2 rfl (by decide) v1 i (xs.take i) rfl hown1 A (n - (i + 1)) (cap - (i + 1)) (xs.drop (i + 1)) rfl ?c5 (hAc.out _ (hB1.block g hgl)) ?c6 ?c7 ?c8 ?c9 ?_
  case c5 => rw [List.length_drop, HLEN.out]; omega
  case c6 => exact fun u hu => H1.out u (List.mem_of_mem_drop hu)
  case c7 => simp only [maxLen]; omega
  case c8 => omega
  case c9 => exact hB1.size
  intro v2 w2 hown2 hg2 _
  have hB2 : Below w.heap.size w w2 := hB1.grown hg2 hB1.size (fun q hq => (hown1.lt q hq).1)
  rw [← List.eraseIdx_eq_take_drop_succ, show i + (n - (i + 1)) = n - 1 by omega] at hown2
  refine hK.out _ _ trivial ?_
  clear hK K
  have HO2 := Lib.hid hown2
  have HB2 := Lib.hid hB2
  clear hown1 hg1 hB1 hown2 hg2 hB2 hcA hold0
  refine Rg.only 10 (by kernel_rfl) (by simp only [List.getElem?_toArray, List.getElem?_cons_succ, List.getElem?_cons_zero]; rfl) (fun K hK => ?_)
  go_simp
  refine hK.out _ _ trivial ?_
  clear hK K
  refine Rg.done (by kernel_rfl) ?_
  go_wp2
  go_ret
  exact ⟨v2, rfl, HO2.out, HB2.out⟩
end Go.Proofs.Ytdkpgjhjdnfieaa
