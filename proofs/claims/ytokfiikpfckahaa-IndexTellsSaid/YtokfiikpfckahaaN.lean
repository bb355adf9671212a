/- The contract of small. No condition. -/
import Derived.Test.YtokfiikpfckahaaL
set_option linter.unusedVariables false
set_option linter.unusedSimpArgs false
namespace Go.Proofs.Ytokfiikpfckahaa
open Go.RowKit Go.Lib Go.Ix Go.Sort Go.Mf
set_option maxRecDepth 100000

/-- all blocks from n on -/
def up (n : Nat) : Ter := ⟨n, 0, 0⟩
theorem up_ok {n m : Nat} (h : n ≤ m) : (up n).ok m := ⟨h, Or.inr (Nat.zero_le _)⟩
theorem up_fresh {n m : Nat} (h : n ≤ m) : (up n).fresh m := ⟨h, Nat.zero_le _⟩

/-- the example's index and what was found so far -/
def SmSt (w : World) (W : Str → Option (List Str)) (wr : World) : Prop := IxAt wr (up w.heap.size) (w.heap.size + 2) W ∧ Below w.heap.size w wr

theorem ex2_ids (i : Str) (h : (ex2 i).isSome = true) : i ∈ [sA, sB] := by
  unfold ex2 ex1 at h
  by_cases e : i = sB
  · simp [e]
  · by_cases e' : i = sA
    · simp [e']
    · simp [e, e'] at h

/-- a row of strings just made -/
theorem row_made (w : World) (ws : List Str) (hne : ws ≠ []) : RowAt (w.alloc (.cells (ws.map encStr).toArray 9)) (.slice (some ⟨w.heap.size, 0, none⟩) ws.length ws.length) ws := by
  refine ⟨_, _, rfl, fun j hj => ⟨w.heap.size, 0, rfl, by simp, ?_⟩⟩
  have h := heap_alloc_new w (.cells (ws.map encStr).toArray 9)
  rw [cell_of_block h]
  simp [hj]

/-- Find among the example's ids -/
theorem find_small {w wr : World} {W : Str → Option (List Str)} (h : SmSt w W wr) (hU : ∀ i, (W i).isSome = true → i ∈ [sA, sB]) (ws l : List Str) (hl : ws.length ≤ 1000000) (hf : ∀ l', Found W ws l' → l' = l) (v : Value) (hr : RowAt wr v ws) :
    Calls Try.prog 19 #[.pointer (some ⟨w.heap.size + 2, 0, none⟩), v] wr fun e w' => ∃ v', e = .returned v' ∧ Hid (OwnS w' wr.heap.size v' l ∧ SmSt w W w' ∧ Below wr.heap.size wr w') := by
  refine (find_any h.1 hr hl hU (by simp)).mono ?_
  rintro e w' ⟨v', l', rfl, ho, hfd, hb⟩
  rw [hf l' hfd] at ho
  exact ⟨v', rfl, Lib.hid ⟨ho, ⟨h.1.up hb, h.2.trans (hb.mono h.2.size)⟩, hb⟩⟩

theorem own_le {w : World} {B B' : Nat} {v : Value} {l : List Str} (h : OwnS w B v l) (hb : B' ≤ B) : OwnS w B' v l :=
  ⟨h.1, h.2.imp id fun ⟨g, cap, cur, h1, h2, h3⟩ => ⟨g, cap, cur, h1, Nat.le_trans hb h2, h3⟩⟩

theorem ex3_ids (i : Str) (h : (ex3 i).isSome = true) : i ∈ [sA, sB] := by
  unfold ex3 at h
  by_cases e : i = sA
  · simp [e]
  · rw [if_neg e] at h
    exact ex2_ids i h

theorem find1 {w w3 : World} (h : SmSt w ex2 w3) : Calls Try.prog 19 #[.pointer (some ⟨w.heap.size + 2, 0, none⟩), .slice (some ⟨w3.heap.size, 0, none⟩) 1 1] (w3.alloc (.cells #[.string ⟨#[103, 114, 101, 101, 110]⟩] 9)) fun e w' => ∃ v', e = .returned v' ∧ Hid (OwnS w' 0 v' [sA, sB] ∧ SmSt w ex2 w' ∧ Bk (up w.heap.size) w3 w') := by
  have h1 : SmSt w ex2 (w3.alloc (.cells #[.string ⟨#[103, 114, 101, 101, 110]⟩] 9)) := ⟨h.1.up ((Below.refl _ _).alloc (Nat.le_refl _) _), h.2.alloc h.2.size _⟩
  have hr : RowAt (w3.alloc (.cells #[.string ⟨#[103, 114, 101, 101, 110]⟩] 9)) (.slice (some ⟨w3.heap.size, 0, none⟩) 1 1) [sGreen] := row_made w3 [sGreen] (by simp)
  refine (find_small h1 ex2_ids [sGreen] [sA, sB] (by simp) (fun _ h => found1 h) _ hr).mono ?_
  rintro e w' ⟨v', rfl, hf⟩
  obtain ⟨f1, f2, f3⟩ := hf.out
  rw [World.size_alloc] at f3
  exact ⟨v', rfl, Lib.hid ⟨own_le f1 (Nat.zero_le _), f2, (Bk.refl _ _).up (((Below.refl _ _).alloc (Nat.le_refl _) _).trans (f3.mono (Nat.le_succ _))) (up_fresh h.2.size)⟩⟩
theorem find2 {w w3 : World} (h : SmSt w ex2 w3) : Calls Try.prog 19 #[.pointer (some ⟨w.heap.size + 2, 0, none⟩), .slice (some ⟨w3.heap.size, 0, none⟩) 2 2] (w3.alloc (.cells #[.string ⟨#[103, 114, 101, 101, 110]⟩, .string ⟨#[114, 101, 100]⟩] 9)) fun e w' => ∃ v', e = .returned v' ∧ Hid (OwnS w' 0 v' [sA] ∧ SmSt w ex2 w' ∧ Bk (up w.heap.size) w3 w') := by
  have h1 : SmSt w ex2 (w3.alloc (.cells #[.string ⟨#[103, 114, 101, 101, 110]⟩, .string ⟨#[114, 101, 100]⟩] 9)) := ⟨h.1.up ((Below.refl _ _).alloc (Nat.le_refl _) _), h.2.alloc h.2.size _⟩
  have hr : RowAt (w3.alloc (.cells #[.string ⟨#[103, 114, 101, 101, 110]⟩, .string ⟨#[114, 101, 100]⟩] 9)) (.slice (some ⟨w3.heap.size, 0, none⟩) 2 2) [sGreen, sRed] := row_made w3 [sGreen, sRed] (by simp)
  refine (find_small h1 ex2_ids [sGreen, sRed] [sA] (by simp) (fun _ h => found2 h) _ hr).mono ?_
  rintro e w' ⟨v', rfl, hf⟩
  obtain ⟨f1, f2, f3⟩ := hf.out
  rw [World.size_alloc] at f3
  exact ⟨v', rfl, Lib.hid ⟨own_le f1 (Nat.zero_le _), f2, (Bk.refl _ _).up (((Below.refl _ _).alloc (Nat.le_refl _) _).trans (f3.mono (Nat.le_succ _))) (up_fresh h.2.size)⟩⟩
theorem find3 {w w3 : World} (h : SmSt w ex3 w3) : Calls Try.prog 19 #[.pointer (some ⟨w.heap.size + 2, 0, none⟩), .slice (some ⟨w3.heap.size, 0, none⟩) 1 1] (w3.alloc (.cells #[.string ⟨#[103, 114, 101, 101, 110]⟩] 9)) fun e w' => ∃ v', e = .returned v' ∧ Hid (OwnS w' 0 v' [sB] ∧ SmSt w ex3 w' ∧ Bk (up w.heap.size) w3 w') := by
  have h1 : SmSt w ex3 (w3.alloc (.cells #[.string ⟨#[103, 114, 101, 101, 110]⟩] 9)) := ⟨h.1.up ((Below.refl _ _).alloc (Nat.le_refl _) _), h.2.alloc h.2.size _⟩
  have hr : RowAt (w3.alloc (.cells #[.string ⟨#[103, 114, 101, 101, 110]⟩] 9)) (.slice (some ⟨w3.heap.size, 0, none⟩) 1 1) [sGreen] := row_made w3 [sGreen] (by simp)
  refine (find_small h1 ex3_ids [sGreen] [sB] (by simp) (fun _ h => found3 h) _ hr).mono ?_
  rintro e w' ⟨v', rfl, hf⟩
  obtain ⟨f1, f2, f3⟩ := hf.out
  rw [World.size_alloc] at f3
  exact ⟨v', rfl, Lib.hid ⟨own_le f1 (Nat.zero_le _), f2, (Bk.refl _ _).up (((Below.refl _ _).alloc (Nat.le_refl _) _).trans (f3.mono (Nat.le_succ _))) (up_fresh h.2.size)⟩⟩
theorem find4 {w w3 : World} (h : SmSt w ex3 w3) : Calls Try.prog 19 #[.pointer (some ⟨w.heap.size + 2, 0, none⟩), .slice none 0 0] w3 fun e w' => ∃ v', e = .returned v' ∧ Hid (OwnS w' 0 v' [] ∧ SmSt w ex3 w' ∧ Bk (up w.heap.size) w3 w') := by
  refine (find_small h ex3_ids [] [] (by simp) (fun _ h => found4 h) (.slice none 0 0) ⟨none, 0, rfl, fun j hj => by simp at hj⟩).mono ?_
  rintro e w' ⟨v', rfl, hf⟩
  obtain ⟨f1, f2, f3⟩ := hf.out
  exact ⟨v', rfl, Lib.hid ⟨own_le f1 (Nat.zero_le _), f2, (Bk.refl _ _).up f3 (up_fresh h.2.size)⟩⟩
theorem rm_small {w w3 : World} (h : SmSt w ex2 w3) : Calls Try.prog 17 #[.pointer (some ⟨w.heap.size + 2, 0, none⟩), .string ⟨#[97]⟩] w3 fun e w' => e = .returned (.tuple #[]) ∧ Hid (SmSt w ex3 w' ∧ Bk (up w.heap.size) w3 w') := by
  refine (remove_any h.1 (up_fresh h.2.size) sA).mono ?_
  rintro e w' ⟨rfl, h1, h2⟩
  exact ⟨rfl, Lib.hid ⟨⟨h1, h.2.trans h2.below⟩, h2⟩⟩
end Go.Proofs.Ytokfiikpfckahaa
