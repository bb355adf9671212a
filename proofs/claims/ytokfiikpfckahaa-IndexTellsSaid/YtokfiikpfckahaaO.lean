/- The contract of small. No condition. -/
import Derived.Test.YtokfiikpfckahaaN
set_option linter.unusedVariables false
set_option linter.unusedSimpArgs false
namespace Go.Proofs.Ytokfiikpfckahaa
open Go.RowKit Go.Lib Go.Ix Go.Sort Go.Mf
set_option maxRecDepth 100000

theorem set1 {w w1 : World} (h : SmSt w (fun _ => none) w1) : Calls Try.prog 15 #[.pointer (some ⟨w.heap.size + 2, 0, none⟩), .string ⟨#[97]⟩, .string ⟨#[114, 101, 100, 32, 103, 114, 101, 101, 110]⟩] w1 fun e w' => e = .returned (.tuple #[]) ∧ Hid (SmSt w ex1 w') := by
  refine (set_any h.1 (up_fresh h.2.size) sA tA (by decide)).mono ?_
  rintro e w' ⟨rfl, h1, h2⟩
  exact ⟨rfl, Lib.hid ⟨h1, h.2.trans h2.below⟩⟩
theorem set2 {w w1 : World} (h : SmSt w ex1 w1) : Calls Try.prog 15 #[.pointer (some ⟨w.heap.size + 2, 0, none⟩), .string ⟨#[98]⟩, .string ⟨#[71, 114, 101, 101, 110]⟩] w1 fun e w' => e = .returned (.tuple #[]) ∧ Hid (SmSt w ex2 w') := by
  refine (set_any h.1 (up_fresh h.2.size) sB tB (by decide)).mono ?_
  rintro e w' ⟨rfl, h1, h2⟩
  exact ⟨rfl, Lib.hid ⟨h1, h.2.trans h2.below⟩⟩

theorem own_head {w : World} {B : Nat} {v : Value} {x : Str} {l : List Str} (h : OwnS w B v (x :: l)) : ∃ g cap, v = .slice (some ⟨g, 0, none⟩) (l.length + 1) cap ∧ w.cell? ⟨g, 0, none⟩ = some (encStr x) := by
  obtain ⟨p, cap, rfl, hc⟩ := own_row h
  obtain ⟨b, o, rfl, _, hc⟩ := hc 0 (by simp)
  rcases h.2 with ⟨h1, _⟩ | ⟨g, cap', cur, h1, _⟩
  · cases h1
  · cases h1
    exact ⟨b, cap, rfl, by simpa using hc⟩
theorem own_none {w : World} {B : Nat} {v : Value} (h : OwnS w B v []) : ∃ p cap, v = .slice p 0 cap := by
  obtain ⟨p, cap, rfl, hc⟩ := own_row h
  exact ⟨p, cap, rfl⟩

set_option maxHeartbeats 4000000 in
theorem small_any (w : World) : Calls Try.prog 8 #[] w fun e w' => e = .returned (.bool true) ∧ Below w.heap.size w w' := by
  go_enter Try.func8, Try.ntmps8
  go_wp2_with (first
    | (go_at_call 14; refine (new_any _).mono ?_; rintro e w1 ⟨rfl, hix, hb, hs⟩
       have H1 : Hid (SmSt w (fun _ => none) w1) := ⟨hix.ix _ (up_ok (Nat.le_refl _)) (up_ok (Nat.le_succ _)), hb⟩
       clear hix hb hs)
    | (go_at_call 15; refine (set1 H1.out).mono ?_; rintro e w2 ⟨rfl, H2⟩
       clear H1)
    | (go_at_call 15; refine (set2 H2.out).mono ?_; rintro e w3 ⟨rfl, H3⟩
       clear H2)
    | (go_at_call 19; refine (find1 H3.out).mono ?_
       rintro e w4 ⟨v4, rfl, hf⟩
       have O1 : Hid (OwnS w4 0 v4 [sA, sB]) := hf.out.1
       have H4 : Hid (SmSt w ex2 w4) := hf.out.2.1
       clear hf H3)
    | (go_at_call 19; refine (find2 H4.out).mono ?_
       rintro e w5 ⟨v5, rfl, hf⟩
       have O1' : Hid (OwnS w5 0 v4 [sA, sB]) := hf.out.2.2.row O1.out
       have O2 : Hid (OwnS w5 0 v5 [sA]) := hf.out.1
       have H5 : Hid (SmSt w ex2 w5) := hf.out.2.1
       clear hf H4 O1)
    | (go_at_call 17; refine (rm_small H5.out).mono ?_
       rintro e w6 ⟨rfl, hf⟩
       have O1 : Hid (OwnS w6 0 v4 [sA, sB]) := hf.out.2.row O1'.out
       have O2' : Hid (OwnS w6 0 v5 [sA]) := hf.out.2.row O2.out
       have H6 : Hid (SmSt w ex3 w6) := hf.out.1
       clear hf H5 O1' O2)
    | (go_at_call 19; refine (find3 H6.out).mono ?_
       rintro e w7 ⟨v6, rfl, hf⟩
       obtain ⟨g4, c4, rfl, C4⟩ := own_head (hf.out.2.2.row O1.out)
       obtain ⟨g5, c5, rfl, C5⟩ := own_head (hf.out.2.2.row O2'.out)
       obtain ⟨g6, c6, rfl, C6⟩ := own_head hf.out.1
       replace C4 : w7.cell? ⟨g4, 0, none⟩ = some (.string ⟨#[97]⟩) := C4
       replace C5 : w7.cell? ⟨g5, 0, none⟩ = some (.string ⟨#[97]⟩) := C5
       replace C6 : w7.cell? ⟨g6, 0, none⟩ = some (.string ⟨#[98]⟩) := C6
       have H7 : Hid (SmSt w ex3 w7) := hf.out.2.1
       clear hf H6 O1 O2')
    | (go_at_call 19; refine (find4 H7.out).mono ?_
       rintro e w8 ⟨v8, rfl, hf⟩
       obtain ⟨p8, c8, rfl⟩ := own_none hf.out.1
       have H8 : Hid (SmSt w ex3 w8) := hf.out.2.1
       clear hf H7))
  go_ret
  exact ⟨rfl, H8.out.2⟩
end Go.Proofs.Ytokfiikpfckahaa
