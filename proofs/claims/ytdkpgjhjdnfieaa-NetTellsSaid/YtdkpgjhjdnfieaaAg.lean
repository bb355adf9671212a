/- The contract of few: where it says yes there are at most 60 steps. Condition: the slice reads as a list of steps. -/
import Derived.Test.YtdkpgjhjdnfieaaAf
set_option linter.unusedVariables false
set_option linter.unusedSimpArgs false
namespace Go.Proofs.Ytdkpgjhjdnfieaa
open Go.RowKit Go.Mf
set_option maxRecDepth 100000

def FewPost (w : World) (l : List StepD) : Ending → World → Prop := fun e w' => ∃ b : Bool, e = .returned (.bool b) ∧ w' = w ∧ (b = true → l.length ≤ 60 ∧ ∀ s ∈ l, s.m.ents.length ≤ 3)

theorem step_slices {w : World} {S : Nat → Prop} {b p : Nat} {s : StepD} (h : StepIn w S b p s) : ∃ a1 c1 a2 n2 c2, w.cell? ⟨b, p + 14, none⟩ = some (.slice a1 s.m.ents.length c1) ∧ w.cell? ⟨b, p + 37, none⟩ = some (.slice a2 n2 c2) ∧ n2 ≤ 140737488355328 ∧ s.m.ents.length * 576 ≤ 140737488355328 := by
  obtain ⟨_, _, _, _, _, _, _, _, cs, h1, ⟨_, _, _, v1, v2, h2, h3, h4, h5⟩, _, _⟩ := h
  obtain ⟨a1, c1, css, rfl, hb, _⟩ := h4
  obtain ⟨a2, c2, rfl, _, _, h6, _⟩ := h5
  exact ⟨a1, c1, a2, _, c2, h1 10 _ h2, h1 33 _ h3, h6, hb⟩

set_option maxHeartbeats 1000000 in
theorem few_any (w : World) (S : Nat → Prop) (v : Value) (l : List StepD) (hl : StepsIn w S v l) : Calls Try.prog 10 #[v] w (FewPost w l) := by
  obtain ⟨av, cv, rfl, hlen, hrows⟩ := hl
  have HR := Lib.hid hrows
  obtain ⟨len, hlenv⟩ : ∃ len, l.length = len := ⟨_, rfl⟩
  have HLEN := Lib.hid hlenv
  rw [hlenv] at hlen ⊢
  clear hlenv hrows
  go_enter Try.func10, Try.ntmps10
  go_wp2
  go_loop [3] (fun i => ∃ k : Nat, k ≤ len ∧ i = .int .i64 k ∧ Hid (∀ j s, j < k → l[j]? = some s → s.m.ents.length ≤ 3)) (fun i => len - (intOf i).toNat)
  case atStart => exact ⟨0, by omega, rfl, fun j s h => by omega⟩
  case round =>
    obtain ⟨k, hk, rfl, hst⟩ := hrel
    by_cases hkn : k < len
    · obtain ⟨ba, oa, rfl, _, hcells⟩ := HR.out (by intro e; have := HLEN.out; rw [e] at this; simp at this; omega)
      obtain ⟨s, hs⟩ : ∃ s, l[k]? = some s := ⟨l[k]'(by have := HLEN.out; omega), List.getElem?_eq_getElem _⟩
      obtain ⟨a1, c1, a2, n2, c2, e1, e2, b2, b1⟩ := step_slices (hcells k s hs)
      obtain ⟨n1, hn1⟩ : ∃ n1, s.m.ents.length = n1 := ⟨_, rfl⟩
      rw [hn1] at e1 b1
      have HS := Lib.hid hs
      have HN1 := Lib.hid hn1
      clear hcells hs hn1
      by_cases h3 : 3 < n1
      · have h3' : decide ((3 : Int) < (n1 : Int)) = true := by simp; omega
        go_wp2
        go_ret
        exact ⟨false, rfl, rfl, fun h => by cases h⟩
      · have h3' : decide ((3 : Int) < (n1 : Int)) = false := by simp; omega
        by_cases h10 : 10 < n2
        · have h10' : decide ((10 : Int) < (n2 : Int)) = true := by simp; omega
          go_wp2
          go_ret
          exact ⟨false, rfl, rfl, fun h => by cases h⟩
        · have h10' : decide ((10 : Int) < (n2 : Int)) = false := by simp; omega
          go_wp2
          go_round
          case rel =>
            refine ⟨k + 1, by omega, by go_num, fun j s' hj hs' => ?_⟩
            by_cases e : j = k
            · subst e; rw [HS.out] at hs'; cases hs'; rw [HN1.out]; omega
            · exact hst.out j s' (by omega) hs'
          case measure => simp [intOf]; omega
    · have hk2 : k = len := by omega
      have HK := Lib.hid hk2
      clear hk2
      by_cases h60 : len ≤ 60
      · have h60' : decide ((len : Int) ≤ 60) = true := by simp; omega
        have HX : Hid (l.length ≤ 60 ∧ ∀ s ∈ l, s.m.ents.length ≤ 3) := ⟨by rw [HLEN.out]; exact h60, fun s hs => by
          obtain ⟨j, hj, e⟩ := List.getElem_of_mem hs
          exact hst.out j s (by rw [HK.out, ← HLEN.out]; exact hj) (by rw [← e]; exact List.getElem?_eq_getElem _)⟩
        go_wp2
        go_ret
        exact ⟨true, rfl, rfl, fun _ => HX.out⟩
      · have h60' : decide ((len : Int) ≤ 60) = false := by simp; omega
        go_wp2
        go_ret
        exact ⟨false, rfl, rfl, fun h => by cases h⟩
end Go.Proofs.Ytdkpgjhjdnfieaa
