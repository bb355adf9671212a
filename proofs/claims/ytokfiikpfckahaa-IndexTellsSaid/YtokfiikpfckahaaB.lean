/- The contracts of part and Letter. No condition. -/
import Derived.Test.YtokfiikpfckahaaA
set_option linter.unusedVariables false
set_option linter.unusedSimpArgs false
namespace Go.Proofs.Ytokfiikpfckahaa
open Go.RowKit
set_option maxRecDepth 100000

def partI (n : Int) : Bool := decide (97 ≤ n ∧ n ≤ 122 ∨ 65 ≤ n ∧ n ≤ 90 ∨ 48 ≤ n ∧ n ≤ 57)

set_option maxHeartbeats 1000000 in
theorem part_any (n : Int) (w : World) : Calls Try.prog 24 #[.int .u8 n] w fun e w' => e = .returned (.bool (partI n)) ∧ w' = w := by
  have hcase : (97 ≤ n ∧ n ≤ 122) ∨ (122 < n) ∨ (90 < n ∧ n < 97) ∨ (65 ≤ n ∧ n ≤ 90) ∨ (57 < n ∧ n < 65) ∨ (48 ≤ n ∧ n ≤ 57) ∨ n < 48 := by omega
  rcases hcase with ⟨h1, h2⟩ | h1 | ⟨h1, h2⟩ | ⟨h1, h2⟩ | ⟨h1, h2⟩ | ⟨h1, h2⟩ | h1
  · have hp : partI n = true := by unfold partI; simp; omega
    rw [hp]
    go_enter Try.func24, Try.ntmps24
    go_wp2
    go_ret
    exact ⟨rfl, rfl⟩
  · have hp : partI n = false := by unfold partI; simp; omega
    have a1 : 97 ≤ n := by omega
    have a2 : decide (n ≤ 122) = false := by simp; omega
    have a3 : 65 ≤ n := by omega
    have a4 : decide (n ≤ 90) = false := by simp; omega
    have a5 : 48 ≤ n := by omega
    have a6 : decide (n ≤ 57) = false := by simp; omega
    rw [hp]
    go_enter Try.func24, Try.ntmps24
    go_wp2
    go_ret
    exact ⟨rfl, rfl⟩
  · have hp : partI n = false := by unfold partI; simp; omega
    have a1 : decide (97 ≤ n) = false := by simp; omega
    have a3 : 65 ≤ n := by omega
    have a4 : decide (n ≤ 90) = false := by simp; omega
    have a5 : 48 ≤ n := by omega
    have a6 : decide (n ≤ 57) = false := by simp; omega
    rw [hp]
    go_enter Try.func24, Try.ntmps24
    go_wp2
    go_ret
    exact ⟨rfl, rfl⟩
  · have hp : partI n = true := by unfold partI; simp; omega
    have a1 : decide (97 ≤ n) = false := by simp; omega
    rw [hp]
    go_enter Try.func24, Try.ntmps24
    go_wp2
    go_ret
    exact ⟨rfl, rfl⟩
  · have hp : partI n = false := by unfold partI; simp; omega
    have a1 : decide (97 ≤ n) = false := by simp; omega
    have a3 : decide (65 ≤ n) = false := by simp; omega
    have a5 : 48 ≤ n := by omega
    have a6 : decide (n ≤ 57) = false := by simp; omega
    rw [hp]
    go_enter Try.func24, Try.ntmps24
    go_wp2
    go_ret
    exact ⟨rfl, rfl⟩
  · have hp : partI n = true := by unfold partI; simp; omega
    have a1 : decide (97 ≤ n) = false := by simp; omega
    have a3 : decide (65 ≤ n) = false := by simp; omega
    rw [hp]
    go_enter Try.func24, Try.ntmps24
    go_wp2
    go_ret
    exact ⟨rfl, rfl⟩
  · have hp : partI n = false := by unfold partI; simp; omega
    have a1 : decide (97 ≤ n) = false := by simp; omega
    have a3 : decide (65 ≤ n) = false := by simp; omega
    have a5 : decide (48 ≤ n) = false := by simp; omega
    rw [hp]
    go_enter Try.func24, Try.ntmps24
    go_wp2
    go_ret
    exact ⟨rfl, rfl⟩

/-- the reference's letter of a byte -/
def letI' (n : Int) : Int := if 97 ≤ n ∧ n ≤ 122 ∨ 48 ≤ n ∧ n ≤ 57 then n else if 65 ≤ n ∧ n ≤ 90 then n + 32 else 0

set_option maxHeartbeats 1000000 in
theorem letter_any (n : Int) (h0 : 0 ≤ n) (h255 : n ≤ 255) (w : World) : Calls Try.prog 12 #[.int .u8 n] w fun e w' => e = .returned (.int .u8 (letI' n)) ∧ w' = w := by
  have hcase : (97 ≤ n ∧ n ≤ 122) ∨ (122 < n) ∨ (90 < n ∧ n < 97) ∨ (65 ≤ n ∧ n ≤ 90) ∨ (57 < n ∧ n < 65) ∨ (48 ≤ n ∧ n ≤ 57) ∨ n < 48 := by omega
  rcases hcase with ⟨h1, h2⟩ | h1 | ⟨h1, h2⟩ | ⟨h1, h2⟩ | ⟨h1, h2⟩ | ⟨h1, h2⟩ | h1
  · have hp : letI' n = n := by unfold letI'; split <;> (try split) <;> omega
    have a0 : 97 ≤ n := by omega
    have a1 : n ≤ 122 := by omega
    rw [hp]
    go_enter Try.func12, Try.ntmps12
    go_wp2
    go_ret
    exact ⟨rfl, rfl⟩
  · have hp : letI' n = 0 := by unfold letI'; split <;> (try split) <;> omega
    have a0 : 97 ≤ n := by omega
    have a1 : decide (n ≤ 122) = false := by simp; omega
    have a2 : 48 ≤ n := by omega
    have a3 : decide (n ≤ 57) = false := by simp; omega
    have a4 : 65 ≤ n := by omega
    have a5 : decide (n ≤ 90) = false := by simp; omega
    rw [hp]
    go_enter Try.func12, Try.ntmps12
    go_wp2
    go_ret
    exact ⟨rfl, rfl⟩
  · have hp : letI' n = 0 := by unfold letI'; split <;> (try split) <;> omega
    have a0 : decide (97 ≤ n) = false := by simp; omega
    have a1 : 48 ≤ n := by omega
    have a2 : decide (n ≤ 57) = false := by simp; omega
    have a3 : 65 ≤ n := by omega
    have a4 : decide (n ≤ 90) = false := by simp; omega
    rw [hp]
    go_enter Try.func12, Try.ntmps12
    go_wp2
    go_ret
    exact ⟨rfl, rfl⟩
  · have hp : letI' n = n + 32 := by unfold letI'; split <;> (try split) <;> omega
    have a0 : decide (97 ≤ n) = false := by simp; omega
    have a1 : 48 ≤ n := by omega
    have a2 : decide (n ≤ 57) = false := by simp; omega
    have a3 : 65 ≤ n := by omega
    have a4 : n ≤ 90 := by omega
    rw [hp]
    go_enter Try.func12, Try.ntmps12
    go_wp2
    go_ret
    refine ⟨?_, rfl⟩
    show Ending.returned (.int .u8 (n - 65 + 97)) = _
    rw [show n - 65 + 97 = n + 32 by omega]
  · have hp : letI' n = 0 := by unfold letI'; split <;> (try split) <;> omega
    have a0 : decide (97 ≤ n) = false := by simp; omega
    have a1 : 48 ≤ n := by omega
    have a2 : decide (n ≤ 57) = false := by simp; omega
    have a3 : decide (65 ≤ n) = false := by simp; omega
    rw [hp]
    go_enter Try.func12, Try.ntmps12
    go_wp2
    go_ret
    exact ⟨rfl, rfl⟩
  · have hp : letI' n = n := by unfold letI'; split <;> (try split) <;> omega
    have a0 : decide (97 ≤ n) = false := by simp; omega
    have a1 : 48 ≤ n := by omega
    have a2 : n ≤ 57 := by omega
    rw [hp]
    go_enter Try.func12, Try.ntmps12
    go_wp2
    go_ret
    exact ⟨rfl, rfl⟩
  · have hp : letI' n = 0 := by unfold letI'; split <;> (try split) <;> omega
    have a0 : decide (97 ≤ n) = false := by simp; omega
    have a1 : decide (48 ≤ n) = false := by simp; omega
    have a2 : decide (65 ≤ n) = false := by simp; omega
    rw [hp]
    go_enter Try.func12, Try.ntmps12
    go_wp2
    go_ret
    exact ⟨rfl, rfl⟩
end Go.Proofs.Ytokfiikpfckahaa
