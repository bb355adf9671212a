/- The contracts of num.Clamp and of outbox.time: they return the clamped number and leave the world alone. For every input. -/
import Derived.Test.YthbnnifkoomokaaRows
import Derived.WalkKit
import Derived.WalkSpells
import Derived.WalkLawsBesides
set_option linter.unusedVariables false
set_option linter.unusedSimpArgs false
namespace Go.Proofs.Ythbnnifkoomokaa
open Go.RowKit

def clamp (x lo hi : Int) : Int := if x < lo then lo else if hi < x then hi else x

set_option maxHeartbeats 400000 in
theorem clamp_any (x lo hi : Int) (w : World) :
    Calls Try.prog 20 #[.int .i64 x, .int .i64 lo, .int .i64 hi] w fun e w' => e = .returned (.int .i64 (clamp x lo hi)) ∧ w = w' := by
  by_cases h1 : x < lo
  · have hf : clamp x lo hi = lo := by simp [clamp, h1]
    rw [hf]; clear hf
    go_enter Try.func20, Try.ntmps20
    go_wp2
    go_ret
    exact ⟨rfl, rfl⟩
  · by_cases h2 : hi < x
    · have hf : clamp x lo hi = hi := by simp [clamp, h1, h2]
      rw [hf]; clear hf
      go_enter Try.func20, Try.ntmps20
      go_wp2
      go_ret
      exact ⟨rfl, rfl⟩
    · have hf : clamp x lo hi = x := by simp [clamp, h1, h2]
      rw [hf]; clear hf
      go_enter Try.func20, Try.ntmps20
      go_wp2
      go_ret
      exact ⟨rfl, rfl⟩

set_option maxHeartbeats 400000 in
theorem time_any (x : Int) (w : World) :
    Calls Try.prog 18 #[.int .i64 x] w fun e w' => e = .returned (.int .i64 (clamp x 0 1099511627776)) ∧ w = w' := by
  go_enter Try.func18, Try.ntmps18
  go_wp2_with (go_at_call 20; refine (clamp_any _ _ _ _).mono ?_; rintro e w' ⟨rfl, rfl⟩)
  go_ret
  exact ⟨rfl, rfl⟩

end Go.Proofs.Ythbnnifkoomokaa
