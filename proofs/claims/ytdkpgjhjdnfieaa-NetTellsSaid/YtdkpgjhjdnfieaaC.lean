/- The contracts of the queue's small functions, of Clone at nil, of link, and of a receipt's copy. Condition: the cells lie in memory as stated. -/
import Derived.Test.YtdkpgjhjdnfieaaB
set_option linter.unusedVariables false
set_option linter.unusedSimpArgs false
namespace Go.Proofs.Ytdkpgjhjdnfieaa
open Go.RowKit Go.Mf

theorem below_drewN {B : Nat} {a w : World} (h : Below B a w) (n : Nat) : Below B a (w.drewN n) := ⟨h.os, h.tape, h.output, h.size, h.block⟩

set_option maxRecDepth 100000

theorem und33 : Try.prog.underlying 33 = some (.slice 96) := by kernel_rfl
theorem und38 : Try.prog.underlying 38 = some (.slice 9) := by kernel_rfl

theorem cloneE_nil (w : World) : Calls Try.prog 48 #[.slice none 0 0] w fun e w' => e = .returned (.slice none 0 0) ∧ w' = w := by
  have q33 : ∀ (w : World) (a : Option Addr) (n c n' c' : Nat), (binOp .eql 33 (.slice a n c) (.slice none n' c')).run Try.prog w = .ok (.bool a.isNone) w := fun w a n c n' c' => Lib.run_eql_slice_nil w _ _ a n c n' c' und33
  go_enter Try.func48, Try.ntmps48
  go_wp2
  go_ret
  exact ⟨rfl, rfl⟩
theorem cloneS_nil (w : World) : Calls Try.prog 50 #[.slice none 0 0] w fun e w' => e = .returned (.slice none 0 0) ∧ w' = w := by
  have q38 : ∀ (w : World) (a : Option Addr) (n c n' c' : Nat), (binOp .eql 38 (.slice a n c) (.slice none n' c')).run Try.prog w = .ok (.bool a.isNone) w := fun w a n c n' c' => Lib.run_eql_slice_nil w _ _ a n c n' c' und38
  go_enter Try.func50, Try.ntmps50
  go_wp2
  go_ret
  exact ⟨rfl, rfl⟩

def rcpt (a b n : Int) : List Value := [.int .i64 1, .int .i64 a, .int .i64 b, .int .i64 0, .int .i64 0, .string ⟨#[]⟩, .int .i64 0, .int .i64 0, .int .i64 0, .int .i64 0, .slice none 0 0, .int .i64 a, .int .i64 0, .int .i64 n, .string ⟨#[]⟩,
  .int .i64 0, .int .i64 0, .int .i64 0, .int .i64 0, .int .i64 0, .int .i64 0, .int .i64 0, .string ⟨#[]⟩, .int .i64 0, .int .i64 0, .int .i64 0, .int .i64 0, .int .i64 0, .string ⟨#[]⟩, .int .i64 0, .int .i64 0, .int .i64 0, .string ⟨#[]⟩, .slice none 0 0]

theorem full_any (w : World) (k o n c : Nat) (a : Option Addr) (h : w.cell? ⟨k, o, none⟩ = some (.slice a n c)) : Calls Try.prog 36 #[.pointer (some ⟨k, o, none⟩)] w fun e w' => e = .returned (.bool (decide (1024 ≤ n))) ∧ w' = w := by
  go_enter Try.func36, Try.ntmps36
  by_cases hn : 1024 ≤ n
  · have h1 : decide (1024 ≤ n) = true := by simpa using hn
    have h2 : decide ((1024 : Int) ≤ (n : Int)) = true := by simp; omega
    rw [h1]
    go_wp2
    go_ret
    exact ⟨rfl, rfl⟩
  · have h1 : decide (1024 ≤ n) = false := by simpa using hn
    have h2 : decide ((1024 : Int) ≤ (n : Int)) = false := by simp; omega
    rw [h1]
    go_wp2
    go_ret
    exact ⟨rfl, rfl⟩

theorem has_any (w : World) (k o n c : Nat) (i : Int) (a : Option Addr) (h : w.cell? ⟨k, o, none⟩ = some (.slice a n c)) : Calls Try.prog 40 #[.pointer (some ⟨k, o, none⟩), .int .i64 i] w fun e w' => e = .returned (.bool (decide (0 ≤ i) && decide (i < n))) ∧ w' = w := by
  go_enter Try.func40, Try.ntmps40
  by_cases h0 : 0 ≤ i
  · have h1 : decide (0 ≤ i) = true := by simpa using h0
    by_cases hn : i < n
    · have h2 : decide (i < (n : Int)) = true := by simpa using hn
      rw [h1, h2]
      go_wp2
      go_ret
      exact ⟨rfl, rfl⟩
    · have h2 : decide (i < (n : Int)) = false := by simpa using hn
      rw [h1, h2]
      go_wp2
      go_ret
      exact ⟨rfl, rfl⟩
  · have h1 : decide (0 ≤ i) = false := by simpa using h0
    rw [h1]
    go_wp2
    go_ret
    exact ⟨rfl, rfl⟩
end Go.Proofs.Ytdkpgjhjdnfieaa
