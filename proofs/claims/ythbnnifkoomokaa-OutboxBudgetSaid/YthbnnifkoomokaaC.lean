/- The contract of Ack where it returns false. Condition: the box lies in memory as stated. -/
import Derived.Test.YthbnnifkoomokaaB
set_option linter.unusedVariables false
set_option linter.unusedSimpArgs false
namespace Go.Proofs.Ythbnnifkoomokaa
open Go.RowKit Go.Mf

set_option maxHeartbeats 400000 in
theorem ack_no1 (w : World) (b bp : Nat) (k l size now : Int) (hc : w.cell? ⟨b,3,none⟩ = some (.map (some bp))) (hbw : b < w.heap.size)
   (hl : (Instr.lookup 47 (.map (some bp)) (.int .i64 k) true).run Try.prog w = .ok (.tuple #[.pointer none, .bool false]) w) :
   Calls Try.prog 13 #[.pointer (some ⟨b,0,none⟩), .int .i64 k, .int .i64 l, .int .i64 size, .int .i64 now] w fun e w' => e = .returned (.bool false) ∧ ∃ o n, w' = (w.alloc o).drewN n := by
  go_enter Try.func13, Try.ntmps13
  go_wp2
  go_quiet (fail)
  go_wp2
  go_ret
  exact ⟨rfl, _, _, rfl⟩

set_option maxHeartbeats 400000 in
theorem ack_no (w : World) (b bp bs pb : Nat) (k l size now n s : Int) (hc : w.cell? ⟨b,3,none⟩ = some (.map (some bp))) (hbw : b < w.heap.size)
   (hn : w.cell? ⟨b,1,none⟩ = some (.int .i64 n)) (hsb : w.cell? ⟨b,4,none⟩ = some (.map (some bs)))
   (hl : (Instr.lookup 47 (.map (some bp)) (.int .i64 k) true).run Try.prog w = .ok (.tuple #[.pointer (some ⟨pb, 0, none⟩), .bool true]) w)
   (hls : ∀ m, (Instr.lookup 48 (.map (some bs)) (.agg #[.int .i64 k, .int .i64 l]) false).run Try.prog ((w.alloc (.cells #[.int .i64 k, .int .i64 l] 55)).drewN m) = .ok (.int .i64 s) ((w.alloc (.cells #[.int .i64 k, .int .i64 l] 55)).drewN m))
   (h : l < 0 ∨ n ≤ l ∨ l = k ∨ size ≤ s) :
   Calls Try.prog 13 #[.pointer (some ⟨b,0,none⟩), .int .i64 k, .int .i64 l, .int .i64 size, .int .i64 now] w fun e w' => e = .returned (.bool false) ∧ ∃ o n, w' = (w.alloc o).drewN n := by
  by_cases h1 : l < 0
  · clear h
    go_enter Try.func13, Try.ntmps13
    go_wp2
    go_quiet (fail)
    go_wp2
    go_ret
    exact ⟨rfl, _, _, rfl⟩
  · have h1' : decide (l < 0) = false := by simpa using h1
    by_cases h2 : n ≤ l
    · clear h
      go_enter Try.func13, Try.ntmps13
      go_wp2
      go_quiet (fail)
      go_wp2
      go_ret
      exact ⟨rfl, _, _, rfl⟩
    · have h2' : decide (n ≤ l) = false := by simpa using h2
      by_cases h3 : l = k
      · clear h
        have h3' : (l == k) = true := by simpa using h3
        clear h3
        go_enter Try.func13, Try.ntmps13
        go_wp2
        go_quiet (fail)
        go_wp2
        go_ret
        exact ⟨rfl, _, _, rfl⟩
      · have h3' : (l == k) = false := by simpa using h3
        have h4 : size ≤ s := by omega
        clear h h3
        go_enter Try.func13, Try.ntmps13
        go_wp2
        go_quiet (fail)
        go_wp2
        go_ret
        exact ⟨rfl, _, _, rfl⟩
end Go.Proofs.Ythbnnifkoomokaa
