/- Structs of ints and strings: one that is compared with itself is equal to itself. No condition. -/
import Derived.Test.YtdkpgjhjdnfieaaAl
set_option linter.unusedVariables false
set_option linter.unusedSimpArgs false
namespace Go.Proofs.Ytdkpgjhjdnfieaa
open Go.RowKit Go.Mf
set_option maxRecDepth 100000

def IK : CK := .int .i64

theorem size30 : (Try.prog.info? 30).map (·.size) = some 2 := by kernel_rfl
theorem stood30 : Try.prog.stoodInHeld 30 = false := by kernel_rfl
theorem eqg30 : Try.prog.eqGuardType Try.prog.depth 30 = false := by kernel_rfl
theorem eql30 (w : World) (a0 : Int) (a1 : Int) : (Op.equalIn 10000 30 (.agg #[.int .i64 a0, .int .i64 a1]) (.agg #[.int .i64 a0, .int .i64 a1])).run Try.prog w = .ok true w := by
  go_simp

theorem size83 : (Try.prog.info? 83).map (·.size) = some 3 := by kernel_rfl
theorem stood83 : Try.prog.stoodInHeld 83 = false := by kernel_rfl
theorem eqg83 : Try.prog.eqGuardType Try.prog.depth 83 = false := by kernel_rfl
theorem eql83 (w : World) (a0 : ByteArray) (a1 : ByteArray) (a2 : ByteArray) : (Op.equalIn 10000 83 (.agg #[.string a0, .string a1, .string a2]) (.agg #[.string a0, .string a1, .string a2])).run Try.prog w = .ok true w := by
  go_simp

theorem size99 : (Try.prog.info? 99).map (·.size) = some 5 := by kernel_rfl
theorem stood99 : Try.prog.stoodInHeld 99 = false := by kernel_rfl
theorem eqg99 : Try.prog.eqGuardType Try.prog.depth 99 = false := by kernel_rfl
theorem eql99 (w : World) (a0 : Int) (a1 : Int) (a2 : ByteArray) (a3 : ByteArray) (a4 : ByteArray) : (Op.equalIn 10000 99 (.agg #[.int .i64 a0, .int .i64 a1, .string a2, .string a3, .string a4]) (.agg #[.int .i64 a0, .int .i64 a1, .string a2, .string a3, .string a4])).run Try.prog w = .ok true w := by
  go_simp

theorem size32 : (Try.prog.info? 32).map (·.size) = some 6 := by kernel_rfl
theorem stood32 : Try.prog.stoodInHeld 32 = false := by kernel_rfl
theorem eqg32 : Try.prog.eqGuardType Try.prog.depth 32 = false := by kernel_rfl
theorem eql32 (w : World) (a0 : Int) (a1 : Int) (a2 : ByteArray) (a3 : Int) (a4 : Int) (a5 : Int) : (Op.equalIn 10000 32 (.agg #[.int .i64 a0, .int .i64 a1, .string a2, .int .i64 a3, .int .i64 a4, .int .i64 a5]) (.agg #[.int .i64 a0, .int .i64 a1, .string a2, .int .i64 a3, .int .i64 a4, .int .i64 a5])).run Try.prog w = .ok true w := by
  go_simp

theorem size37 : (Try.prog.info? 37).map (·.size) = some 9 := by kernel_rfl
theorem stood37 : Try.prog.stoodInHeld 37 = false := by kernel_rfl
theorem eqg37 : Try.prog.eqGuardType Try.prog.depth 37 = false := by kernel_rfl
theorem eql37 (w : World) (a0 : Int) (a1 : Int) (a2 : Int) (a3 : ByteArray) (a4 : Int) (a5 : Int) (a6 : Int) (a7 : Int) (a8 : Int) : (Op.equalIn 10000 37 (.agg #[.int .i64 a0, .int .i64 a1, .int .i64 a2, .string a3, .int .i64 a4, .int .i64 a5, .int .i64 a6, .int .i64 a7, .int .i64 a8]) (.agg #[.int .i64 a0, .int .i64 a1, .int .i64 a2, .string a3, .int .i64 a4, .int .i64 a5, .int .i64 a6, .int .i64 a7, .int .i64 a8])).run Try.prog w = .ok true w := by
  go_simp

theorem size88 : (Try.prog.info? 88).map (·.size) = some 9 := by kernel_rfl
theorem stood88 : Try.prog.stoodInHeld 88 = false := by kernel_rfl
theorem eqg88 : Try.prog.eqGuardType Try.prog.depth 88 = false := by kernel_rfl
theorem eql88 (w : World) (a0 : ByteArray) (a1 : Int) (a2 : ByteArray) (a3 : Int) (a4 : Int) (a5 : Int) (a6 : Int) (a7 : Int) (a8 : Int) : (Op.equalIn 10000 88 (.agg #[.string a0, .int .i64 a1, .string a2, .int .i64 a3, .int .i64 a4, .int .i64 a5, .int .i64 a6, .int .i64 a7, .int .i64 a8]) (.agg #[.string a0, .int .i64 a1, .string a2, .int .i64 a3, .int .i64 a4, .int .i64 a5, .int .i64 a6, .int .i64 a7, .int .i64 a8])).run Try.prog w = .ok true w := by
  go_simp

theorem size90 : (Try.prog.info? 90).map (·.size) = some 7 := by kernel_rfl
theorem stood90 : Try.prog.stoodInHeld 90 = false := by kernel_rfl
theorem eqg90 : Try.prog.eqGuardType Try.prog.depth 90 = false := by kernel_rfl
theorem eql90 (w : World) (a0 : Int) (a1 : ByteArray) (a2 : Int) (a3 : ByteArray) (a4 : Int) (a5 : Int) (a6 : Int) : (Op.equalIn 10000 90 (.agg #[.int .i64 a0, .string a1, .int .i64 a2, .string a3, .int .i64 a4, .int .i64 a5, .int .i64 a6]) (.agg #[.int .i64 a0, .string a1, .int .i64 a2, .string a3, .int .i64 a4, .int .i64 a5, .int .i64 a6])).run Try.prog w = .ok true w := by
  go_simp
end Go.Proofs.Ytdkpgjhjdnfieaa
