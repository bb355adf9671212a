/- How a message that lies in a block of its own is handed back. No condition. -/
import Derived.Test.YtdkpgjhjdnfieaaF
import Derived.Laws.Rows
set_option linter.unusedVariables false
set_option linter.unusedSimpArgs false
namespace Go.Proofs.Ytdkpgjhjdnfieaa
open Go.RowKit Go.Mf

set_option maxRecDepth 100000 in
theorem und42 : ∃ fs, Try.prog.underlying 42 = some (.struct fs) := ⟨_, rfl⟩
theorem size42 : (Try.prog.info? 42).map (·.size) = some 34 := by kernel_rfl
theorem loadMsg (w : World) (g : Nat) (cs : Array Value) (t : TypeId) (fr : Nat × Nat) (hg : w.heap[g]? = some (.cells cs t fr)) (hs : cs.size = 34) : (loadVar 42 ⟨g, 0, none⟩).run Try.prog w = .ok (.agg cs) w := by
  obtain ⟨fs, hu⟩ := und42
  exact run_loadVar_row w g t 42 cs fr _ hg hu rfl (by rw [size42, hs])
theorem results_msg {fn : Func} {k : Tmp} (h : fn.results = #[.cell k 42]) (tmps : Array Value) (w : World) (g : Nat) (cs : Array Value) (t : TypeId) (fr : Nat × Nat) (hk : tmps.getD k undef = .pointer (some ⟨g, 0, none⟩)) (hg : w.heap[g]? = some (.cells cs t fr)) (hs : cs.size = 34) :
    (results fn tmps).run Try.prog w = .ok (.agg cs) w := by
  have hl := loadMsg w g cs t fr hg hs
  have hk2 : tmps[k]?.getD undef = .pointer (some ⟨g, 0, none⟩) := by rw [← hk]; simp
  simp [results, h, hk2, asAddr, hl, Sem.run_bind, Result.andThen]
end Go.Proofs.Ytdkpgjhjdnfieaa
