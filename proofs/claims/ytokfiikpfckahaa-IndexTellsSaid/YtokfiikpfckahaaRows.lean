/-
  No cell of these rows narrows 'for every input' (looked for: loops, veiled, ifaces, maps, wideKeys, modest, calm, conditions, laid).
  DERIVED. THE GIVEN ROWS OF THIS SEAT. 5 by the template 'for every input the law returns true; each argument reads behind the call as it read before'; 0 by the template 'total and deterministic' (their statements: YtokfiikpfckahaaTotals.lean).
  GIVEN WITH THE SEED: the statements are not yours to turn. If you find one false, say at which input.
  Laid BY PROGRAM, IN A SANDBOX (cutbox-rows.mjs): the forced cells as the released guide's own fill.sh prints them over the translation d2189d3890b6eff3… (all of the seat's roots in one cut). By AI agents, Wed Nov 11 2026. No macro, syntax, notation, axiom, sorry.
-/
import Derived.Test.YtokfiikpfckahaaChecked
import GoSem.Claim
import GoSem.ClaimJoined
import GoSem.ClaimMapViews
import Derived.JoinedTies
import Derived.KernelRfl
namespace Go.Proofs.Ytokfiikpfckahaa
/- THE CELL 'sum', in the pinned program and in every row, IS THE sha256 OF THE DUMP (.gsa) THAT YtokfiikpfckahaaProg.lean LOADS. Nothing in Lean hashes anything: it is a label: what it is worth is what the hold of that sum in a sandbox is worth. -/
noncomputable def Try.pinned : Pinned := { name := "ytokfiikpfckahaa", sum := "d2189d3890b6eff32812074e6acd0d2c13619f03cbc569bd9e8cd9f72ae7b1f1", checked := Try.checked }
namespace Rows
def none {H : Type} : Left H := { results := [], args := [] }

/-- 'agoralaw44.IndexWords': WHATEVER THE INPUT: true; the input reads as it did. -/
def indexWordsSpec : ChangeSpec := { name := "indexWords", fn := fun _ => fun
  | [d1, d2] => { results := [.lit (.bool true)], args := [d1, d2] }
  | _ => none }
def indexWordsRow : OpenClaim := { program := "ytokfiikpfckahaa", sum := "d2189d3890b6eff32812074e6acd0d2c13619f03cbc569bd9e8cd9f72ae7b1f1", func := "agora/agoralaw44.IndexWords", spec := "indexWords", inPlace := ["internal/abi.NoEscape"], unfollowed := true, recurses := true, apart := false }
def IndexWordsSaid : Prop := indexWordsRow.holds Try.pinned (OpenSpec.ofChange indexWordsSpec)

/-- ITS FALSE NEIGHBOUR: 'it returns false'. Refute it at one input. -/
def indexWordsWrong : ChangeSpec := { name := "indexWords", fn := fun _ => fun
  | [d1, d2] => { results := [.lit (.bool false)], args := [d1, d2] }
  | _ => none }
def IndexWordsWrongFalsely : Prop := indexWordsRow.holds Try.pinned (OpenSpec.ofChange indexWordsWrong)

/-- 'agoralaw44.IndexTells': WHATEVER THE INPUT: true; the input reads as it did. -/
def indexTellsSpec : ChangeSpec := { name := "indexTells", fn := fun _ => fun
  | [d] => { results := [.lit (.bool true)], args := [d] }
  | _ => none }
def indexTellsRow : OpenClaim := { program := "ytokfiikpfckahaa", sum := "d2189d3890b6eff32812074e6acd0d2c13619f03cbc569bd9e8cd9f72ae7b1f1", func := "agora/agoralaw44.IndexTells", spec := "indexTells", inPlace := ["internal/abi.NoEscape"], unfollowed := true, recurses := true, apart := false }
def IndexTellsSaid : Prop := indexTellsRow.holds Try.pinned (OpenSpec.ofChange indexTellsSpec)

/-- ITS FALSE NEIGHBOUR: 'it returns false'. Refute it at one input. -/
def indexTellsWrong : ChangeSpec := { name := "indexTells", fn := fun _ => fun
  | [d] => { results := [.lit (.bool false)], args := [d] }
  | _ => none }
def IndexTellsWrongFalsely : Prop := indexTellsRow.holds Try.pinned (OpenSpec.ofChange indexTellsWrong)

/-- 'agoralaw44.IndexForgets': WHATEVER THE INPUT: true; the input reads as it did. -/
def indexForgetsSpec : ChangeSpec := { name := "indexForgets", fn := fun _ => fun
  | [d1, d2, d3] => { results := [.lit (.bool true)], args := [d1, d2, d3] }
  | _ => none }
def indexForgetsRow : OpenClaim := { program := "ytokfiikpfckahaa", sum := "d2189d3890b6eff32812074e6acd0d2c13619f03cbc569bd9e8cd9f72ae7b1f1", func := "agora/agoralaw44.IndexForgets", spec := "indexForgets", inPlace := ["internal/abi.NoEscape"], unfollowed := true, recurses := true, apart := false }
def IndexForgetsSaid : Prop := indexForgetsRow.holds Try.pinned (OpenSpec.ofChange indexForgetsSpec)

/-- ITS FALSE NEIGHBOUR: 'it returns false'. Refute it at one input. -/
def indexForgetsWrong : ChangeSpec := { name := "indexForgets", fn := fun _ => fun
  | [d1, d2, d3] => { results := [.lit (.bool false)], args := [d1, d2, d3] }
  | _ => none }
def IndexForgetsWrongFalsely : Prop := indexForgetsRow.holds Try.pinned (OpenSpec.ofChange indexForgetsWrong)

/-- 'agoralaw44.IndexMeets': WHATEVER THE INPUT: true; the input reads as it did. -/
def indexMeetsSpec : ChangeSpec := { name := "indexMeets", fn := fun _ => fun
  | [d1, d2, d3] => { results := [.lit (.bool true)], args := [d1, d2, d3] }
  | _ => none }
def indexMeetsRow : OpenClaim := { program := "ytokfiikpfckahaa", sum := "d2189d3890b6eff32812074e6acd0d2c13619f03cbc569bd9e8cd9f72ae7b1f1", func := "agora/agoralaw44.IndexMeets", spec := "indexMeets", inPlace := ["internal/abi.NoEscape"], unfollowed := true, recurses := true, apart := false }
def IndexMeetsSaid : Prop := indexMeetsRow.holds Try.pinned (OpenSpec.ofChange indexMeetsSpec)

/-- ITS FALSE NEIGHBOUR: 'it returns false'. Refute it at one input. -/
def indexMeetsWrong : ChangeSpec := { name := "indexMeets", fn := fun _ => fun
  | [d1, d2, d3] => { results := [.lit (.bool false)], args := [d1, d2, d3] }
  | _ => none }
def IndexMeetsWrongFalsely : Prop := indexMeetsRow.holds Try.pinned (OpenSpec.ofChange indexMeetsWrong)

/-- 'agoralaw44.IndexCases': WHATEVER THE INPUT: true; the input reads as it did. -/
def indexCasesSpec : ChangeSpec := { name := "indexCases", fn := fun _ => fun
  | [d1, d2] => { results := [.lit (.bool true)], args := [d1, d2] }
  | _ => none }
def indexCasesRow : OpenClaim := { program := "ytokfiikpfckahaa", sum := "d2189d3890b6eff32812074e6acd0d2c13619f03cbc569bd9e8cd9f72ae7b1f1", func := "agora/agoralaw44.IndexCases", spec := "indexCases", inPlace := ["internal/abi.NoEscape"], unfollowed := true, recurses := true, apart := false }
def IndexCasesSaid : Prop := indexCasesRow.holds Try.pinned (OpenSpec.ofChange indexCasesSpec)

/-- ITS FALSE NEIGHBOUR: 'it returns false'. Refute it at one input. -/
def indexCasesWrong : ChangeSpec := { name := "indexCases", fn := fun _ => fun
  | [d1, d2] => { results := [.lit (.bool false)], args := [d1, d2] }
  | _ => none }
def IndexCasesWrongFalsely : Prop := indexCasesRow.holds Try.pinned (OpenSpec.ofChange indexCasesWrong)

/- THE SECOND FORM. 'bulk': how many values and letters a reading holds, each counted each time it is reached (what is shared counts as often as it is met; a slice's spare places count too). A statement '..UptoSaid' is the law's where the arguments, and the package variables that the reading takes, are together of bulk at most 1048576: NARROWER than '..Said'. Prove '..Said' where nothing that the law and all that it calls make is longer than what came in: it says more and counts as full. Else prove '..UptoSaid'. A law counts once. -/
mutual
def uptoBulk {H : Type} : DataW H → Nat
  | .lit (.string bytes) => bytes.length + 1
  | .lit _ => 1
  | .nil => 1
  | .ptr d => uptoBulk d + 1
  | .slice elems spare => uptoBulkAll elems + uptoBulkAll spare + 1
  | .agg parts => uptoBulkAll parts + 1
  | .iface _ d => uptoBulk d + 1
  | .map entries => uptoBulkEntries entries + 1
  | .held _ => 1
def uptoBulkAll {H : Type} : List (DataW H) → Nat
  | [] => 0
  | d :: r => uptoBulk d + uptoBulkAll r
def uptoBulkEntries {H : Type} : List (Lit × DataW H) → Nat
  | [] => 0
  | x :: r => uptoBulkEntry x + uptoBulkEntries r
def uptoBulkEntry {H : Type} : Lit × DataW H → Nat
  | (.string bytes, d) => bytes.length + uptoBulk d + 1
  | (_, d) => uptoBulk d + 1
 end
def uptoSmall : (H : Type) → List (DataW H) → Bool := fun _ ds => decide (uptoBulkAll ds ≤ 1048576)
def OpenSpec.upto (s : _root_.Go.ChangeSpec) : _root_.Go.OpenSpec := { _root_.Go.OpenSpec.ofChange s with cond := some uptoSmall }

/-- 'agoralaw44.IndexWords', WHERE WHAT IT READS IS OF BULK AT MOST 1048576: true; the input reads as it did. -/
def indexWordsUptoRow : OpenClaim := { program := "ytokfiikpfckahaa", sum := "d2189d3890b6eff32812074e6acd0d2c13619f03cbc569bd9e8cd9f72ae7b1f1", func := "agora/agoralaw44.IndexWords", spec := "indexWords", inPlace := ["internal/abi.NoEscape"], unfollowed := true, recurses := true, apart := false, narrowed := true }
def IndexWordsUptoSaid : Prop := indexWordsUptoRow.holds Try.pinned (OpenSpec.upto indexWordsSpec)

/-- 'agoralaw44.IndexTells', WHERE WHAT IT READS IS OF BULK AT MOST 1048576: true; the input reads as it did. -/
def indexTellsUptoRow : OpenClaim := { program := "ytokfiikpfckahaa", sum := "d2189d3890b6eff32812074e6acd0d2c13619f03cbc569bd9e8cd9f72ae7b1f1", func := "agora/agoralaw44.IndexTells", spec := "indexTells", inPlace := ["internal/abi.NoEscape"], unfollowed := true, recurses := true, apart := false, narrowed := true }
def IndexTellsUptoSaid : Prop := indexTellsUptoRow.holds Try.pinned (OpenSpec.upto indexTellsSpec)

/-- 'agoralaw44.IndexForgets', WHERE WHAT IT READS IS OF BULK AT MOST 1048576: true; the input reads as it did. -/
def indexForgetsUptoRow : OpenClaim := { program := "ytokfiikpfckahaa", sum := "d2189d3890b6eff32812074e6acd0d2c13619f03cbc569bd9e8cd9f72ae7b1f1", func := "agora/agoralaw44.IndexForgets", spec := "indexForgets", inPlace := ["internal/abi.NoEscape"], unfollowed := true, recurses := true, apart := false, narrowed := true }
def IndexForgetsUptoSaid : Prop := indexForgetsUptoRow.holds Try.pinned (OpenSpec.upto indexForgetsSpec)

/-- 'agoralaw44.IndexMeets', WHERE WHAT IT READS IS OF BULK AT MOST 1048576: true; the input reads as it did. -/
def indexMeetsUptoRow : OpenClaim := { program := "ytokfiikpfckahaa", sum := "d2189d3890b6eff32812074e6acd0d2c13619f03cbc569bd9e8cd9f72ae7b1f1", func := "agora/agoralaw44.IndexMeets", spec := "indexMeets", inPlace := ["internal/abi.NoEscape"], unfollowed := true, recurses := true, apart := false, narrowed := true }
def IndexMeetsUptoSaid : Prop := indexMeetsUptoRow.holds Try.pinned (OpenSpec.upto indexMeetsSpec)

/-- 'agoralaw44.IndexCases', WHERE WHAT IT READS IS OF BULK AT MOST 1048576: true; the input reads as it did. -/
def indexCasesUptoRow : OpenClaim := { program := "ytokfiikpfckahaa", sum := "d2189d3890b6eff32812074e6acd0d2c13619f03cbc569bd9e8cd9f72ae7b1f1", func := "agora/agoralaw44.IndexCases", spec := "indexCases", inPlace := ["internal/abi.NoEscape"], unfollowed := true, recurses := true, apart := false, narrowed := true }
def IndexCasesUptoSaid : Prop := indexCasesUptoRow.holds Try.pinned (OpenSpec.upto indexCasesSpec)

end Rows
end Go.Proofs.Ytokfiikpfckahaa
