/-
  No cell of these rows narrows 'for every input' (looked for: loops, veiled, ifaces, maps, wideKeys, modest, calm, conditions, laid).
  DERIVED. THE GIVEN ROWS OF THIS SEAT. 8 by the template 'for every input the law returns true; each argument reads behind the call as it read before'; 0 by the template 'total and deterministic' (their statements: YtilccklocaeebaaTotals.lean).
  GIVEN WITH THE SEED: the statements are not yours to turn. If you find one false, say at which input.
  Laid BY PROGRAM, IN A SANDBOX (cutbox-rows.mjs): the forced cells as the released guide's own fill.sh prints them over the translation 4eac851639382ee5… (all of the seat's roots in one cut). By AI agents, Wed Nov 11 2026. No macro, syntax, notation, axiom, sorry.
-/
import Derived.Test.YtilccklocaeebaaChecked
import GoSem.Claim
import GoSem.ClaimJoined
import GoSem.ClaimMapViews
import Derived.JoinedTies
import Derived.KernelRfl
namespace Go.Proofs.Ytilccklocaeebaa
/- THE CELL 'sum', in the pinned program and in every row, IS THE sha256 OF THE DUMP (.gsa) THAT YtilccklocaeebaaProg.lean LOADS. Nothing in Lean hashes anything: it is a label: what it is worth is what the hold of that sum in a sandbox is worth. -/
noncomputable def Try.pinned : Pinned := { name := "ytilccklocaeebaa", sum := "4eac851639382ee5986396070a47e3cafc3a9f338288bbb56fa82031a676d844", checked := Try.checked }
namespace Rows
def none {H : Type} : Left H := { results := [], args := [] }

/-- 'locutionlaw04.DirRanks': WHATEVER THE INPUT: true; the input reads as it did. -/
def dirRanksSpec : ChangeSpec := { name := "dirRanks", fn := fun _ => fun
  | [d1, d2] => { results := [.lit (.bool true)], args := [d1, d2] }
  | _ => none }
def dirRanksRow : OpenClaim := { program := "ytilccklocaeebaa", sum := "4eac851639382ee5986396070a47e3cafc3a9f338288bbb56fa82031a676d844", func := "locution/locutionlaw04.DirRanks", spec := "dirRanks", apart := false }
def DirRanksSaid : Prop := dirRanksRow.holds Try.pinned (OpenSpec.ofChange dirRanksSpec)

/-- ITS FALSE NEIGHBOUR: 'it returns false'. Refute it at one input. -/
def dirRanksWrong : ChangeSpec := { name := "dirRanks", fn := fun _ => fun
  | [d1, d2] => { results := [.lit (.bool false)], args := [d1, d2] }
  | _ => none }
def DirRanksWrongFalsely : Prop := dirRanksRow.holds Try.pinned (OpenSpec.ofChange dirRanksWrong)

/-- 'locutionlaw04.DirMarks': WHATEVER THE INPUT: true; the input reads as it did. -/
def dirMarksSpec : ChangeSpec := { name := "dirMarks", fn := fun _ => fun
  | [d1, d2] => { results := [.lit (.bool true)], args := [d1, d2] }
  | _ => none }
def dirMarksRow : OpenClaim := { program := "ytilccklocaeebaa", sum := "4eac851639382ee5986396070a47e3cafc3a9f338288bbb56fa82031a676d844", func := "locution/locutionlaw04.DirMarks", spec := "dirMarks", apart := false }
def DirMarksSaid : Prop := dirMarksRow.holds Try.pinned (OpenSpec.ofChange dirMarksSpec)

/-- ITS FALSE NEIGHBOUR: 'it returns false'. Refute it at one input. -/
def dirMarksWrong : ChangeSpec := { name := "dirMarks", fn := fun _ => fun
  | [d1, d2] => { results := [.lit (.bool false)], args := [d1, d2] }
  | _ => none }
def DirMarksWrongFalsely : Prop := dirMarksRow.holds Try.pinned (OpenSpec.ofChange dirMarksWrong)

/-- 'locutionlaw04.DirSteps': WHATEVER THE INPUT: true; the input reads as it did. -/
def dirStepsSpec : ChangeSpec := { name := "dirSteps", fn := fun _ => fun
  | [d] => { results := [.lit (.bool true)], args := [d] }
  | _ => none }
def dirStepsRow : OpenClaim := { program := "ytilccklocaeebaa", sum := "4eac851639382ee5986396070a47e3cafc3a9f338288bbb56fa82031a676d844", func := "locution/locutionlaw04.DirSteps", spec := "dirSteps", apart := false }
def DirStepsSaid : Prop := dirStepsRow.holds Try.pinned (OpenSpec.ofChange dirStepsSpec)

/-- ITS FALSE NEIGHBOUR: 'it returns false'. Refute it at one input. -/
def dirStepsWrong : ChangeSpec := { name := "dirSteps", fn := fun _ => fun
  | [d] => { results := [.lit (.bool false)], args := [d] }
  | _ => none }
def DirStepsWrongFalsely : Prop := dirStepsRow.holds Try.pinned (OpenSpec.ofChange dirStepsWrong)

/-- 'locutionlaw03.PackMakes': WHATEVER THE INPUT: true; the input reads as it did. -/
def packMakesSpec : ChangeSpec := { name := "packMakes", fn := fun _ => fun
  | [d1, d2, d3] => { results := [.lit (.bool true)], args := [d1, d2, d3] }
  | _ => none }
def packMakesRow : OpenClaim := { program := "ytilccklocaeebaa", sum := "4eac851639382ee5986396070a47e3cafc3a9f338288bbb56fa82031a676d844", func := "locution/locutionlaw03.PackMakes", spec := "packMakes", apart := false }
def PackMakesSaid : Prop := packMakesRow.holds Try.pinned (OpenSpec.ofChange packMakesSpec)

/-- ITS FALSE NEIGHBOUR: 'it returns false'. Refute it at one input. -/
def packMakesWrong : ChangeSpec := { name := "packMakes", fn := fun _ => fun
  | [d1, d2, d3] => { results := [.lit (.bool false)], args := [d1, d2, d3] }
  | _ => none }
def PackMakesWrongFalsely : Prop := packMakesRow.holds Try.pinned (OpenSpec.ofChange packMakesWrong)

/-- 'locutionlaw03.PackGoes': WHATEVER THE INPUT: true; the input reads as it did. -/
def packGoesSpec : ChangeSpec := { name := "packGoes", fn := fun _ => fun
  | [d1, d2] => { results := [.lit (.bool true)], args := [d1, d2] }
  | _ => none }
def packGoesRow : OpenClaim := { program := "ytilccklocaeebaa", sum := "4eac851639382ee5986396070a47e3cafc3a9f338288bbb56fa82031a676d844", func := "locution/locutionlaw03.PackGoes", spec := "packGoes", unfollowed := true, recurses := true, apart := false }
def PackGoesSaid : Prop := packGoesRow.holds Try.pinned (OpenSpec.ofChange packGoesSpec)

/-- ITS FALSE NEIGHBOUR: 'it returns false'. Refute it at one input. -/
def packGoesWrong : ChangeSpec := { name := "packGoes", fn := fun _ => fun
  | [d1, d2] => { results := [.lit (.bool false)], args := [d1, d2] }
  | _ => none }
def PackGoesWrongFalsely : Prop := packGoesRow.holds Try.pinned (OpenSpec.ofChange packGoesWrong)

/-- 'locutionlaw03.PackOf': WHATEVER THE INPUT: true; the input reads as it did. -/
def packOfSpec : ChangeSpec := { name := "packOf", fn := fun _ => fun
  | [d1, d2, d3] => { results := [.lit (.bool true)], args := [d1, d2, d3] }
  | _ => none }
def packOfRow : OpenClaim := { program := "ytilccklocaeebaa", sum := "4eac851639382ee5986396070a47e3cafc3a9f338288bbb56fa82031a676d844", func := "locution/locutionlaw03.PackOf", spec := "packOf", apart := false }
def PackOfSaid : Prop := packOfRow.holds Try.pinned (OpenSpec.ofChange packOfSpec)

/-- ITS FALSE NEIGHBOUR: 'it returns false'. Refute it at one input. -/
def packOfWrong : ChangeSpec := { name := "packOf", fn := fun _ => fun
  | [d1, d2, d3] => { results := [.lit (.bool false)], args := [d1, d2, d3] }
  | _ => none }
def PackOfWrongFalsely : Prop := packOfRow.holds Try.pinned (OpenSpec.ofChange packOfWrong)

/-- 'locutionlaw05.DirOnes': WHATEVER THE INPUT: true; the input reads as it did. -/
def dirOnesSpec : ChangeSpec := { name := "dirOnes", fn := fun _ => fun
  | [d1, d2] => { results := [.lit (.bool true)], args := [d1, d2] }
  | _ => none }
def dirOnesRow : OpenClaim := { program := "ytilccklocaeebaa", sum := "4eac851639382ee5986396070a47e3cafc3a9f338288bbb56fa82031a676d844", func := "locution/locutionlaw05.DirOnes", spec := "dirOnes", unfollowed := true, recurses := true, apart := false }
def DirOnesSaid : Prop := dirOnesRow.holds Try.pinned (OpenSpec.ofChange dirOnesSpec)

/-- ITS FALSE NEIGHBOUR: 'it returns false'. Refute it at one input. -/
def dirOnesWrong : ChangeSpec := { name := "dirOnes", fn := fun _ => fun
  | [d1, d2] => { results := [.lit (.bool false)], args := [d1, d2] }
  | _ => none }
def DirOnesWrongFalsely : Prop := dirOnesRow.holds Try.pinned (OpenSpec.ofChange dirOnesWrong)

/-- 'locutionlaw05.DirAll': WHATEVER THE INPUT: true; the input reads as it did. -/
def dirAllSpec : ChangeSpec := { name := "dirAll", fn := fun _ => fun
  | [d] => { results := [.lit (.bool true)], args := [d] }
  | _ => none }
def dirAllRow : OpenClaim := { program := "ytilccklocaeebaa", sum := "4eac851639382ee5986396070a47e3cafc3a9f338288bbb56fa82031a676d844", func := "locution/locutionlaw05.DirAll", spec := "dirAll", unfollowed := true, recurses := true, apart := false }
def DirAllSaid : Prop := dirAllRow.holds Try.pinned (OpenSpec.ofChange dirAllSpec)

/-- ITS FALSE NEIGHBOUR: 'it returns false'. Refute it at one input. -/
def dirAllWrong : ChangeSpec := { name := "dirAll", fn := fun _ => fun
  | [d] => { results := [.lit (.bool false)], args := [d] }
  | _ => none }
def DirAllWrongFalsely : Prop := dirAllRow.holds Try.pinned (OpenSpec.ofChange dirAllWrong)

/- THE SECOND FORM. 'bulk': how many values and letters a reading holds, each counted each time it is reached (what is shared counts as often as it is met; a slice's spare places count too). A statement '..UptoSaid' is the law's where the arguments, and the package variables that the reading takes, are together of bulk at most 1048576: NARROWER than '..Said'. Prove '..Said' where nothing that the law and all that it calls make is longer than what came in: it says more and counts as full. Else prove '..UptoSaid'. A law counts once. -/
mutual
def uptoBulk {H : Type} : DataW H → Nat
  | .lit (.string bytes) => bytes.length + 1
  | .lit _ => 1
  | .nil => 1
  | .ptr d => uptoBulk d + 1
  | .slice elems spare => uptoBulkAll elems + uptoBulkAll spare + 1
  | .agg parts => uptoBulkAll parts + 1
  | .iface _ d => uptoBulk d + 1
  | .map entries => uptoBulkEntries entries + 1
  | .held _ => 1
def uptoBulkAll {H : Type} : List (DataW H) → Nat
  | [] => 0
  | d :: r => uptoBulk d + uptoBulkAll r
def uptoBulkEntries {H : Type} : List (Lit × DataW H) → Nat
  | [] => 0
  | x :: r => uptoBulkEntry x + uptoBulkEntries r
def uptoBulkEntry {H : Type} : Lit × DataW H → Nat
  | (.string bytes, d) => bytes.length + uptoBulk d + 1
  | (_, d) => uptoBulk d + 1
 end
def uptoSmall : (H : Type) → List (DataW H) → Bool := fun _ ds => decide (uptoBulkAll ds ≤ 1048576)
def OpenSpec.upto (s : _root_.Go.ChangeSpec) : _root_.Go.OpenSpec := { _root_.Go.OpenSpec.ofChange s with cond := some uptoSmall }

/-- 'locutionlaw04.DirRanks', WHERE WHAT IT READS IS OF BULK AT MOST 1048576: true; the input reads as it did. -/
def dirRanksUptoRow : OpenClaim := { program := "ytilccklocaeebaa", sum := "4eac851639382ee5986396070a47e3cafc3a9f338288bbb56fa82031a676d844", func := "locution/locutionlaw04.DirRanks", spec := "dirRanks", apart := false, narrowed := true }
def DirRanksUptoSaid : Prop := dirRanksUptoRow.holds Try.pinned (OpenSpec.upto dirRanksSpec)

/-- 'locutionlaw04.DirMarks', WHERE WHAT IT READS IS OF BULK AT MOST 1048576: true; the input reads as it did. -/
def dirMarksUptoRow : OpenClaim := { program := "ytilccklocaeebaa", sum := "4eac851639382ee5986396070a47e3cafc3a9f338288bbb56fa82031a676d844", func := "locution/locutionlaw04.DirMarks", spec := "dirMarks", apart := false, narrowed := true }
def DirMarksUptoSaid : Prop := dirMarksUptoRow.holds Try.pinned (OpenSpec.upto dirMarksSpec)

/-- 'locutionlaw04.DirSteps', WHERE WHAT IT READS IS OF BULK AT MOST 1048576: true; the input reads as it did. -/
def dirStepsUptoRow : OpenClaim := { program := "ytilccklocaeebaa", sum := "4eac851639382ee5986396070a47e3cafc3a9f338288bbb56fa82031a676d844", func := "locution/locutionlaw04.DirSteps", spec := "dirSteps", apart := false, narrowed := true }
def DirStepsUptoSaid : Prop := dirStepsUptoRow.holds Try.pinned (OpenSpec.upto dirStepsSpec)

/-- 'locutionlaw03.PackMakes', WHERE WHAT IT READS IS OF BULK AT MOST 1048576: true; the input reads as it did. -/
def packMakesUptoRow : OpenClaim := { program := "ytilccklocaeebaa", sum := "4eac851639382ee5986396070a47e3cafc3a9f338288bbb56fa82031a676d844", func := "locution/locutionlaw03.PackMakes", spec := "packMakes", apart := false, narrowed := true }
def PackMakesUptoSaid : Prop := packMakesUptoRow.holds Try.pinned (OpenSpec.upto packMakesSpec)

/-- 'locutionlaw03.PackGoes', WHERE WHAT IT READS IS OF BULK AT MOST 1048576: true; the input reads as it did. -/
def packGoesUptoRow : OpenClaim := { program := "ytilccklocaeebaa", sum := "4eac851639382ee5986396070a47e3cafc3a9f338288bbb56fa82031a676d844", func := "locution/locutionlaw03.PackGoes", spec := "packGoes", unfollowed := true, recurses := true, apart := false, narrowed := true }
def PackGoesUptoSaid : Prop := packGoesUptoRow.holds Try.pinned (OpenSpec.upto packGoesSpec)

/-- 'locutionlaw03.PackOf', WHERE WHAT IT READS IS OF BULK AT MOST 1048576: true; the input reads as it did. -/
def packOfUptoRow : OpenClaim := { program := "ytilccklocaeebaa", sum := "4eac851639382ee5986396070a47e3cafc3a9f338288bbb56fa82031a676d844", func := "locution/locutionlaw03.PackOf", spec := "packOf", apart := false, narrowed := true }
def PackOfUptoSaid : Prop := packOfUptoRow.holds Try.pinned (OpenSpec.upto packOfSpec)

/-- 'locutionlaw05.DirOnes', WHERE WHAT IT READS IS OF BULK AT MOST 1048576: true; the input reads as it did. -/
def dirOnesUptoRow : OpenClaim := { program := "ytilccklocaeebaa", sum := "4eac851639382ee5986396070a47e3cafc3a9f338288bbb56fa82031a676d844", func := "locution/locutionlaw05.DirOnes", spec := "dirOnes", unfollowed := true, recurses := true, apart := false, narrowed := true }
def DirOnesUptoSaid : Prop := dirOnesUptoRow.holds Try.pinned (OpenSpec.upto dirOnesSpec)

/-- 'locutionlaw05.DirAll', WHERE WHAT IT READS IS OF BULK AT MOST 1048576: true; the input reads as it did. -/
def dirAllUptoRow : OpenClaim := { program := "ytilccklocaeebaa", sum := "4eac851639382ee5986396070a47e3cafc3a9f338288bbb56fa82031a676d844", func := "locution/locutionlaw05.DirAll", spec := "dirAll", unfollowed := true, recurses := true, apart := false, narrowed := true }
def DirAllUptoSaid : Prop := dirAllUptoRow.holds Try.pinned (OpenSpec.upto dirAllSpec)

end Rows
end Go.Proofs.Ytilccklocaeebaa
