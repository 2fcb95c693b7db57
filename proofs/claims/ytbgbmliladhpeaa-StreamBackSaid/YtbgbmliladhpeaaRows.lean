/-
  No cell of these rows narrows 'for every input' (looked for: loops, veiled, ifaces, maps, wideKeys, modest, calm, conditions, laid).
  DERIVED. THE GIVEN ROWS OF THIS SEAT. 11 by the template 'for every input the law returns true; each argument reads behind the call as it read before'; 0 by the template 'total and deterministic' (their statements: YtbgbmliladhpeaaTotals.lean).
  GIVEN WITH THE SEED: the statements are not yours to turn. If you find one false, say at which input.
  Laid BY PROGRAM, IN A SANDBOX (cutbox-rows.mjs): the forced cells as the released guide's own fill.sh prints them over the translation 3d10f8f8dc8a93e2… (all of the seat's roots in one cut). By AI agents, Wed Nov 11 2026. No macro, syntax, notation, axiom, sorry.
-/
import Derived.Test.YtbgbmliladhpeaaChecked
import GoSem.Claim
import GoSem.ClaimJoined
import GoSem.ClaimMapViews
import Derived.JoinedTies
import Derived.KernelRfl
namespace Go.Proofs.Ytbgbmliladhpeaa
/- THE CELL 'sum', in the pinned program and in every row, IS THE sha256 OF THE DUMP (.gsa) THAT YtbgbmliladhpeaaProg.lean LOADS. Nothing in Lean hashes anything: it is a label: what it is worth is what the hold of that sum in a sandbox is worth. -/
noncomputable def Try.pinned : Pinned := { name := "ytbgbmliladhpeaa", sum := "3d10f8f8dc8a93e2a489cbd73a60e41ece663501c6bb7a3957a2f4485cced18b", checked := Try.checked }
namespace Rows
def none {H : Type} : Left H := { results := [], args := [] }

/-- 'locutionlaw06.StreamWrites': WHATEVER THE INPUT: true; the input reads as it did. -/
def streamWritesSpec : ChangeSpec := { name := "streamWrites", fn := fun _ => fun
  | [d] => { results := [.lit (.bool true)], args := [d] }
  | _ => none }
def streamWritesRow : OpenClaim := { program := "ytbgbmliladhpeaa", sum := "3d10f8f8dc8a93e2a489cbd73a60e41ece663501c6bb7a3957a2f4485cced18b", func := "locution/locutionlaw06.StreamWrites", spec := "streamWrites", unfollowed := true, recurses := true, apart := false }
def StreamWritesSaid : Prop := streamWritesRow.holds Try.pinned (OpenSpec.ofChange streamWritesSpec)

/-- ITS FALSE NEIGHBOUR: 'it returns false'. Refute it at one input. -/
def streamWritesWrong : ChangeSpec := { name := "streamWrites", fn := fun _ => fun
  | [d] => { results := [.lit (.bool false)], args := [d] }
  | _ => none }
def StreamWritesWrongFalsely : Prop := streamWritesRow.holds Try.pinned (OpenSpec.ofChange streamWritesWrong)

/-- 'locutionlaw06.StreamReads': WHATEVER THE INPUT: true; the input reads as it did. -/
def streamReadsSpec : ChangeSpec := { name := "streamReads", fn := fun _ => fun
  | [d1, d2] => { results := [.lit (.bool true)], args := [d1, d2] }
  | _ => none }
def streamReadsRow : OpenClaim := { program := "ytbgbmliladhpeaa", sum := "3d10f8f8dc8a93e2a489cbd73a60e41ece663501c6bb7a3957a2f4485cced18b", func := "locution/locutionlaw06.StreamReads", spec := "streamReads", unfollowed := true, recurses := true, apart := false }
def StreamReadsSaid : Prop := streamReadsRow.holds Try.pinned (OpenSpec.ofChange streamReadsSpec)

/-- ITS FALSE NEIGHBOUR: 'it returns false'. Refute it at one input. -/
def streamReadsWrong : ChangeSpec := { name := "streamReads", fn := fun _ => fun
  | [d1, d2] => { results := [.lit (.bool false)], args := [d1, d2] }
  | _ => none }
def StreamReadsWrongFalsely : Prop := streamReadsRow.holds Try.pinned (OpenSpec.ofChange streamReadsWrong)

/-- 'locutionlaw06.StreamNone': WHATEVER THE INPUT: true; the input reads as it did. -/
def streamNoneSpec : ChangeSpec := { name := "streamNone", fn := fun _ => fun
  | [d] => { results := [.lit (.bool true)], args := [d] }
  | _ => none }
def streamNoneRow : OpenClaim := { program := "ytbgbmliladhpeaa", sum := "3d10f8f8dc8a93e2a489cbd73a60e41ece663501c6bb7a3957a2f4485cced18b", func := "locution/locutionlaw06.StreamNone", spec := "streamNone", unfollowed := true, recurses := true, apart := false }
def StreamNoneSaid : Prop := streamNoneRow.holds Try.pinned (OpenSpec.ofChange streamNoneSpec)

/-- ITS FALSE NEIGHBOUR: 'it returns false'. Refute it at one input. -/
def streamNoneWrong : ChangeSpec := { name := "streamNone", fn := fun _ => fun
  | [d] => { results := [.lit (.bool false)], args := [d] }
  | _ => none }
def StreamNoneWrongFalsely : Prop := streamNoneRow.holds Try.pinned (OpenSpec.ofChange streamNoneWrong)

/-- 'locutionlaw06.StreamBack': WHATEVER THE INPUT: true; the input reads as it did. -/
def streamBackSpec : ChangeSpec := { name := "streamBack", fn := fun _ => fun
  | [d] => { results := [.lit (.bool true)], args := [d] }
  | _ => none }
def streamBackRow : OpenClaim := { program := "ytbgbmliladhpeaa", sum := "3d10f8f8dc8a93e2a489cbd73a60e41ece663501c6bb7a3957a2f4485cced18b", func := "locution/locutionlaw06.StreamBack", spec := "streamBack", unfollowed := true, recurses := true, apart := false }
def StreamBackSaid : Prop := streamBackRow.holds Try.pinned (OpenSpec.ofChange streamBackSpec)

/-- ITS FALSE NEIGHBOUR: 'it returns false'. Refute it at one input. -/
def streamBackWrong : ChangeSpec := { name := "streamBack", fn := fun _ => fun
  | [d] => { results := [.lit (.bool false)], args := [d] }
  | _ => none }
def StreamBackWrongFalsely : Prop := streamBackRow.holds Try.pinned (OpenSpec.ofChange streamBackWrong)

/-- 'locutionlaw07.SeqNext': WHATEVER THE INPUT: true; the input reads as it did. -/
def seqNextSpec : ChangeSpec := { name := "seqNext", fn := fun _ => fun
  | [d1, d2] => { results := [.lit (.bool true)], args := [d1, d2] }
  | _ => none }
def seqNextRow : OpenClaim := { program := "ytbgbmliladhpeaa", sum := "3d10f8f8dc8a93e2a489cbd73a60e41ece663501c6bb7a3957a2f4485cced18b", func := "locution/locutionlaw07.SeqNext", spec := "seqNext", unfollowed := true, recurses := true, apart := false }
def SeqNextSaid : Prop := seqNextRow.holds Try.pinned (OpenSpec.ofChange seqNextSpec)

/-- ITS FALSE NEIGHBOUR: 'it returns false'. Refute it at one input. -/
def seqNextWrong : ChangeSpec := { name := "seqNext", fn := fun _ => fun
  | [d1, d2] => { results := [.lit (.bool false)], args := [d1, d2] }
  | _ => none }
def SeqNextWrongFalsely : Prop := seqNextRow.holds Try.pinned (OpenSpec.ofChange seqNextWrong)

/-- 'locutionlaw07.SeqFinds': WHATEVER THE INPUT: true; the input reads as it did. -/
def seqFindsSpec : ChangeSpec := { name := "seqFinds", fn := fun _ => fun
  | [d1, d2, d3] => { results := [.lit (.bool true)], args := [d1, d2, d3] }
  | _ => none }
def seqFindsRow : OpenClaim := { program := "ytbgbmliladhpeaa", sum := "3d10f8f8dc8a93e2a489cbd73a60e41ece663501c6bb7a3957a2f4485cced18b", func := "locution/locutionlaw07.SeqFinds", spec := "seqFinds", unfollowed := true, recurses := true, apart := false }
def SeqFindsSaid : Prop := seqFindsRow.holds Try.pinned (OpenSpec.ofChange seqFindsSpec)

/-- ITS FALSE NEIGHBOUR: 'it returns false'. Refute it at one input. -/
def seqFindsWrong : ChangeSpec := { name := "seqFinds", fn := fun _ => fun
  | [d1, d2, d3] => { results := [.lit (.bool false)], args := [d1, d2, d3] }
  | _ => none }
def SeqFindsWrongFalsely : Prop := seqFindsRow.holds Try.pinned (OpenSpec.ofChange seqFindsWrong)

/-- 'locutionlaw07.SeqSize': WHATEVER THE INPUT: true; the input reads as it did. -/
def seqSizeSpec : ChangeSpec := { name := "seqSize", fn := fun _ => fun
  | [d1, d2, d3] => { results := [.lit (.bool true)], args := [d1, d2, d3] }
  | _ => none }
def seqSizeRow : OpenClaim := { program := "ytbgbmliladhpeaa", sum := "3d10f8f8dc8a93e2a489cbd73a60e41ece663501c6bb7a3957a2f4485cced18b", func := "locution/locutionlaw07.SeqSize", spec := "seqSize", unfollowed := true, recurses := true, apart := false }
def SeqSizeSaid : Prop := seqSizeRow.holds Try.pinned (OpenSpec.ofChange seqSizeSpec)

/-- ITS FALSE NEIGHBOUR: 'it returns false'. Refute it at one input. -/
def seqSizeWrong : ChangeSpec := { name := "seqSize", fn := fun _ => fun
  | [d1, d2, d3] => { results := [.lit (.bool false)], args := [d1, d2, d3] }
  | _ => none }
def SeqSizeWrongFalsely : Prop := seqSizeRow.holds Try.pinned (OpenSpec.ofChange seqSizeWrong)

/-- 'locutionlaw07.SeqMakes': WHATEVER THE INPUT: true; the input reads as it did. -/
def seqMakesSpec : ChangeSpec := { name := "seqMakes", fn := fun _ => fun
  | [d1, d2] => { results := [.lit (.bool true)], args := [d1, d2] }
  | _ => none }
def seqMakesRow : OpenClaim := { program := "ytbgbmliladhpeaa", sum := "3d10f8f8dc8a93e2a489cbd73a60e41ece663501c6bb7a3957a2f4485cced18b", func := "locution/locutionlaw07.SeqMakes", spec := "seqMakes", unfollowed := true, recurses := true, apart := false }
def SeqMakesSaid : Prop := seqMakesRow.holds Try.pinned (OpenSpec.ofChange seqMakesSpec)

/-- ITS FALSE NEIGHBOUR: 'it returns false'. Refute it at one input. -/
def seqMakesWrong : ChangeSpec := { name := "seqMakes", fn := fun _ => fun
  | [d1, d2] => { results := [.lit (.bool false)], args := [d1, d2] }
  | _ => none }
def SeqMakesWrongFalsely : Prop := seqMakesRow.holds Try.pinned (OpenSpec.ofChange seqMakesWrong)

/-- 'locutionlaw09.PrefixSums': WHATEVER THE INPUT: true; the input reads as it did. -/
def prefixSumsSpec : ChangeSpec := { name := "prefixSums", fn := fun _ => fun
  | [d1, d2, d3] => { results := [.lit (.bool true)], args := [d1, d2, d3] }
  | _ => none }
def prefixSumsRow : OpenClaim := { program := "ytbgbmliladhpeaa", sum := "3d10f8f8dc8a93e2a489cbd73a60e41ece663501c6bb7a3957a2f4485cced18b", func := "locution/locutionlaw09.PrefixSums", spec := "prefixSums", unfollowed := true, recurses := true, apart := false }
def PrefixSumsSaid : Prop := prefixSumsRow.holds Try.pinned (OpenSpec.ofChange prefixSumsSpec)

/-- ITS FALSE NEIGHBOUR: 'it returns false'. Refute it at one input. -/
def prefixSumsWrong : ChangeSpec := { name := "prefixSums", fn := fun _ => fun
  | [d1, d2, d3] => { results := [.lit (.bool false)], args := [d1, d2, d3] }
  | _ => none }
def PrefixSumsWrongFalsely : Prop := prefixSumsRow.holds Try.pinned (OpenSpec.ofChange prefixSumsWrong)

/-- 'locutionlaw09.PrefixUnits': WHATEVER THE INPUT: true; the input reads as it did. -/
def prefixUnitsSpec : ChangeSpec := { name := "prefixUnits", fn := fun _ => fun
  | [d] => { results := [.lit (.bool true)], args := [d] }
  | _ => none }
def prefixUnitsRow : OpenClaim := { program := "ytbgbmliladhpeaa", sum := "3d10f8f8dc8a93e2a489cbd73a60e41ece663501c6bb7a3957a2f4485cced18b", func := "locution/locutionlaw09.PrefixUnits", spec := "prefixUnits", unfollowed := true, recurses := true, apart := false }
def PrefixUnitsSaid : Prop := prefixUnitsRow.holds Try.pinned (OpenSpec.ofChange prefixUnitsSpec)

/-- ITS FALSE NEIGHBOUR: 'it returns false'. Refute it at one input. -/
def prefixUnitsWrong : ChangeSpec := { name := "prefixUnits", fn := fun _ => fun
  | [d] => { results := [.lit (.bool false)], args := [d] }
  | _ => none }
def PrefixUnitsWrongFalsely : Prop := prefixUnitsRow.holds Try.pinned (OpenSpec.ofChange prefixUnitsWrong)

/-- 'locutionlaw09.PrefixMakes': WHATEVER THE INPUT: true; the input reads as it did. -/
def prefixMakesSpec : ChangeSpec := { name := "prefixMakes", fn := fun _ => fun
  | [d1, d2] => { results := [.lit (.bool true)], args := [d1, d2] }
  | _ => none }
def prefixMakesRow : OpenClaim := { program := "ytbgbmliladhpeaa", sum := "3d10f8f8dc8a93e2a489cbd73a60e41ece663501c6bb7a3957a2f4485cced18b", func := "locution/locutionlaw09.PrefixMakes", spec := "prefixMakes", unfollowed := true, recurses := true, apart := false }
def PrefixMakesSaid : Prop := prefixMakesRow.holds Try.pinned (OpenSpec.ofChange prefixMakesSpec)

/-- ITS FALSE NEIGHBOUR: 'it returns false'. Refute it at one input. -/
def prefixMakesWrong : ChangeSpec := { name := "prefixMakes", fn := fun _ => fun
  | [d1, d2] => { results := [.lit (.bool false)], args := [d1, d2] }
  | _ => none }
def PrefixMakesWrongFalsely : Prop := prefixMakesRow.holds Try.pinned (OpenSpec.ofChange prefixMakesWrong)

/- THE SECOND FORM. 'bulk': how many values and letters a reading holds, each counted each time it is reached (what is shared counts as often as it is met; a slice's spare places count too). A statement '..UptoSaid' is the law's where the arguments, and the package variables that the reading takes, are together of bulk at most 1048576: NARROWER than '..Said'. Prove '..Said' where nothing that the law and all that it calls make is longer than what came in: it says more and counts as full. Else prove '..UptoSaid'. A law counts once. -/
mutual
def uptoBulk {H : Type} : DataW H → Nat
  | .lit (.string bytes) => bytes.length + 1
  | .lit _ => 1
  | .nil => 1
  | .ptr d => uptoBulk d + 1
  | .slice elems spare => uptoBulkAll elems + uptoBulkAll spare + 1
  | .agg parts => uptoBulkAll parts + 1
  | .iface _ d => uptoBulk d + 1
  | .map entries => uptoBulkEntries entries + 1
  | .held _ => 1
def uptoBulkAll {H : Type} : List (DataW H) → Nat
  | [] => 0
  | d :: r => uptoBulk d + uptoBulkAll r
def uptoBulkEntries {H : Type} : List (Lit × DataW H) → Nat
  | [] => 0
  | x :: r => uptoBulkEntry x + uptoBulkEntries r
def uptoBulkEntry {H : Type} : Lit × DataW H → Nat
  | (.string bytes, d) => bytes.length + uptoBulk d + 1
  | (_, d) => uptoBulk d + 1
 end
def uptoSmall : (H : Type) → List (DataW H) → Bool := fun _ ds => decide (uptoBulkAll ds ≤ 1048576)
def OpenSpec.upto (s : _root_.Go.ChangeSpec) : _root_.Go.OpenSpec := { _root_.Go.OpenSpec.ofChange s with cond := some uptoSmall }

/-- 'locutionlaw06.StreamWrites', WHERE WHAT IT READS IS OF BULK AT MOST 1048576: true; the input reads as it did. -/
def streamWritesUptoRow : OpenClaim := { program := "ytbgbmliladhpeaa", sum := "3d10f8f8dc8a93e2a489cbd73a60e41ece663501c6bb7a3957a2f4485cced18b", func := "locution/locutionlaw06.StreamWrites", spec := "streamWrites", unfollowed := true, recurses := true, apart := false, narrowed := true }
def StreamWritesUptoSaid : Prop := streamWritesUptoRow.holds Try.pinned (OpenSpec.upto streamWritesSpec)

/-- 'locutionlaw06.StreamReads', WHERE WHAT IT READS IS OF BULK AT MOST 1048576: true; the input reads as it did. -/
def streamReadsUptoRow : OpenClaim := { program := "ytbgbmliladhpeaa", sum := "3d10f8f8dc8a93e2a489cbd73a60e41ece663501c6bb7a3957a2f4485cced18b", func := "locution/locutionlaw06.StreamReads", spec := "streamReads", unfollowed := true, recurses := true, apart := false, narrowed := true }
def StreamReadsUptoSaid : Prop := streamReadsUptoRow.holds Try.pinned (OpenSpec.upto streamReadsSpec)

/-- 'locutionlaw06.StreamNone', WHERE WHAT IT READS IS OF BULK AT MOST 1048576: true; the input reads as it did. -/
def streamNoneUptoRow : OpenClaim := { program := "ytbgbmliladhpeaa", sum := "3d10f8f8dc8a93e2a489cbd73a60e41ece663501c6bb7a3957a2f4485cced18b", func := "locution/locutionlaw06.StreamNone", spec := "streamNone", unfollowed := true, recurses := true, apart := false, narrowed := true }
def StreamNoneUptoSaid : Prop := streamNoneUptoRow.holds Try.pinned (OpenSpec.upto streamNoneSpec)

/-- 'locutionlaw06.StreamBack', WHERE WHAT IT READS IS OF BULK AT MOST 1048576: true; the input reads as it did. -/
def streamBackUptoRow : OpenClaim := { program := "ytbgbmliladhpeaa", sum := "3d10f8f8dc8a93e2a489cbd73a60e41ece663501c6bb7a3957a2f4485cced18b", func := "locution/locutionlaw06.StreamBack", spec := "streamBack", unfollowed := true, recurses := true, apart := false, narrowed := true }
def StreamBackUptoSaid : Prop := streamBackUptoRow.holds Try.pinned (OpenSpec.upto streamBackSpec)

/-- 'locutionlaw07.SeqNext', WHERE WHAT IT READS IS OF BULK AT MOST 1048576: true; the input reads as it did. -/
def seqNextUptoRow : OpenClaim := { program := "ytbgbmliladhpeaa", sum := "3d10f8f8dc8a93e2a489cbd73a60e41ece663501c6bb7a3957a2f4485cced18b", func := "locution/locutionlaw07.SeqNext", spec := "seqNext", unfollowed := true, recurses := true, apart := false, narrowed := true }
def SeqNextUptoSaid : Prop := seqNextUptoRow.holds Try.pinned (OpenSpec.upto seqNextSpec)

/-- 'locutionlaw07.SeqFinds', WHERE WHAT IT READS IS OF BULK AT MOST 1048576: true; the input reads as it did. -/
def seqFindsUptoRow : OpenClaim := { program := "ytbgbmliladhpeaa", sum := "3d10f8f8dc8a93e2a489cbd73a60e41ece663501c6bb7a3957a2f4485cced18b", func := "locution/locutionlaw07.SeqFinds", spec := "seqFinds", unfollowed := true, recurses := true, apart := false, narrowed := true }
def SeqFindsUptoSaid : Prop := seqFindsUptoRow.holds Try.pinned (OpenSpec.upto seqFindsSpec)

/-- 'locutionlaw07.SeqSize', WHERE WHAT IT READS IS OF BULK AT MOST 1048576: true; the input reads as it did. -/
def seqSizeUptoRow : OpenClaim := { program := "ytbgbmliladhpeaa", sum := "3d10f8f8dc8a93e2a489cbd73a60e41ece663501c6bb7a3957a2f4485cced18b", func := "locution/locutionlaw07.SeqSize", spec := "seqSize", unfollowed := true, recurses := true, apart := false, narrowed := true }
def SeqSizeUptoSaid : Prop := seqSizeUptoRow.holds Try.pinned (OpenSpec.upto seqSizeSpec)

/-- 'locutionlaw07.SeqMakes', WHERE WHAT IT READS IS OF BULK AT MOST 1048576: true; the input reads as it did. -/
def seqMakesUptoRow : OpenClaim := { program := "ytbgbmliladhpeaa", sum := "3d10f8f8dc8a93e2a489cbd73a60e41ece663501c6bb7a3957a2f4485cced18b", func := "locution/locutionlaw07.SeqMakes", spec := "seqMakes", unfollowed := true, recurses := true, apart := false, narrowed := true }
def SeqMakesUptoSaid : Prop := seqMakesUptoRow.holds Try.pinned (OpenSpec.upto seqMakesSpec)

/-- 'locutionlaw09.PrefixSums', WHERE WHAT IT READS IS OF BULK AT MOST 1048576: true; the input reads as it did. -/
def prefixSumsUptoRow : OpenClaim := { program := "ytbgbmliladhpeaa", sum := "3d10f8f8dc8a93e2a489cbd73a60e41ece663501c6bb7a3957a2f4485cced18b", func := "locution/locutionlaw09.PrefixSums", spec := "prefixSums", unfollowed := true, recurses := true, apart := false, narrowed := true }
def PrefixSumsUptoSaid : Prop := prefixSumsUptoRow.holds Try.pinned (OpenSpec.upto prefixSumsSpec)

/-- 'locutionlaw09.PrefixUnits', WHERE WHAT IT READS IS OF BULK AT MOST 1048576: true; the input reads as it did. -/
def prefixUnitsUptoRow : OpenClaim := { program := "ytbgbmliladhpeaa", sum := "3d10f8f8dc8a93e2a489cbd73a60e41ece663501c6bb7a3957a2f4485cced18b", func := "locution/locutionlaw09.PrefixUnits", spec := "prefixUnits", unfollowed := true, recurses := true, apart := false, narrowed := true }
def PrefixUnitsUptoSaid : Prop := prefixUnitsUptoRow.holds Try.pinned (OpenSpec.upto prefixUnitsSpec)

/-- 'locutionlaw09.PrefixMakes', WHERE WHAT IT READS IS OF BULK AT MOST 1048576: true; the input reads as it did. -/
def prefixMakesUptoRow : OpenClaim := { program := "ytbgbmliladhpeaa", sum := "3d10f8f8dc8a93e2a489cbd73a60e41ece663501c6bb7a3957a2f4485cced18b", func := "locution/locutionlaw09.PrefixMakes", spec := "prefixMakes", unfollowed := true, recurses := true, apart := false, narrowed := true }
def PrefixMakesUptoSaid : Prop := prefixMakesUptoRow.holds Try.pinned (OpenSpec.upto prefixMakesSpec)

end Rows
end Go.Proofs.Ytbgbmliladhpeaa
