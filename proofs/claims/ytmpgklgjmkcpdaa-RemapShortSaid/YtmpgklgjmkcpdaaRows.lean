/-
  No cell of these rows narrows 'for every input' (looked for: loops, veiled, ifaces, maps, wideKeys, modest, calm, conditions, laid).
  DERIVED. THE GIVEN ROWS OF THIS SEAT. 11 by the template 'for every input the law returns true; each argument reads behind the call as it read before'; 0 by the template 'total and deterministic' (their statements: YtmpgklgjmkcpdaaTotals.lean).
  GIVEN WITH THE SEED: the statements are not yours to turn. If you find one false, say at which input.
  Laid BY PROGRAM, IN A SANDBOX (cutbox-rows.mjs): the forced cells as the released guide's own fill.sh prints them over the translation 6ed7b5ccaa10458a… (all of the seat's roots in one cut). By AI agents, Wed Nov 11 2026. No macro, syntax, notation, axiom, sorry.
-/
import Derived.Test.YtmpgklgjmkcpdaaChecked
import GoSem.Claim
import GoSem.ClaimJoined
import GoSem.ClaimMapViews
import Derived.JoinedTies
import Derived.KernelRfl
namespace Go.Proofs.Ytmpgklgjmkcpdaa
/- THE CELL 'sum', in the pinned program and in every row, IS THE sha256 OF THE DUMP (.gsa) THAT YtmpgklgjmkcpdaaProg.lean LOADS. Nothing in Lean hashes anything: it is a label: what it is worth is what the hold of that sum in a sandbox is worth. -/
noncomputable def Try.pinned : Pinned := { name := "ytmpgklgjmkcpdaa", sum := "6ed7b5ccaa10458ab74ca9e8ffa0efeabed30178725cb8132e687bb5fe4e651b", checked := Try.checked }
namespace Rows
def none {H : Type} : Left H := { results := [], args := [] }

/-- 'locutionlaw08.ShardNext': WHATEVER THE INPUT: true; the input reads as it did. -/
def shardNextSpec : ChangeSpec := { name := "shardNext", fn := fun _ => fun
  | [d1, d2] => { results := [.lit (.bool true)], args := [d1, d2] }
  | _ => none }
def shardNextRow : OpenClaim := { program := "ytmpgklgjmkcpdaa", sum := "6ed7b5ccaa10458ab74ca9e8ffa0efeabed30178725cb8132e687bb5fe4e651b", func := "locution/locutionlaw08.ShardNext", spec := "shardNext", unfollowed := true, recurses := true, apart := false }
def ShardNextSaid : Prop := shardNextRow.holds Try.pinned (OpenSpec.ofChange shardNextSpec)

/-- ITS FALSE NEIGHBOUR: 'it returns false'. Refute it at one input. -/
def shardNextWrong : ChangeSpec := { name := "shardNext", fn := fun _ => fun
  | [d1, d2] => { results := [.lit (.bool false)], args := [d1, d2] }
  | _ => none }
def ShardNextWrongFalsely : Prop := shardNextRow.holds Try.pinned (OpenSpec.ofChange shardNextWrong)

/-- 'locutionlaw08.ShardGoes': WHATEVER THE INPUT: true; the input reads as it did. -/
def shardGoesSpec : ChangeSpec := { name := "shardGoes", fn := fun _ => fun
  | [d1, d2] => { results := [.lit (.bool true)], args := [d1, d2] }
  | _ => none }
def shardGoesRow : OpenClaim := { program := "ytmpgklgjmkcpdaa", sum := "6ed7b5ccaa10458ab74ca9e8ffa0efeabed30178725cb8132e687bb5fe4e651b", func := "locution/locutionlaw08.ShardGoes", spec := "shardGoes", unfollowed := true, recurses := true, apart := false }
def ShardGoesSaid : Prop := shardGoesRow.holds Try.pinned (OpenSpec.ofChange shardGoesSpec)

/-- ITS FALSE NEIGHBOUR: 'it returns false'. Refute it at one input. -/
def shardGoesWrong : ChangeSpec := { name := "shardGoes", fn := fun _ => fun
  | [d1, d2] => { results := [.lit (.bool false)], args := [d1, d2] }
  | _ => none }
def ShardGoesWrongFalsely : Prop := shardGoesRow.holds Try.pinned (OpenSpec.ofChange shardGoesWrong)

/-- 'locutionlaw08.ShardMakes': WHATEVER THE INPUT: true; the input reads as it did. -/
def shardMakesSpec : ChangeSpec := { name := "shardMakes", fn := fun _ => fun
  | [d1, d2] => { results := [.lit (.bool true)], args := [d1, d2] }
  | _ => none }
def shardMakesRow : OpenClaim := { program := "ytmpgklgjmkcpdaa", sum := "6ed7b5ccaa10458ab74ca9e8ffa0efeabed30178725cb8132e687bb5fe4e651b", func := "locution/locutionlaw08.ShardMakes", spec := "shardMakes", unfollowed := true, recurses := true, apart := false }
def ShardMakesSaid : Prop := shardMakesRow.holds Try.pinned (OpenSpec.ofChange shardMakesSpec)

/-- ITS FALSE NEIGHBOUR: 'it returns false'. Refute it at one input. -/
def shardMakesWrong : ChangeSpec := { name := "shardMakes", fn := fun _ => fun
  | [d1, d2] => { results := [.lit (.bool false)], args := [d1, d2] }
  | _ => none }
def ShardMakesWrongFalsely : Prop := shardMakesRow.holds Try.pinned (OpenSpec.ofChange shardMakesWrong)

/-- 'locutionlaw08.ShardKinds': WHATEVER THE INPUT: true; the input reads as it did. -/
def shardKindsSpec : ChangeSpec := { name := "shardKinds", fn := fun _ => fun
  | [d] => { results := [.lit (.bool true)], args := [d] }
  | _ => none }
def shardKindsRow : OpenClaim := { program := "ytmpgklgjmkcpdaa", sum := "6ed7b5ccaa10458ab74ca9e8ffa0efeabed30178725cb8132e687bb5fe4e651b", func := "locution/locutionlaw08.ShardKinds", spec := "shardKinds", unfollowed := true, recurses := true, apart := false }
def ShardKindsSaid : Prop := shardKindsRow.holds Try.pinned (OpenSpec.ofChange shardKindsSpec)

/-- ITS FALSE NEIGHBOUR: 'it returns false'. Refute it at one input. -/
def shardKindsWrong : ChangeSpec := { name := "shardKinds", fn := fun _ => fun
  | [d] => { results := [.lit (.bool false)], args := [d] }
  | _ => none }
def ShardKindsWrongFalsely : Prop := shardKindsRow.holds Try.pinned (OpenSpec.ofChange shardKindsWrong)

/-- 'locutionlaw33.RowsFind': WHATEVER THE INPUT: true; the input reads as it did. -/
def rowsFindSpec : ChangeSpec := { name := "rowsFind", fn := fun _ => fun
  | [d1, d2, d3] => { results := [.lit (.bool true)], args := [d1, d2, d3] }
  | _ => none }
def rowsFindRow : OpenClaim := { program := "ytmpgklgjmkcpdaa", sum := "6ed7b5ccaa10458ab74ca9e8ffa0efeabed30178725cb8132e687bb5fe4e651b", func := "locution/locutionlaw33.RowsFind", spec := "rowsFind", unfollowed := true, recurses := true, apart := false }
def RowsFindSaid : Prop := rowsFindRow.holds Try.pinned (OpenSpec.ofChange rowsFindSpec)

/-- ITS FALSE NEIGHBOUR: 'it returns false'. Refute it at one input. -/
def rowsFindWrong : ChangeSpec := { name := "rowsFind", fn := fun _ => fun
  | [d1, d2, d3] => { results := [.lit (.bool false)], args := [d1, d2, d3] }
  | _ => none }
def RowsFindWrongFalsely : Prop := rowsFindRow.holds Try.pinned (OpenSpec.ofChange rowsFindWrong)

/-- 'locutionlaw33.RowsMake': WHATEVER THE INPUT: true; the input reads as it did. -/
def rowsMakeSpec : ChangeSpec := { name := "rowsMake", fn := fun _ => fun
  | [d1, d2] => { results := [.lit (.bool true)], args := [d1, d2] }
  | _ => none }
def rowsMakeRow : OpenClaim := { program := "ytmpgklgjmkcpdaa", sum := "6ed7b5ccaa10458ab74ca9e8ffa0efeabed30178725cb8132e687bb5fe4e651b", func := "locution/locutionlaw33.RowsMake", spec := "rowsMake", unfollowed := true, recurses := true, apart := false }
def RowsMakeSaid : Prop := rowsMakeRow.holds Try.pinned (OpenSpec.ofChange rowsMakeSpec)

/-- ITS FALSE NEIGHBOUR: 'it returns false'. Refute it at one input. -/
def rowsMakeWrong : ChangeSpec := { name := "rowsMake", fn := fun _ => fun
  | [d1, d2] => { results := [.lit (.bool false)], args := [d1, d2] }
  | _ => none }
def RowsMakeWrongFalsely : Prop := rowsMakeRow.holds Try.pinned (OpenSpec.ofChange rowsMakeWrong)

/-- 'locutionlaw33.RowsOf': WHATEVER THE INPUT: true; the input reads as it did. -/
def rowsOfSpec : ChangeSpec := { name := "rowsOf", fn := fun _ => fun
  | [d1, d2] => { results := [.lit (.bool true)], args := [d1, d2] }
  | _ => none }
def rowsOfRow : OpenClaim := { program := "ytmpgklgjmkcpdaa", sum := "6ed7b5ccaa10458ab74ca9e8ffa0efeabed30178725cb8132e687bb5fe4e651b", func := "locution/locutionlaw33.RowsOf", spec := "rowsOf", unfollowed := true, recurses := true, apart := false }
def RowsOfSaid : Prop := rowsOfRow.holds Try.pinned (OpenSpec.ofChange rowsOfSpec)

/-- ITS FALSE NEIGHBOUR: 'it returns false'. Refute it at one input. -/
def rowsOfWrong : ChangeSpec := { name := "rowsOf", fn := fun _ => fun
  | [d1, d2] => { results := [.lit (.bool false)], args := [d1, d2] }
  | _ => none }
def RowsOfWrongFalsely : Prop := rowsOfRow.holds Try.pinned (OpenSpec.ofChange rowsOfWrong)

/-- 'locutionlaw33.RowsGo': WHATEVER THE INPUT: true; the input reads as it did. -/
def rowsGoSpec : ChangeSpec := { name := "rowsGo", fn := fun _ => fun
  | [d1, d2, d3] => { results := [.lit (.bool true)], args := [d1, d2, d3] }
  | _ => none }
def rowsGoRow : OpenClaim := { program := "ytmpgklgjmkcpdaa", sum := "6ed7b5ccaa10458ab74ca9e8ffa0efeabed30178725cb8132e687bb5fe4e651b", func := "locution/locutionlaw33.RowsGo", spec := "rowsGo", unfollowed := true, recurses := true, apart := false }
def RowsGoSaid : Prop := rowsGoRow.holds Try.pinned (OpenSpec.ofChange rowsGoSpec)

/-- ITS FALSE NEIGHBOUR: 'it returns false'. Refute it at one input. -/
def rowsGoWrong : ChangeSpec := { name := "rowsGo", fn := fun _ => fun
  | [d1, d2, d3] => { results := [.lit (.bool false)], args := [d1, d2, d3] }
  | _ => none }
def RowsGoWrongFalsely : Prop := rowsGoRow.holds Try.pinned (OpenSpec.ofChange rowsGoWrong)

/-- 'locutionlaw34.RemapMakes': WHATEVER THE INPUT: true; the input reads as it did. -/
def remapMakesSpec : ChangeSpec := { name := "remapMakes", fn := fun _ => fun
  | [d1, d2, d3] => { results := [.lit (.bool true)], args := [d1, d2, d3] }
  | _ => none }
def remapMakesRow : OpenClaim := { program := "ytmpgklgjmkcpdaa", sum := "6ed7b5ccaa10458ab74ca9e8ffa0efeabed30178725cb8132e687bb5fe4e651b", func := "locution/locutionlaw34.RemapMakes", spec := "remapMakes", unfollowed := true, recurses := true, apart := false }
def RemapMakesSaid : Prop := remapMakesRow.holds Try.pinned (OpenSpec.ofChange remapMakesSpec)

/-- ITS FALSE NEIGHBOUR: 'it returns false'. Refute it at one input. -/
def remapMakesWrong : ChangeSpec := { name := "remapMakes", fn := fun _ => fun
  | [d1, d2, d3] => { results := [.lit (.bool false)], args := [d1, d2, d3] }
  | _ => none }
def RemapMakesWrongFalsely : Prop := remapMakesRow.holds Try.pinned (OpenSpec.ofChange remapMakesWrong)

/-- 'locutionlaw34.RemapAll': WHATEVER THE INPUT: true; the input reads as it did. -/
def remapAllSpec : ChangeSpec := { name := "remapAll", fn := fun _ => fun
  | [d1, d2] => { results := [.lit (.bool true)], args := [d1, d2] }
  | _ => none }
def remapAllRow : OpenClaim := { program := "ytmpgklgjmkcpdaa", sum := "6ed7b5ccaa10458ab74ca9e8ffa0efeabed30178725cb8132e687bb5fe4e651b", func := "locution/locutionlaw34.RemapAll", spec := "remapAll", unfollowed := true, recurses := true, apart := false }
def RemapAllSaid : Prop := remapAllRow.holds Try.pinned (OpenSpec.ofChange remapAllSpec)

/-- ITS FALSE NEIGHBOUR: 'it returns false'. Refute it at one input. -/
def remapAllWrong : ChangeSpec := { name := "remapAll", fn := fun _ => fun
  | [d1, d2] => { results := [.lit (.bool false)], args := [d1, d2] }
  | _ => none }
def RemapAllWrongFalsely : Prop := remapAllRow.holds Try.pinned (OpenSpec.ofChange remapAllWrong)

/-- 'locutionlaw34.RemapShort': WHATEVER THE INPUT: true; the input reads as it did. -/
def remapShortSpec : ChangeSpec := { name := "remapShort", fn := fun _ => fun
  | [d1, d2, d3] => { results := [.lit (.bool true)], args := [d1, d2, d3] }
  | _ => none }
def remapShortRow : OpenClaim := { program := "ytmpgklgjmkcpdaa", sum := "6ed7b5ccaa10458ab74ca9e8ffa0efeabed30178725cb8132e687bb5fe4e651b", func := "locution/locutionlaw34.RemapShort", spec := "remapShort", unfollowed := true, recurses := true, apart := false }
def RemapShortSaid : Prop := remapShortRow.holds Try.pinned (OpenSpec.ofChange remapShortSpec)

/-- ITS FALSE NEIGHBOUR: 'it returns false'. Refute it at one input. -/
def remapShortWrong : ChangeSpec := { name := "remapShort", fn := fun _ => fun
  | [d1, d2, d3] => { results := [.lit (.bool false)], args := [d1, d2, d3] }
  | _ => none }
def RemapShortWrongFalsely : Prop := remapShortRow.holds Try.pinned (OpenSpec.ofChange remapShortWrong)

/- THE SECOND FORM. 'bulk': how many values and letters a reading holds, each counted each time it is reached (what is shared counts as often as it is met; a slice's spare places count too). A statement '..UptoSaid' is the law's where the arguments, and the package variables that the reading takes, are together of bulk at most 1048576: NARROWER than '..Said'. Prove '..Said' where nothing that the law and all that it calls make is longer than what came in: it says more and counts as full. Else prove '..UptoSaid'. A law counts once. -/
mutual
def uptoBulk {H : Type} : DataW H → Nat
  | .lit (.string bytes) => bytes.length + 1
  | .lit _ => 1
  | .nil => 1
  | .ptr d => uptoBulk d + 1
  | .slice elems spare => uptoBulkAll elems + uptoBulkAll spare + 1
  | .agg parts => uptoBulkAll parts + 1
  | .iface _ d => uptoBulk d + 1
  | .map entries => uptoBulkEntries entries + 1
  | .held _ => 1
def uptoBulkAll {H : Type} : List (DataW H) → Nat
  | [] => 0
  | d :: r => uptoBulk d + uptoBulkAll r
def uptoBulkEntries {H : Type} : List (Lit × DataW H) → Nat
  | [] => 0
  | x :: r => uptoBulkEntry x + uptoBulkEntries r
def uptoBulkEntry {H : Type} : Lit × DataW H → Nat
  | (.string bytes, d) => bytes.length + uptoBulk d + 1
  | (_, d) => uptoBulk d + 1
 end
def uptoSmall : (H : Type) → List (DataW H) → Bool := fun _ ds => decide (uptoBulkAll ds ≤ 1048576)
def OpenSpec.upto (s : _root_.Go.ChangeSpec) : _root_.Go.OpenSpec := { _root_.Go.OpenSpec.ofChange s with cond := some uptoSmall }

/-- 'locutionlaw08.ShardNext', WHERE WHAT IT READS IS OF BULK AT MOST 1048576: true; the input reads as it did. -/
def shardNextUptoRow : OpenClaim := { program := "ytmpgklgjmkcpdaa", sum := "6ed7b5ccaa10458ab74ca9e8ffa0efeabed30178725cb8132e687bb5fe4e651b", func := "locution/locutionlaw08.ShardNext", spec := "shardNext", unfollowed := true, recurses := true, apart := false, narrowed := true }
def ShardNextUptoSaid : Prop := shardNextUptoRow.holds Try.pinned (OpenSpec.upto shardNextSpec)

/-- 'locutionlaw08.ShardGoes', WHERE WHAT IT READS IS OF BULK AT MOST 1048576: true; the input reads as it did. -/
def shardGoesUptoRow : OpenClaim := { program := "ytmpgklgjmkcpdaa", sum := "6ed7b5ccaa10458ab74ca9e8ffa0efeabed30178725cb8132e687bb5fe4e651b", func := "locution/locutionlaw08.ShardGoes", spec := "shardGoes", unfollowed := true, recurses := true, apart := false, narrowed := true }
def ShardGoesUptoSaid : Prop := shardGoesUptoRow.holds Try.pinned (OpenSpec.upto shardGoesSpec)

/-- 'locutionlaw08.ShardMakes', WHERE WHAT IT READS IS OF BULK AT MOST 1048576: true; the input reads as it did. -/
def shardMakesUptoRow : OpenClaim := { program := "ytmpgklgjmkcpdaa", sum := "6ed7b5ccaa10458ab74ca9e8ffa0efeabed30178725cb8132e687bb5fe4e651b", func := "locution/locutionlaw08.ShardMakes", spec := "shardMakes", unfollowed := true, recurses := true, apart := false, narrowed := true }
def ShardMakesUptoSaid : Prop := shardMakesUptoRow.holds Try.pinned (OpenSpec.upto shardMakesSpec)

/-- 'locutionlaw08.ShardKinds', WHERE WHAT IT READS IS OF BULK AT MOST 1048576: true; the input reads as it did. -/
def shardKindsUptoRow : OpenClaim := { program := "ytmpgklgjmkcpdaa", sum := "6ed7b5ccaa10458ab74ca9e8ffa0efeabed30178725cb8132e687bb5fe4e651b", func := "locution/locutionlaw08.ShardKinds", spec := "shardKinds", unfollowed := true, recurses := true, apart := false, narrowed := true }
def ShardKindsUptoSaid : Prop := shardKindsUptoRow.holds Try.pinned (OpenSpec.upto shardKindsSpec)

/-- 'locutionlaw33.RowsFind', WHERE WHAT IT READS IS OF BULK AT MOST 1048576: true; the input reads as it did. -/
def rowsFindUptoRow : OpenClaim := { program := "ytmpgklgjmkcpdaa", sum := "6ed7b5ccaa10458ab74ca9e8ffa0efeabed30178725cb8132e687bb5fe4e651b", func := "locution/locutionlaw33.RowsFind", spec := "rowsFind", unfollowed := true, recurses := true, apart := false, narrowed := true }
def RowsFindUptoSaid : Prop := rowsFindUptoRow.holds Try.pinned (OpenSpec.upto rowsFindSpec)

/-- 'locutionlaw33.RowsMake', WHERE WHAT IT READS IS OF BULK AT MOST 1048576: true; the input reads as it did. -/
def rowsMakeUptoRow : OpenClaim := { program := "ytmpgklgjmkcpdaa", sum := "6ed7b5ccaa10458ab74ca9e8ffa0efeabed30178725cb8132e687bb5fe4e651b", func := "locution/locutionlaw33.RowsMake", spec := "rowsMake", unfollowed := true, recurses := true, apart := false, narrowed := true }
def RowsMakeUptoSaid : Prop := rowsMakeUptoRow.holds Try.pinned (OpenSpec.upto rowsMakeSpec)

/-- 'locutionlaw33.RowsOf', WHERE WHAT IT READS IS OF BULK AT MOST 1048576: true; the input reads as it did. -/
def rowsOfUptoRow : OpenClaim := { program := "ytmpgklgjmkcpdaa", sum := "6ed7b5ccaa10458ab74ca9e8ffa0efeabed30178725cb8132e687bb5fe4e651b", func := "locution/locutionlaw33.RowsOf", spec := "rowsOf", unfollowed := true, recurses := true, apart := false, narrowed := true }
def RowsOfUptoSaid : Prop := rowsOfUptoRow.holds Try.pinned (OpenSpec.upto rowsOfSpec)

/-- 'locutionlaw33.RowsGo', WHERE WHAT IT READS IS OF BULK AT MOST 1048576: true; the input reads as it did. -/
def rowsGoUptoRow : OpenClaim := { program := "ytmpgklgjmkcpdaa", sum := "6ed7b5ccaa10458ab74ca9e8ffa0efeabed30178725cb8132e687bb5fe4e651b", func := "locution/locutionlaw33.RowsGo", spec := "rowsGo", unfollowed := true, recurses := true, apart := false, narrowed := true }
def RowsGoUptoSaid : Prop := rowsGoUptoRow.holds Try.pinned (OpenSpec.upto rowsGoSpec)

/-- 'locutionlaw34.RemapMakes', WHERE WHAT IT READS IS OF BULK AT MOST 1048576: true; the input reads as it did. -/
def remapMakesUptoRow : OpenClaim := { program := "ytmpgklgjmkcpdaa", sum := "6ed7b5ccaa10458ab74ca9e8ffa0efeabed30178725cb8132e687bb5fe4e651b", func := "locution/locutionlaw34.RemapMakes", spec := "remapMakes", unfollowed := true, recurses := true, apart := false, narrowed := true }
def RemapMakesUptoSaid : Prop := remapMakesUptoRow.holds Try.pinned (OpenSpec.upto remapMakesSpec)

/-- 'locutionlaw34.RemapAll', WHERE WHAT IT READS IS OF BULK AT MOST 1048576: true; the input reads as it did. -/
def remapAllUptoRow : OpenClaim := { program := "ytmpgklgjmkcpdaa", sum := "6ed7b5ccaa10458ab74ca9e8ffa0efeabed30178725cb8132e687bb5fe4e651b", func := "locution/locutionlaw34.RemapAll", spec := "remapAll", unfollowed := true, recurses := true, apart := false, narrowed := true }
def RemapAllUptoSaid : Prop := remapAllUptoRow.holds Try.pinned (OpenSpec.upto remapAllSpec)

/-- 'locutionlaw34.RemapShort', WHERE WHAT IT READS IS OF BULK AT MOST 1048576: true; the input reads as it did. -/
def remapShortUptoRow : OpenClaim := { program := "ytmpgklgjmkcpdaa", sum := "6ed7b5ccaa10458ab74ca9e8ffa0efeabed30178725cb8132e687bb5fe4e651b", func := "locution/locutionlaw34.RemapShort", spec := "remapShort", unfollowed := true, recurses := true, apart := false, narrowed := true }
def RemapShortUptoSaid : Prop := remapShortUptoRow.holds Try.pinned (OpenSpec.upto remapShortSpec)

end Rows
end Go.Proofs.Ytmpgklgjmkcpdaa
