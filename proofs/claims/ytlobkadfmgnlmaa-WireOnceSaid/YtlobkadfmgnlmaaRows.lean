/-
  No cell of these rows narrows 'for every input' (looked for: loops, veiled, ifaces, maps, wideKeys, modest, calm, conditions, laid).
  DERIVED. THE GIVEN ROWS OF THIS SEAT. 11 by the template 'for every input the law returns true; each argument reads behind the call as it read before'; 0 by the template 'total and deterministic' (their statements: YtlobkadfmgnlmaaTotals.lean).
  GIVEN WITH THE SEED: the statements are not yours to turn. If you find one false, say at which input.
  Laid BY PROGRAM, IN A SANDBOX (cutbox-rows.mjs): the forced cells as the released guide's own fill.sh prints them over the translation fba0017c1fbaf69c… (all of the seat's roots in one cut). By AI agents, Wed Nov 11 2026. No macro, syntax, notation, axiom, sorry.
-/
import Derived.Test.YtlobkadfmgnlmaaChecked
import GoSem.Claim
import GoSem.ClaimJoined
import GoSem.ClaimMapViews
import Derived.JoinedTies
import Derived.KernelRfl
namespace Go.Proofs.Ytlobkadfmgnlmaa
/- THE CELL 'sum', in the pinned program and in every row, IS THE sha256 OF THE DUMP (.gsa) THAT YtlobkadfmgnlmaaProg.lean LOADS. Nothing in Lean hashes anything: it is a label: what it is worth is what the hold of that sum in a sandbox is worth. -/
noncomputable def Try.pinned : Pinned := { name := "ytlobkadfmgnlmaa", sum := "fba0017c1fbaf69c23844bd5559a13dfe64514a63377cfd2706e3093b8115a3b", checked := Try.checked }
namespace Rows
def none {H : Type} : Left H := { results := [], args := [] }

/-- 'locutionlaw01.LaneCounts': WHATEVER THE INPUT: true; the input reads as it did. -/
def laneCountsSpec : ChangeSpec := { name := "laneCounts", fn := fun _ => fun
  | [d1, d2] => { results := [.lit (.bool true)], args := [d1, d2] }
  | _ => none }
def laneCountsRow : OpenClaim := { program := "ytlobkadfmgnlmaa", sum := "fba0017c1fbaf69c23844bd5559a13dfe64514a63377cfd2706e3093b8115a3b", func := "locution/locutionlaw01.LaneCounts", spec := "laneCounts", apart := false }
def LaneCountsSaid : Prop := laneCountsRow.holds Try.pinned (OpenSpec.ofChange laneCountsSpec)

/-- ITS FALSE NEIGHBOUR: 'it returns false'. Refute it at one input. -/
def laneCountsWrong : ChangeSpec := { name := "laneCounts", fn := fun _ => fun
  | [d1, d2] => { results := [.lit (.bool false)], args := [d1, d2] }
  | _ => none }
def LaneCountsWrongFalsely : Prop := laneCountsRow.holds Try.pinned (OpenSpec.ofChange laneCountsWrong)

/-- 'locutionlaw01.LaneSelects': WHATEVER THE INPUT: true; the input reads as it did. -/
def laneSelectsSpec : ChangeSpec := { name := "laneSelects", fn := fun _ => fun
  | [d1, d2] => { results := [.lit (.bool true)], args := [d1, d2] }
  | _ => none }
def laneSelectsRow : OpenClaim := { program := "ytlobkadfmgnlmaa", sum := "fba0017c1fbaf69c23844bd5559a13dfe64514a63377cfd2706e3093b8115a3b", func := "locution/locutionlaw01.LaneSelects", spec := "laneSelects", apart := false }
def LaneSelectsSaid : Prop := laneSelectsRow.holds Try.pinned (OpenSpec.ofChange laneSelectsSpec)

/-- ITS FALSE NEIGHBOUR: 'it returns false'. Refute it at one input. -/
def laneSelectsWrong : ChangeSpec := { name := "laneSelects", fn := fun _ => fun
  | [d1, d2] => { results := [.lit (.bool false)], args := [d1, d2] }
  | _ => none }
def LaneSelectsWrongFalsely : Prop := laneSelectsRow.holds Try.pinned (OpenSpec.ofChange laneSelectsWrong)

/-- 'locutionlaw01.LaneCuts': WHATEVER THE INPUT: true; the input reads as it did. -/
def laneCutsSpec : ChangeSpec := { name := "laneCuts", fn := fun _ => fun
  | [d1, d2, d3] => { results := [.lit (.bool true)], args := [d1, d2, d3] }
  | _ => none }
def laneCutsRow : OpenClaim := { program := "ytlobkadfmgnlmaa", sum := "fba0017c1fbaf69c23844bd5559a13dfe64514a63377cfd2706e3093b8115a3b", func := "locution/locutionlaw01.LaneCuts", spec := "laneCuts", apart := false }
def LaneCutsSaid : Prop := laneCutsRow.holds Try.pinned (OpenSpec.ofChange laneCutsSpec)

/-- ITS FALSE NEIGHBOUR: 'it returns false'. Refute it at one input. -/
def laneCutsWrong : ChangeSpec := { name := "laneCuts", fn := fun _ => fun
  | [d1, d2, d3] => { results := [.lit (.bool false)], args := [d1, d2, d3] }
  | _ => none }
def LaneCutsWrongFalsely : Prop := laneCutsRow.holds Try.pinned (OpenSpec.ofChange laneCutsWrong)

/-- 'locutionlaw10.WireWrites': WHATEVER THE INPUT: true; the input reads as it did. -/
def wireWritesSpec : ChangeSpec := { name := "wireWrites", fn := fun _ => fun
  | [d] => { results := [.lit (.bool true)], args := [d] }
  | _ => none }
def wireWritesRow : OpenClaim := { program := "ytlobkadfmgnlmaa", sum := "fba0017c1fbaf69c23844bd5559a13dfe64514a63377cfd2706e3093b8115a3b", func := "locution/locutionlaw10.WireWrites", spec := "wireWrites", unfollowed := true, recurses := true, apart := false }
def WireWritesSaid : Prop := wireWritesRow.holds Try.pinned (OpenSpec.ofChange wireWritesSpec)

/-- ITS FALSE NEIGHBOUR: 'it returns false'. Refute it at one input. -/
def wireWritesWrong : ChangeSpec := { name := "wireWrites", fn := fun _ => fun
  | [d] => { results := [.lit (.bool false)], args := [d] }
  | _ => none }
def WireWritesWrongFalsely : Prop := wireWritesRow.holds Try.pinned (OpenSpec.ofChange wireWritesWrong)

/-- 'locutionlaw10.WireBack': WHATEVER THE INPUT: true; the input reads as it did. -/
def wireBackSpec : ChangeSpec := { name := "wireBack", fn := fun _ => fun
  | [d1, d2] => { results := [.lit (.bool true)], args := [d1, d2] }
  | _ => none }
def wireBackRow : OpenClaim := { program := "ytlobkadfmgnlmaa", sum := "fba0017c1fbaf69c23844bd5559a13dfe64514a63377cfd2706e3093b8115a3b", func := "locution/locutionlaw10.WireBack", spec := "wireBack", unfollowed := true, recurses := true, apart := false }
def WireBackSaid : Prop := wireBackRow.holds Try.pinned (OpenSpec.ofChange wireBackSpec)

/-- ITS FALSE NEIGHBOUR: 'it returns false'. Refute it at one input. -/
def wireBackWrong : ChangeSpec := { name := "wireBack", fn := fun _ => fun
  | [d1, d2] => { results := [.lit (.bool false)], args := [d1, d2] }
  | _ => none }
def WireBackWrongFalsely : Prop := wireBackRow.holds Try.pinned (OpenSpec.ofChange wireBackWrong)

/-- 'locutionlaw10.WireReads': WHATEVER THE INPUT: true; the input reads as it did. -/
def wireReadsSpec : ChangeSpec := { name := "wireReads", fn := fun _ => fun
  | [d1, d2] => { results := [.lit (.bool true)], args := [d1, d2] }
  | _ => none }
def wireReadsRow : OpenClaim := { program := "ytlobkadfmgnlmaa", sum := "fba0017c1fbaf69c23844bd5559a13dfe64514a63377cfd2706e3093b8115a3b", func := "locution/locutionlaw10.WireReads", spec := "wireReads", unfollowed := true, recurses := true, apart := false }
def WireReadsSaid : Prop := wireReadsRow.holds Try.pinned (OpenSpec.ofChange wireReadsSpec)

/-- ITS FALSE NEIGHBOUR: 'it returns false'. Refute it at one input. -/
def wireReadsWrong : ChangeSpec := { name := "wireReads", fn := fun _ => fun
  | [d1, d2] => { results := [.lit (.bool false)], args := [d1, d2] }
  | _ => none }
def WireReadsWrongFalsely : Prop := wireReadsRow.holds Try.pinned (OpenSpec.ofChange wireReadsWrong)

/-- 'locutionlaw10.WireOnce': WHATEVER THE INPUT: true; the input reads as it did. -/
def wireOnceSpec : ChangeSpec := { name := "wireOnce", fn := fun _ => fun
  | [d1, d2] => { results := [.lit (.bool true)], args := [d1, d2] }
  | _ => none }
def wireOnceRow : OpenClaim := { program := "ytlobkadfmgnlmaa", sum := "fba0017c1fbaf69c23844bd5559a13dfe64514a63377cfd2706e3093b8115a3b", func := "locution/locutionlaw10.WireOnce", spec := "wireOnce", unfollowed := true, recurses := true, apart := false }
def WireOnceSaid : Prop := wireOnceRow.holds Try.pinned (OpenSpec.ofChange wireOnceSpec)

/-- ITS FALSE NEIGHBOUR: 'it returns false'. Refute it at one input. -/
def wireOnceWrong : ChangeSpec := { name := "wireOnce", fn := fun _ => fun
  | [d1, d2] => { results := [.lit (.bool false)], args := [d1, d2] }
  | _ => none }
def WireOnceWrongFalsely : Prop := wireOnceRow.holds Try.pinned (OpenSpec.ofChange wireOnceWrong)

/-- 'locutionlaw02.RowTells': WHATEVER THE INPUT: true; the input reads as it did. -/
def rowTellsSpec : ChangeSpec := { name := "rowTells", fn := fun _ => fun
  | [d1, d2, d3] => { results := [.lit (.bool true)], args := [d1, d2, d3] }
  | _ => none }
def rowTellsRow : OpenClaim := { program := "ytlobkadfmgnlmaa", sum := "fba0017c1fbaf69c23844bd5559a13dfe64514a63377cfd2706e3093b8115a3b", func := "locution/locutionlaw02.RowTells", spec := "rowTells", apart := false }
def RowTellsSaid : Prop := rowTellsRow.holds Try.pinned (OpenSpec.ofChange rowTellsSpec)

/-- ITS FALSE NEIGHBOUR: 'it returns false'. Refute it at one input. -/
def rowTellsWrong : ChangeSpec := { name := "rowTells", fn := fun _ => fun
  | [d1, d2, d3] => { results := [.lit (.bool false)], args := [d1, d2, d3] }
  | _ => none }
def RowTellsWrongFalsely : Prop := rowTellsRow.holds Try.pinned (OpenSpec.ofChange rowTellsWrong)

/-- 'locutionlaw02.RowAdds': WHATEVER THE INPUT: true; the input reads as it did. -/
def rowAddsSpec : ChangeSpec := { name := "rowAdds", fn := fun _ => fun
  | [d] => { results := [.lit (.bool true)], args := [d] }
  | _ => none }
def rowAddsRow : OpenClaim := { program := "ytlobkadfmgnlmaa", sum := "fba0017c1fbaf69c23844bd5559a13dfe64514a63377cfd2706e3093b8115a3b", func := "locution/locutionlaw02.RowAdds", spec := "rowAdds", apart := false }
def RowAddsSaid : Prop := rowAddsRow.holds Try.pinned (OpenSpec.ofChange rowAddsSpec)

/-- ITS FALSE NEIGHBOUR: 'it returns false'. Refute it at one input. -/
def rowAddsWrong : ChangeSpec := { name := "rowAdds", fn := fun _ => fun
  | [d] => { results := [.lit (.bool false)], args := [d] }
  | _ => none }
def RowAddsWrongFalsely : Prop := rowAddsRow.holds Try.pinned (OpenSpec.ofChange rowAddsWrong)

/-- 'locutionlaw02.RowSame': WHATEVER THE INPUT: true; the input reads as it did. -/
def rowSameSpec : ChangeSpec := { name := "rowSame", fn := fun _ => fun
  | [d1, d2, d3] => { results := [.lit (.bool true)], args := [d1, d2, d3] }
  | _ => none }
def rowSameRow : OpenClaim := { program := "ytlobkadfmgnlmaa", sum := "fba0017c1fbaf69c23844bd5559a13dfe64514a63377cfd2706e3093b8115a3b", func := "locution/locutionlaw02.RowSame", spec := "rowSame", apart := false }
def RowSameSaid : Prop := rowSameRow.holds Try.pinned (OpenSpec.ofChange rowSameSpec)

/-- ITS FALSE NEIGHBOUR: 'it returns false'. Refute it at one input. -/
def rowSameWrong : ChangeSpec := { name := "rowSame", fn := fun _ => fun
  | [d1, d2, d3] => { results := [.lit (.bool false)], args := [d1, d2, d3] }
  | _ => none }
def RowSameWrongFalsely : Prop := rowSameRow.holds Try.pinned (OpenSpec.ofChange rowSameWrong)

/-- 'locutionlaw02.RowOf': WHATEVER THE INPUT: true; the input reads as it did. -/
def rowOfSpec : ChangeSpec := { name := "rowOf", fn := fun _ => fun
  | [d1, d2] => { results := [.lit (.bool true)], args := [d1, d2] }
  | _ => none }
def rowOfRow : OpenClaim := { program := "ytlobkadfmgnlmaa", sum := "fba0017c1fbaf69c23844bd5559a13dfe64514a63377cfd2706e3093b8115a3b", func := "locution/locutionlaw02.RowOf", spec := "rowOf", apart := false }
def RowOfSaid : Prop := rowOfRow.holds Try.pinned (OpenSpec.ofChange rowOfSpec)

/-- ITS FALSE NEIGHBOUR: 'it returns false'. Refute it at one input. -/
def rowOfWrong : ChangeSpec := { name := "rowOf", fn := fun _ => fun
  | [d1, d2] => { results := [.lit (.bool false)], args := [d1, d2] }
  | _ => none }
def RowOfWrongFalsely : Prop := rowOfRow.holds Try.pinned (OpenSpec.ofChange rowOfWrong)

/- THE SECOND FORM. 'bulk': how many values and letters a reading holds, each counted each time it is reached (what is shared counts as often as it is met; a slice's spare places count too). A statement '..UptoSaid' is the law's where the arguments, and the package variables that the reading takes, are together of bulk at most 1048576: NARROWER than '..Said'. Prove '..Said' where nothing that the law and all that it calls make is longer than what came in: it says more and counts as full. Else prove '..UptoSaid'. A law counts once. -/
mutual
def uptoBulk {H : Type} : DataW H → Nat
  | .lit (.string bytes) => bytes.length + 1
  | .lit _ => 1
  | .nil => 1
  | .ptr d => uptoBulk d + 1
  | .slice elems spare => uptoBulkAll elems + uptoBulkAll spare + 1
  | .agg parts => uptoBulkAll parts + 1
  | .iface _ d => uptoBulk d + 1
  | .map entries => uptoBulkEntries entries + 1
  | .held _ => 1
def uptoBulkAll {H : Type} : List (DataW H) → Nat
  | [] => 0
  | d :: r => uptoBulk d + uptoBulkAll r
def uptoBulkEntries {H : Type} : List (Lit × DataW H) → Nat
  | [] => 0
  | x :: r => uptoBulkEntry x + uptoBulkEntries r
def uptoBulkEntry {H : Type} : Lit × DataW H → Nat
  | (.string bytes, d) => bytes.length + uptoBulk d + 1
  | (_, d) => uptoBulk d + 1
 end
def uptoSmall : (H : Type) → List (DataW H) → Bool := fun _ ds => decide (uptoBulkAll ds ≤ 1048576)
def OpenSpec.upto (s : _root_.Go.ChangeSpec) : _root_.Go.OpenSpec := { _root_.Go.OpenSpec.ofChange s with cond := some uptoSmall }

/-- 'locutionlaw01.LaneCounts', WHERE WHAT IT READS IS OF BULK AT MOST 1048576: true; the input reads as it did. -/
def laneCountsUptoRow : OpenClaim := { program := "ytlobkadfmgnlmaa", sum := "fba0017c1fbaf69c23844bd5559a13dfe64514a63377cfd2706e3093b8115a3b", func := "locution/locutionlaw01.LaneCounts", spec := "laneCounts", apart := false, narrowed := true }
def LaneCountsUptoSaid : Prop := laneCountsUptoRow.holds Try.pinned (OpenSpec.upto laneCountsSpec)

/-- 'locutionlaw01.LaneSelects', WHERE WHAT IT READS IS OF BULK AT MOST 1048576: true; the input reads as it did. -/
def laneSelectsUptoRow : OpenClaim := { program := "ytlobkadfmgnlmaa", sum := "fba0017c1fbaf69c23844bd5559a13dfe64514a63377cfd2706e3093b8115a3b", func := "locution/locutionlaw01.LaneSelects", spec := "laneSelects", apart := false, narrowed := true }
def LaneSelectsUptoSaid : Prop := laneSelectsUptoRow.holds Try.pinned (OpenSpec.upto laneSelectsSpec)

/-- 'locutionlaw01.LaneCuts', WHERE WHAT IT READS IS OF BULK AT MOST 1048576: true; the input reads as it did. -/
def laneCutsUptoRow : OpenClaim := { program := "ytlobkadfmgnlmaa", sum := "fba0017c1fbaf69c23844bd5559a13dfe64514a63377cfd2706e3093b8115a3b", func := "locution/locutionlaw01.LaneCuts", spec := "laneCuts", apart := false, narrowed := true }
def LaneCutsUptoSaid : Prop := laneCutsUptoRow.holds Try.pinned (OpenSpec.upto laneCutsSpec)

/-- 'locutionlaw10.WireWrites', WHERE WHAT IT READS IS OF BULK AT MOST 1048576: true; the input reads as it did. -/
def wireWritesUptoRow : OpenClaim := { program := "ytlobkadfmgnlmaa", sum := "fba0017c1fbaf69c23844bd5559a13dfe64514a63377cfd2706e3093b8115a3b", func := "locution/locutionlaw10.WireWrites", spec := "wireWrites", unfollowed := true, recurses := true, apart := false, narrowed := true }
def WireWritesUptoSaid : Prop := wireWritesUptoRow.holds Try.pinned (OpenSpec.upto wireWritesSpec)

/-- 'locutionlaw10.WireBack', WHERE WHAT IT READS IS OF BULK AT MOST 1048576: true; the input reads as it did. -/
def wireBackUptoRow : OpenClaim := { program := "ytlobkadfmgnlmaa", sum := "fba0017c1fbaf69c23844bd5559a13dfe64514a63377cfd2706e3093b8115a3b", func := "locution/locutionlaw10.WireBack", spec := "wireBack", unfollowed := true, recurses := true, apart := false, narrowed := true }
def WireBackUptoSaid : Prop := wireBackUptoRow.holds Try.pinned (OpenSpec.upto wireBackSpec)

/-- 'locutionlaw10.WireReads', WHERE WHAT IT READS IS OF BULK AT MOST 1048576: true; the input reads as it did. -/
def wireReadsUptoRow : OpenClaim := { program := "ytlobkadfmgnlmaa", sum := "fba0017c1fbaf69c23844bd5559a13dfe64514a63377cfd2706e3093b8115a3b", func := "locution/locutionlaw10.WireReads", spec := "wireReads", unfollowed := true, recurses := true, apart := false, narrowed := true }
def WireReadsUptoSaid : Prop := wireReadsUptoRow.holds Try.pinned (OpenSpec.upto wireReadsSpec)

/-- 'locutionlaw10.WireOnce', WHERE WHAT IT READS IS OF BULK AT MOST 1048576: true; the input reads as it did. -/
def wireOnceUptoRow : OpenClaim := { program := "ytlobkadfmgnlmaa", sum := "fba0017c1fbaf69c23844bd5559a13dfe64514a63377cfd2706e3093b8115a3b", func := "locution/locutionlaw10.WireOnce", spec := "wireOnce", unfollowed := true, recurses := true, apart := false, narrowed := true }
def WireOnceUptoSaid : Prop := wireOnceUptoRow.holds Try.pinned (OpenSpec.upto wireOnceSpec)

/-- 'locutionlaw02.RowTells', WHERE WHAT IT READS IS OF BULK AT MOST 1048576: true; the input reads as it did. -/
def rowTellsUptoRow : OpenClaim := { program := "ytlobkadfmgnlmaa", sum := "fba0017c1fbaf69c23844bd5559a13dfe64514a63377cfd2706e3093b8115a3b", func := "locution/locutionlaw02.RowTells", spec := "rowTells", apart := false, narrowed := true }
def RowTellsUptoSaid : Prop := rowTellsUptoRow.holds Try.pinned (OpenSpec.upto rowTellsSpec)

/-- 'locutionlaw02.RowAdds', WHERE WHAT IT READS IS OF BULK AT MOST 1048576: true; the input reads as it did. -/
def rowAddsUptoRow : OpenClaim := { program := "ytlobkadfmgnlmaa", sum := "fba0017c1fbaf69c23844bd5559a13dfe64514a63377cfd2706e3093b8115a3b", func := "locution/locutionlaw02.RowAdds", spec := "rowAdds", apart := false, narrowed := true }
def RowAddsUptoSaid : Prop := rowAddsUptoRow.holds Try.pinned (OpenSpec.upto rowAddsSpec)

/-- 'locutionlaw02.RowSame', WHERE WHAT IT READS IS OF BULK AT MOST 1048576: true; the input reads as it did. -/
def rowSameUptoRow : OpenClaim := { program := "ytlobkadfmgnlmaa", sum := "fba0017c1fbaf69c23844bd5559a13dfe64514a63377cfd2706e3093b8115a3b", func := "locution/locutionlaw02.RowSame", spec := "rowSame", apart := false, narrowed := true }
def RowSameUptoSaid : Prop := rowSameUptoRow.holds Try.pinned (OpenSpec.upto rowSameSpec)

/-- 'locutionlaw02.RowOf', WHERE WHAT IT READS IS OF BULK AT MOST 1048576: true; the input reads as it did. -/
def rowOfUptoRow : OpenClaim := { program := "ytlobkadfmgnlmaa", sum := "fba0017c1fbaf69c23844bd5559a13dfe64514a63377cfd2706e3093b8115a3b", func := "locution/locutionlaw02.RowOf", spec := "rowOf", apart := false, narrowed := true }
def RowOfUptoSaid : Prop := rowOfUptoRow.holds Try.pinned (OpenSpec.upto rowOfSpec)

end Rows
end Go.Proofs.Ytlobkadfmgnlmaa
