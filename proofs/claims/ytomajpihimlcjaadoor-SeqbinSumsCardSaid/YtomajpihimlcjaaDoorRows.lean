/-
  NARROWER THAN 'FOR EVERY INPUT', by the rows' own cells (each row's printed sentence says how): LanePairs: laid · DirGoes: laid · SeqGoes: laid · PrefixGoes: laid · SeqbinSeqs: laid · SeqbinRows: laid · SeqbinPacks: laid · SeqbinGets: laid · SeqbinSums: laid.
  DERIVED. THE GIVEN ROWS OF THIS SEAT. 9 by the template 'for every input the law returns true; each argument reads behind the call as it read before'; 0 by the template 'total and deterministic' (their statements: YtomajpihimlcjaaDoorTotals.lean).
  GIVEN WITH THE SEED: the statements are not yours to turn. If you find one false, say at which input.
  Laid BY PROGRAM, IN A SANDBOX (cutbox-rows.mjs): the forced cells as the released guide's own fill.sh prints them over the translation 76768b039414cb0d… (all of the seat's roots in one cut). By AI agents, Wed Nov 11 2026. No macro, syntax, notation, axiom, sorry.
-/
import Derived.Test.YtomajpihimlcjaaDoorChecked
import GoSem.Claim
import GoSem.ClaimJoined
import GoSem.ClaimMapViews
import Derived.JoinedTies
import Derived.KernelRfl
namespace Go.Proofs.YtomajpihimlcjaaDoor
/- THE CELL 'sum', in the pinned program and in every row, IS THE sha256 OF THE DUMP (.gsa) THAT YtomajpihimlcjaaDoorProg.lean LOADS. Nothing in Lean hashes anything: it is a label: what it is worth is what the hold of that sum in a sandbox is worth. -/
noncomputable def Tryd.pinned : Pinned := { name := "ytomajpihimlcjaadoor", sum := "76768b039414cb0d034634d863dad18ea322cff3b5b61ea6a136489567c47c60", checked := Tryd.checked }
namespace Rows
def none {H : Type} : Left H := { results := [], args := [] }

/- WHAT THE LISTED PACKAGE-LEVEL VARIABLES READ AS WHEN THE CALL BEGINS. Each datum BY PROGRAM (the guide's laid-datum.mjs) off the statement by which the dump's own 'gosem.cut.vars' lays the variable. In a bare row this is a premise. The card (YtomajpihimlcjaaDoorCards.lean) ties it to the program's text. -/
def laid_math_bits_deBruijn64tab {H : Type} : DataW H := .agg [.lit (.int .u8 0), .lit (.int .u8 1), .lit (.int .u8 56), .lit (.int .u8 2), .lit (.int .u8 57), .lit (.int .u8 49), .lit (.int .u8 28), .lit (.int .u8 3), .lit (.int .u8 61), .lit (.int .u8 58), .lit (.int .u8 42), .lit (.int .u8 50), .lit (.int .u8 38), .lit (.int .u8 29), .lit (.int .u8 17), .lit (.int .u8 4), .lit (.int .u8 62), .lit (.int .u8 47), .lit (.int .u8 59), .lit (.int .u8 36), .lit (.int .u8 45), .lit (.int .u8 43), .lit (.int .u8 51), .lit (.int .u8 22), .lit (.int .u8 53), .lit (.int .u8 39), .lit (.int .u8 33), .lit (.int .u8 30), .lit (.int .u8 24), .lit (.int .u8 18), .lit (.int .u8 12), .lit (.int .u8 5), .lit (.int .u8 63), .lit (.int .u8 55), .lit (.int .u8 48), .lit (.int .u8 27), .lit (.int .u8 60), .lit (.int .u8 41), .lit (.int .u8 37), .lit (.int .u8 16), .lit (.int .u8 46), .lit (.int .u8 35), .lit (.int .u8 44), .lit (.int .u8 21), .lit (.int .u8 52), .lit (.int .u8 32), .lit (.int .u8 23), .lit (.int .u8 11), .lit (.int .u8 54), .lit (.int .u8 26), .lit (.int .u8 40), .lit (.int .u8 15), .lit (.int .u8 34), .lit (.int .u8 20), .lit (.int .u8 31), .lit (.int .u8 10), .lit (.int .u8 25), .lit (.int .u8 14), .lit (.int .u8 19), .lit (.int .u8 9), .lit (.int .u8 13), .lit (.int .u8 8), .lit (.int .u8 7), .lit (.int .u8 6)]

/-- 'locutionlaw01.LanePairs': WHATEVER THE INPUT: true; the input reads as it did. -/
def lanePairsSpec : ChangeSpec := { name := "lanePairs", fn := fun _ => fun
  | [d1, d2] => { results := [.lit (.bool true)], args := [d1, d2] }
  | _ => none }
def lanePairsRow : OpenClaim := { program := "ytomajpihimlcjaadoor", sum := "76768b039414cb0d034634d863dad18ea322cff3b5b61ea6a136489567c47c60", func := "locution/locutionlaw01.LanePairs", spec := "lanePairs", unfollowed := true, recurses := true, named := ["math/bits.deBruijn64tab"], apart := false, laid := [("math/bits.deBruijn64tab", laid_math_bits_deBruijn64tab)] }
def LanePairsSaid : Prop := lanePairsRow.holds Tryd.pinned (OpenSpec.ofChange lanePairsSpec)

/-- ITS FALSE NEIGHBOUR: 'it returns false'. Refute it at one input. -/
def lanePairsWrong : ChangeSpec := { name := "lanePairs", fn := fun _ => fun
  | [d1, d2] => { results := [.lit (.bool false)], args := [d1, d2] }
  | _ => none }
def LanePairsWrongFalsely : Prop := lanePairsRow.holds Tryd.pinned (OpenSpec.ofChange lanePairsWrong)

/-- 'locutionlaw05.DirGoes': WHATEVER THE INPUT: true; the input reads as it did. -/
def dirGoesSpec : ChangeSpec := { name := "dirGoes", fn := fun _ => fun
  | [d1, d2, d3] => { results := [.lit (.bool true)], args := [d1, d2, d3] }
  | _ => none }
def dirGoesRow : OpenClaim := { program := "ytomajpihimlcjaadoor", sum := "76768b039414cb0d034634d863dad18ea322cff3b5b61ea6a136489567c47c60", func := "locution/locutionlaw05.DirGoes", spec := "dirGoes", unfollowed := true, recurses := true, named := ["math/bits.deBruijn64tab"], apart := false, laid := [("math/bits.deBruijn64tab", laid_math_bits_deBruijn64tab)] }
def DirGoesSaid : Prop := dirGoesRow.holds Tryd.pinned (OpenSpec.ofChange dirGoesSpec)

/-- ITS FALSE NEIGHBOUR: 'it returns false'. Refute it at one input. -/
def dirGoesWrong : ChangeSpec := { name := "dirGoes", fn := fun _ => fun
  | [d1, d2, d3] => { results := [.lit (.bool false)], args := [d1, d2, d3] }
  | _ => none }
def DirGoesWrongFalsely : Prop := dirGoesRow.holds Tryd.pinned (OpenSpec.ofChange dirGoesWrong)

/-- 'locutionlaw07.SeqGoes': WHATEVER THE INPUT: true; the input reads as it did. -/
def seqGoesSpec : ChangeSpec := { name := "seqGoes", fn := fun _ => fun
  | [d1, d2] => { results := [.lit (.bool true)], args := [d1, d2] }
  | _ => none }
def seqGoesRow : OpenClaim := { program := "ytomajpihimlcjaadoor", sum := "76768b039414cb0d034634d863dad18ea322cff3b5b61ea6a136489567c47c60", func := "locution/locutionlaw07.SeqGoes", spec := "seqGoes", unfollowed := true, recurses := true, named := ["math/bits.deBruijn64tab"], apart := false, laid := [("math/bits.deBruijn64tab", laid_math_bits_deBruijn64tab)] }
def SeqGoesSaid : Prop := seqGoesRow.holds Tryd.pinned (OpenSpec.ofChange seqGoesSpec)

/-- ITS FALSE NEIGHBOUR: 'it returns false'. Refute it at one input. -/
def seqGoesWrong : ChangeSpec := { name := "seqGoes", fn := fun _ => fun
  | [d1, d2] => { results := [.lit (.bool false)], args := [d1, d2] }
  | _ => none }
def SeqGoesWrongFalsely : Prop := seqGoesRow.holds Tryd.pinned (OpenSpec.ofChange seqGoesWrong)

/-- 'locutionlaw09.PrefixGoes': WHATEVER THE INPUT: true; the input reads as it did. -/
def prefixGoesSpec : ChangeSpec := { name := "prefixGoes", fn := fun _ => fun
  | [d1, d2] => { results := [.lit (.bool true)], args := [d1, d2] }
  | _ => none }
def prefixGoesRow : OpenClaim := { program := "ytomajpihimlcjaadoor", sum := "76768b039414cb0d034634d863dad18ea322cff3b5b61ea6a136489567c47c60", func := "locution/locutionlaw09.PrefixGoes", spec := "prefixGoes", unfollowed := true, recurses := true, named := ["math/bits.deBruijn64tab"], apart := false, laid := [("math/bits.deBruijn64tab", laid_math_bits_deBruijn64tab)] }
def PrefixGoesSaid : Prop := prefixGoesRow.holds Tryd.pinned (OpenSpec.ofChange prefixGoesSpec)

/-- ITS FALSE NEIGHBOUR: 'it returns false'. Refute it at one input. -/
def prefixGoesWrong : ChangeSpec := { name := "prefixGoes", fn := fun _ => fun
  | [d1, d2] => { results := [.lit (.bool false)], args := [d1, d2] }
  | _ => none }
def PrefixGoesWrongFalsely : Prop := prefixGoesRow.holds Tryd.pinned (OpenSpec.ofChange prefixGoesWrong)

/-- 'locutionlaw11.SeqbinSeqs': WHATEVER THE INPUT: true; the input reads as it did. -/
def seqbinSeqsSpec : ChangeSpec := { name := "seqbinSeqs", fn := fun _ => fun
  | [d1, d2] => { results := [.lit (.bool true)], args := [d1, d2] }
  | _ => none }
def seqbinSeqsRow : OpenClaim := { program := "ytomajpihimlcjaadoor", sum := "76768b039414cb0d034634d863dad18ea322cff3b5b61ea6a136489567c47c60", func := "locution/locutionlaw11.SeqbinSeqs", spec := "seqbinSeqs", unfollowed := true, recurses := true, named := ["math/bits.deBruijn64tab"], apart := false, laid := [("math/bits.deBruijn64tab", laid_math_bits_deBruijn64tab)] }
def SeqbinSeqsSaid : Prop := seqbinSeqsRow.holds Tryd.pinned (OpenSpec.ofChange seqbinSeqsSpec)

/-- ITS FALSE NEIGHBOUR: 'it returns false'. Refute it at one input. -/
def seqbinSeqsWrong : ChangeSpec := { name := "seqbinSeqs", fn := fun _ => fun
  | [d1, d2] => { results := [.lit (.bool false)], args := [d1, d2] }
  | _ => none }
def SeqbinSeqsWrongFalsely : Prop := seqbinSeqsRow.holds Tryd.pinned (OpenSpec.ofChange seqbinSeqsWrong)

/-- 'locutionlaw11.SeqbinRows': WHATEVER THE INPUT: true; the input reads as it did. -/
def seqbinRowsSpec : ChangeSpec := { name := "seqbinRows", fn := fun _ => fun
  | [d1, d2, d3] => { results := [.lit (.bool true)], args := [d1, d2, d3] }
  | _ => none }
def seqbinRowsRow : OpenClaim := { program := "ytomajpihimlcjaadoor", sum := "76768b039414cb0d034634d863dad18ea322cff3b5b61ea6a136489567c47c60", func := "locution/locutionlaw11.SeqbinRows", spec := "seqbinRows", unfollowed := true, recurses := true, named := ["math/bits.deBruijn64tab"], apart := false, laid := [("math/bits.deBruijn64tab", laid_math_bits_deBruijn64tab)] }
def SeqbinRowsSaid : Prop := seqbinRowsRow.holds Tryd.pinned (OpenSpec.ofChange seqbinRowsSpec)

/-- ITS FALSE NEIGHBOUR: 'it returns false'. Refute it at one input. -/
def seqbinRowsWrong : ChangeSpec := { name := "seqbinRows", fn := fun _ => fun
  | [d1, d2, d3] => { results := [.lit (.bool false)], args := [d1, d2, d3] }
  | _ => none }
def SeqbinRowsWrongFalsely : Prop := seqbinRowsRow.holds Tryd.pinned (OpenSpec.ofChange seqbinRowsWrong)

/-- 'locutionlaw11.SeqbinPacks': WHATEVER THE INPUT: true; the input reads as it did. -/
def seqbinPacksSpec : ChangeSpec := { name := "seqbinPacks", fn := fun _ => fun
  | [d1, d2] => { results := [.lit (.bool true)], args := [d1, d2] }
  | _ => none }
def seqbinPacksRow : OpenClaim := { program := "ytomajpihimlcjaadoor", sum := "76768b039414cb0d034634d863dad18ea322cff3b5b61ea6a136489567c47c60", func := "locution/locutionlaw11.SeqbinPacks", spec := "seqbinPacks", unfollowed := true, recurses := true, named := ["math/bits.deBruijn64tab"], apart := false, laid := [("math/bits.deBruijn64tab", laid_math_bits_deBruijn64tab)] }
def SeqbinPacksSaid : Prop := seqbinPacksRow.holds Tryd.pinned (OpenSpec.ofChange seqbinPacksSpec)

/-- ITS FALSE NEIGHBOUR: 'it returns false'. Refute it at one input. -/
def seqbinPacksWrong : ChangeSpec := { name := "seqbinPacks", fn := fun _ => fun
  | [d1, d2] => { results := [.lit (.bool false)], args := [d1, d2] }
  | _ => none }
def SeqbinPacksWrongFalsely : Prop := seqbinPacksRow.holds Tryd.pinned (OpenSpec.ofChange seqbinPacksWrong)

/-- 'locutionlaw11.SeqbinGets': WHATEVER THE INPUT: true; the input reads as it did. -/
def seqbinGetsSpec : ChangeSpec := { name := "seqbinGets", fn := fun _ => fun
  | [d] => { results := [.lit (.bool true)], args := [d] }
  | _ => none }
def seqbinGetsRow : OpenClaim := { program := "ytomajpihimlcjaadoor", sum := "76768b039414cb0d034634d863dad18ea322cff3b5b61ea6a136489567c47c60", func := "locution/locutionlaw11.SeqbinGets", spec := "seqbinGets", unfollowed := true, recurses := true, named := ["math/bits.deBruijn64tab"], apart := false, laid := [("math/bits.deBruijn64tab", laid_math_bits_deBruijn64tab)] }
def SeqbinGetsSaid : Prop := seqbinGetsRow.holds Tryd.pinned (OpenSpec.ofChange seqbinGetsSpec)

/-- ITS FALSE NEIGHBOUR: 'it returns false'. Refute it at one input. -/
def seqbinGetsWrong : ChangeSpec := { name := "seqbinGets", fn := fun _ => fun
  | [d] => { results := [.lit (.bool false)], args := [d] }
  | _ => none }
def SeqbinGetsWrongFalsely : Prop := seqbinGetsRow.holds Tryd.pinned (OpenSpec.ofChange seqbinGetsWrong)

/-- 'locutionlaw11.SeqbinSums': WHATEVER THE INPUT: true; the input reads as it did. -/
def seqbinSumsSpec : ChangeSpec := { name := "seqbinSums", fn := fun _ => fun
  | [d1, d2] => { results := [.lit (.bool true)], args := [d1, d2] }
  | _ => none }
def seqbinSumsRow : OpenClaim := { program := "ytomajpihimlcjaadoor", sum := "76768b039414cb0d034634d863dad18ea322cff3b5b61ea6a136489567c47c60", func := "locution/locutionlaw11.SeqbinSums", spec := "seqbinSums", unfollowed := true, recurses := true, named := ["math/bits.deBruijn64tab"], apart := false, laid := [("math/bits.deBruijn64tab", laid_math_bits_deBruijn64tab)] }
def SeqbinSumsSaid : Prop := seqbinSumsRow.holds Tryd.pinned (OpenSpec.ofChange seqbinSumsSpec)

/-- ITS FALSE NEIGHBOUR: 'it returns false'. Refute it at one input. -/
def seqbinSumsWrong : ChangeSpec := { name := "seqbinSums", fn := fun _ => fun
  | [d1, d2] => { results := [.lit (.bool false)], args := [d1, d2] }
  | _ => none }
def SeqbinSumsWrongFalsely : Prop := seqbinSumsRow.holds Tryd.pinned (OpenSpec.ofChange seqbinSumsWrong)

/- THE SECOND FORM. 'bulk': how many values and letters a reading holds, each counted each time it is reached (what is shared counts as often as it is met; a slice's spare places count too). A statement '..UptoSaid' is the law's where the arguments, and the package variables that the reading takes, are together of bulk at most 1048576: NARROWER than '..Said'. Prove '..Said' where nothing that the law and all that it calls make is longer than what came in: it says more and counts as full. Else prove '..UptoSaid'. A law counts once. -/
mutual
def uptoBulk {H : Type} : DataW H → Nat
  | .lit (.string bytes) => bytes.length + 1
  | .lit _ => 1
  | .nil => 1
  | .ptr d => uptoBulk d + 1
  | .slice elems spare => uptoBulkAll elems + uptoBulkAll spare + 1
  | .agg parts => uptoBulkAll parts + 1
  | .iface _ d => uptoBulk d + 1
  | .map entries => uptoBulkEntries entries + 1
  | .held _ => 1
def uptoBulkAll {H : Type} : List (DataW H) → Nat
  | [] => 0
  | d :: r => uptoBulk d + uptoBulkAll r
def uptoBulkEntries {H : Type} : List (Lit × DataW H) → Nat
  | [] => 0
  | x :: r => uptoBulkEntry x + uptoBulkEntries r
def uptoBulkEntry {H : Type} : Lit × DataW H → Nat
  | (.string bytes, d) => bytes.length + uptoBulk d + 1
  | (_, d) => uptoBulk d + 1
 end
def uptoSmall : (H : Type) → List (DataW H) → Bool := fun _ ds => decide (uptoBulkAll ds ≤ 1048576)
def OpenSpec.upto (s : _root_.Go.ChangeSpec) : _root_.Go.OpenSpec := { _root_.Go.OpenSpec.ofChange s with cond := some uptoSmall }

/-- 'locutionlaw01.LanePairs', WHERE WHAT IT READS IS OF BULK AT MOST 1048576: true; the input reads as it did. -/
def lanePairsUptoRow : OpenClaim := { program := "ytomajpihimlcjaadoor", sum := "76768b039414cb0d034634d863dad18ea322cff3b5b61ea6a136489567c47c60", func := "locution/locutionlaw01.LanePairs", spec := "lanePairs", unfollowed := true, recurses := true, named := ["math/bits.deBruijn64tab"], apart := false, laid := [("math/bits.deBruijn64tab", laid_math_bits_deBruijn64tab)], narrowed := true }
def LanePairsUptoSaid : Prop := lanePairsUptoRow.holds Tryd.pinned (OpenSpec.upto lanePairsSpec)

/-- 'locutionlaw05.DirGoes', WHERE WHAT IT READS IS OF BULK AT MOST 1048576: true; the input reads as it did. -/
def dirGoesUptoRow : OpenClaim := { program := "ytomajpihimlcjaadoor", sum := "76768b039414cb0d034634d863dad18ea322cff3b5b61ea6a136489567c47c60", func := "locution/locutionlaw05.DirGoes", spec := "dirGoes", unfollowed := true, recurses := true, named := ["math/bits.deBruijn64tab"], apart := false, laid := [("math/bits.deBruijn64tab", laid_math_bits_deBruijn64tab)], narrowed := true }
def DirGoesUptoSaid : Prop := dirGoesUptoRow.holds Tryd.pinned (OpenSpec.upto dirGoesSpec)

/-- 'locutionlaw07.SeqGoes', WHERE WHAT IT READS IS OF BULK AT MOST 1048576: true; the input reads as it did. -/
def seqGoesUptoRow : OpenClaim := { program := "ytomajpihimlcjaadoor", sum := "76768b039414cb0d034634d863dad18ea322cff3b5b61ea6a136489567c47c60", func := "locution/locutionlaw07.SeqGoes", spec := "seqGoes", unfollowed := true, recurses := true, named := ["math/bits.deBruijn64tab"], apart := false, laid := [("math/bits.deBruijn64tab", laid_math_bits_deBruijn64tab)], narrowed := true }
def SeqGoesUptoSaid : Prop := seqGoesUptoRow.holds Tryd.pinned (OpenSpec.upto seqGoesSpec)

/-- 'locutionlaw09.PrefixGoes', WHERE WHAT IT READS IS OF BULK AT MOST 1048576: true; the input reads as it did. -/
def prefixGoesUptoRow : OpenClaim := { program := "ytomajpihimlcjaadoor", sum := "76768b039414cb0d034634d863dad18ea322cff3b5b61ea6a136489567c47c60", func := "locution/locutionlaw09.PrefixGoes", spec := "prefixGoes", unfollowed := true, recurses := true, named := ["math/bits.deBruijn64tab"], apart := false, laid := [("math/bits.deBruijn64tab", laid_math_bits_deBruijn64tab)], narrowed := true }
def PrefixGoesUptoSaid : Prop := prefixGoesUptoRow.holds Tryd.pinned (OpenSpec.upto prefixGoesSpec)

/-- 'locutionlaw11.SeqbinSeqs', WHERE WHAT IT READS IS OF BULK AT MOST 1048576: true; the input reads as it did. -/
def seqbinSeqsUptoRow : OpenClaim := { program := "ytomajpihimlcjaadoor", sum := "76768b039414cb0d034634d863dad18ea322cff3b5b61ea6a136489567c47c60", func := "locution/locutionlaw11.SeqbinSeqs", spec := "seqbinSeqs", unfollowed := true, recurses := true, named := ["math/bits.deBruijn64tab"], apart := false, laid := [("math/bits.deBruijn64tab", laid_math_bits_deBruijn64tab)], narrowed := true }
def SeqbinSeqsUptoSaid : Prop := seqbinSeqsUptoRow.holds Tryd.pinned (OpenSpec.upto seqbinSeqsSpec)

/-- 'locutionlaw11.SeqbinRows', WHERE WHAT IT READS IS OF BULK AT MOST 1048576: true; the input reads as it did. -/
def seqbinRowsUptoRow : OpenClaim := { program := "ytomajpihimlcjaadoor", sum := "76768b039414cb0d034634d863dad18ea322cff3b5b61ea6a136489567c47c60", func := "locution/locutionlaw11.SeqbinRows", spec := "seqbinRows", unfollowed := true, recurses := true, named := ["math/bits.deBruijn64tab"], apart := false, laid := [("math/bits.deBruijn64tab", laid_math_bits_deBruijn64tab)], narrowed := true }
def SeqbinRowsUptoSaid : Prop := seqbinRowsUptoRow.holds Tryd.pinned (OpenSpec.upto seqbinRowsSpec)

/-- 'locutionlaw11.SeqbinPacks', WHERE WHAT IT READS IS OF BULK AT MOST 1048576: true; the input reads as it did. -/
def seqbinPacksUptoRow : OpenClaim := { program := "ytomajpihimlcjaadoor", sum := "76768b039414cb0d034634d863dad18ea322cff3b5b61ea6a136489567c47c60", func := "locution/locutionlaw11.SeqbinPacks", spec := "seqbinPacks", unfollowed := true, recurses := true, named := ["math/bits.deBruijn64tab"], apart := false, laid := [("math/bits.deBruijn64tab", laid_math_bits_deBruijn64tab)], narrowed := true }
def SeqbinPacksUptoSaid : Prop := seqbinPacksUptoRow.holds Tryd.pinned (OpenSpec.upto seqbinPacksSpec)

/-- 'locutionlaw11.SeqbinGets', WHERE WHAT IT READS IS OF BULK AT MOST 1048576: true; the input reads as it did. -/
def seqbinGetsUptoRow : OpenClaim := { program := "ytomajpihimlcjaadoor", sum := "76768b039414cb0d034634d863dad18ea322cff3b5b61ea6a136489567c47c60", func := "locution/locutionlaw11.SeqbinGets", spec := "seqbinGets", unfollowed := true, recurses := true, named := ["math/bits.deBruijn64tab"], apart := false, laid := [("math/bits.deBruijn64tab", laid_math_bits_deBruijn64tab)], narrowed := true }
def SeqbinGetsUptoSaid : Prop := seqbinGetsUptoRow.holds Tryd.pinned (OpenSpec.upto seqbinGetsSpec)

/-- 'locutionlaw11.SeqbinSums', WHERE WHAT IT READS IS OF BULK AT MOST 1048576: true; the input reads as it did. -/
def seqbinSumsUptoRow : OpenClaim := { program := "ytomajpihimlcjaadoor", sum := "76768b039414cb0d034634d863dad18ea322cff3b5b61ea6a136489567c47c60", func := "locution/locutionlaw11.SeqbinSums", spec := "seqbinSums", unfollowed := true, recurses := true, named := ["math/bits.deBruijn64tab"], apart := false, laid := [("math/bits.deBruijn64tab", laid_math_bits_deBruijn64tab)], narrowed := true }
def SeqbinSumsUptoSaid : Prop := seqbinSumsUptoRow.holds Tryd.pinned (OpenSpec.upto seqbinSumsSpec)

end Rows
end Go.Proofs.YtomajpihimlcjaaDoor
