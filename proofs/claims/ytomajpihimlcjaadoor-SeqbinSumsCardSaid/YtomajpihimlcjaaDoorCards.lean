/-
  DERIVED. GIVEN WITH THE SEED: THE CARDS: each row of YtomajpihimlcjaaDoorRows.lean that lists a variable, with what it lists TIED to the program's text (the seventh form; the later family's looks); each row that meets fmt, with fmt's text TOLD by the authors' own Lean function (tested against real Go, not proved from fmt's source: count such statements apart). THE CARD IS WHAT COUNTS. Prove the row's statement (the work); the ties are given (YtomajpihimlcjaaDoorTie.lean); close each card by the builder's one call (the guide's Derived/Test/ToyasCard.lean, 'card_holds'). Laid BY PROGRAM, IN A SANDBOX (cutbox-door.mjs). By AI agents, Wed Nov 11 2026. No macro, syntax, notation, axiom, sorry.
-/
import Derived.Test.YtomajpihimlcjaaDoorRows
import GoSem.ClaimSeven
namespace Go.Proofs.YtomajpihimlcjaaDoor
namespace Rows

/-- THE TIED CARD OF 'locutionlaw01.LanePairs'. -/
def lanePairsCard : Claim7 := { stood := { row := lanePairsRow, standIns := [], harness := (true, "9445c40ccf24d614afe8c699dece2e1a52bc6417a1d9b01384a2cc7421d5ee9b"), looks := false }, kinds := [], alts := [], laidByText := true, laidKinds := [.data], laidTests := true, laidLooks := .later }
def LanePairsCardSaid : Prop := Claim7.holds Tryd.pinned (.plain (OpenSpec.ofChange lanePairsSpec)) lanePairsCard

/-- THE TIED CARD OF 'locutionlaw05.DirGoes'. -/
def dirGoesCard : Claim7 := { stood := { row := dirGoesRow, standIns := [], harness := (true, "9445c40ccf24d614afe8c699dece2e1a52bc6417a1d9b01384a2cc7421d5ee9b"), looks := false }, kinds := [], alts := [], laidByText := true, laidKinds := [.data], laidTests := true, laidLooks := .later }
def DirGoesCardSaid : Prop := Claim7.holds Tryd.pinned (.plain (OpenSpec.ofChange dirGoesSpec)) dirGoesCard

/-- THE TIED CARD OF 'locutionlaw07.SeqGoes'. -/
def seqGoesCard : Claim7 := { stood := { row := seqGoesRow, standIns := [], harness := (true, "9445c40ccf24d614afe8c699dece2e1a52bc6417a1d9b01384a2cc7421d5ee9b"), looks := false }, kinds := [], alts := [], laidByText := true, laidKinds := [.data], laidTests := true, laidLooks := .later }
def SeqGoesCardSaid : Prop := Claim7.holds Tryd.pinned (.plain (OpenSpec.ofChange seqGoesSpec)) seqGoesCard

/-- THE TIED CARD OF 'locutionlaw09.PrefixGoes'. -/
def prefixGoesCard : Claim7 := { stood := { row := prefixGoesRow, standIns := [], harness := (true, "9445c40ccf24d614afe8c699dece2e1a52bc6417a1d9b01384a2cc7421d5ee9b"), looks := false }, kinds := [], alts := [], laidByText := true, laidKinds := [.data], laidTests := true, laidLooks := .later }
def PrefixGoesCardSaid : Prop := Claim7.holds Tryd.pinned (.plain (OpenSpec.ofChange prefixGoesSpec)) prefixGoesCard

/-- THE TIED CARD OF 'locutionlaw11.SeqbinSeqs'. -/
def seqbinSeqsCard : Claim7 := { stood := { row := seqbinSeqsRow, standIns := [], harness := (true, "9445c40ccf24d614afe8c699dece2e1a52bc6417a1d9b01384a2cc7421d5ee9b"), looks := false }, kinds := [], alts := [], laidByText := true, laidKinds := [.data], laidTests := true, laidLooks := .later }
def SeqbinSeqsCardSaid : Prop := Claim7.holds Tryd.pinned (.plain (OpenSpec.ofChange seqbinSeqsSpec)) seqbinSeqsCard

/-- THE TIED CARD OF 'locutionlaw11.SeqbinRows'. -/
def seqbinRowsCard : Claim7 := { stood := { row := seqbinRowsRow, standIns := [], harness := (true, "9445c40ccf24d614afe8c699dece2e1a52bc6417a1d9b01384a2cc7421d5ee9b"), looks := false }, kinds := [], alts := [], laidByText := true, laidKinds := [.data], laidTests := true, laidLooks := .later }
def SeqbinRowsCardSaid : Prop := Claim7.holds Tryd.pinned (.plain (OpenSpec.ofChange seqbinRowsSpec)) seqbinRowsCard

/-- THE TIED CARD OF 'locutionlaw11.SeqbinPacks'. -/
def seqbinPacksCard : Claim7 := { stood := { row := seqbinPacksRow, standIns := [], harness := (true, "9445c40ccf24d614afe8c699dece2e1a52bc6417a1d9b01384a2cc7421d5ee9b"), looks := false }, kinds := [], alts := [], laidByText := true, laidKinds := [.data], laidTests := true, laidLooks := .later }
def SeqbinPacksCardSaid : Prop := Claim7.holds Tryd.pinned (.plain (OpenSpec.ofChange seqbinPacksSpec)) seqbinPacksCard

/-- THE TIED CARD OF 'locutionlaw11.SeqbinGets'. -/
def seqbinGetsCard : Claim7 := { stood := { row := seqbinGetsRow, standIns := [], harness := (true, "9445c40ccf24d614afe8c699dece2e1a52bc6417a1d9b01384a2cc7421d5ee9b"), looks := false }, kinds := [], alts := [], laidByText := true, laidKinds := [.data], laidTests := true, laidLooks := .later }
def SeqbinGetsCardSaid : Prop := Claim7.holds Tryd.pinned (.plain (OpenSpec.ofChange seqbinGetsSpec)) seqbinGetsCard

/-- THE TIED CARD OF 'locutionlaw11.SeqbinSums'. -/
def seqbinSumsCard : Claim7 := { stood := { row := seqbinSumsRow, standIns := [], harness := (true, "9445c40ccf24d614afe8c699dece2e1a52bc6417a1d9b01384a2cc7421d5ee9b"), looks := false }, kinds := [], alts := [], laidByText := true, laidKinds := [.data], laidTests := true, laidLooks := .later }
def SeqbinSumsCardSaid : Prop := Claim7.holds Tryd.pinned (.plain (OpenSpec.ofChange seqbinSumsSpec)) seqbinSumsCard

/-- THE SECOND FORM's CARD OF 'locutionlaw01.LanePairs'. -/
def lanePairsUptoCard : Claim7 := { stood := { row := lanePairsUptoRow, standIns := [], harness := (true, "9445c40ccf24d614afe8c699dece2e1a52bc6417a1d9b01384a2cc7421d5ee9b"), looks := false }, kinds := [], alts := [], laidByText := true, laidKinds := [.data], laidTests := true, laidLooks := .later }
def LanePairsUptoCardSaid : Prop := Claim7.holds Tryd.pinned (.plain (OpenSpec.upto lanePairsSpec)) lanePairsUptoCard

/-- THE SECOND FORM's CARD OF 'locutionlaw05.DirGoes'. -/
def dirGoesUptoCard : Claim7 := { stood := { row := dirGoesUptoRow, standIns := [], harness := (true, "9445c40ccf24d614afe8c699dece2e1a52bc6417a1d9b01384a2cc7421d5ee9b"), looks := false }, kinds := [], alts := [], laidByText := true, laidKinds := [.data], laidTests := true, laidLooks := .later }
def DirGoesUptoCardSaid : Prop := Claim7.holds Tryd.pinned (.plain (OpenSpec.upto dirGoesSpec)) dirGoesUptoCard

/-- THE SECOND FORM's CARD OF 'locutionlaw07.SeqGoes'. -/
def seqGoesUptoCard : Claim7 := { stood := { row := seqGoesUptoRow, standIns := [], harness := (true, "9445c40ccf24d614afe8c699dece2e1a52bc6417a1d9b01384a2cc7421d5ee9b"), looks := false }, kinds := [], alts := [], laidByText := true, laidKinds := [.data], laidTests := true, laidLooks := .later }
def SeqGoesUptoCardSaid : Prop := Claim7.holds Tryd.pinned (.plain (OpenSpec.upto seqGoesSpec)) seqGoesUptoCard

/-- THE SECOND FORM's CARD OF 'locutionlaw09.PrefixGoes'. -/
def prefixGoesUptoCard : Claim7 := { stood := { row := prefixGoesUptoRow, standIns := [], harness := (true, "9445c40ccf24d614afe8c699dece2e1a52bc6417a1d9b01384a2cc7421d5ee9b"), looks := false }, kinds := [], alts := [], laidByText := true, laidKinds := [.data], laidTests := true, laidLooks := .later }
def PrefixGoesUptoCardSaid : Prop := Claim7.holds Tryd.pinned (.plain (OpenSpec.upto prefixGoesSpec)) prefixGoesUptoCard

/-- THE SECOND FORM's CARD OF 'locutionlaw11.SeqbinSeqs'. -/
def seqbinSeqsUptoCard : Claim7 := { stood := { row := seqbinSeqsUptoRow, standIns := [], harness := (true, "9445c40ccf24d614afe8c699dece2e1a52bc6417a1d9b01384a2cc7421d5ee9b"), looks := false }, kinds := [], alts := [], laidByText := true, laidKinds := [.data], laidTests := true, laidLooks := .later }
def SeqbinSeqsUptoCardSaid : Prop := Claim7.holds Tryd.pinned (.plain (OpenSpec.upto seqbinSeqsSpec)) seqbinSeqsUptoCard

/-- THE SECOND FORM's CARD OF 'locutionlaw11.SeqbinRows'. -/
def seqbinRowsUptoCard : Claim7 := { stood := { row := seqbinRowsUptoRow, standIns := [], harness := (true, "9445c40ccf24d614afe8c699dece2e1a52bc6417a1d9b01384a2cc7421d5ee9b"), looks := false }, kinds := [], alts := [], laidByText := true, laidKinds := [.data], laidTests := true, laidLooks := .later }
def SeqbinRowsUptoCardSaid : Prop := Claim7.holds Tryd.pinned (.plain (OpenSpec.upto seqbinRowsSpec)) seqbinRowsUptoCard

/-- THE SECOND FORM's CARD OF 'locutionlaw11.SeqbinPacks'. -/
def seqbinPacksUptoCard : Claim7 := { stood := { row := seqbinPacksUptoRow, standIns := [], harness := (true, "9445c40ccf24d614afe8c699dece2e1a52bc6417a1d9b01384a2cc7421d5ee9b"), looks := false }, kinds := [], alts := [], laidByText := true, laidKinds := [.data], laidTests := true, laidLooks := .later }
def SeqbinPacksUptoCardSaid : Prop := Claim7.holds Tryd.pinned (.plain (OpenSpec.upto seqbinPacksSpec)) seqbinPacksUptoCard

/-- THE SECOND FORM's CARD OF 'locutionlaw11.SeqbinGets'. -/
def seqbinGetsUptoCard : Claim7 := { stood := { row := seqbinGetsUptoRow, standIns := [], harness := (true, "9445c40ccf24d614afe8c699dece2e1a52bc6417a1d9b01384a2cc7421d5ee9b"), looks := false }, kinds := [], alts := [], laidByText := true, laidKinds := [.data], laidTests := true, laidLooks := .later }
def SeqbinGetsUptoCardSaid : Prop := Claim7.holds Tryd.pinned (.plain (OpenSpec.upto seqbinGetsSpec)) seqbinGetsUptoCard

/-- THE SECOND FORM's CARD OF 'locutionlaw11.SeqbinSums'. -/
def seqbinSumsUptoCard : Claim7 := { stood := { row := seqbinSumsUptoRow, standIns := [], harness := (true, "9445c40ccf24d614afe8c699dece2e1a52bc6417a1d9b01384a2cc7421d5ee9b"), looks := false }, kinds := [], alts := [], laidByText := true, laidKinds := [.data], laidTests := true, laidLooks := .later }
def SeqbinSumsUptoCardSaid : Prop := Claim7.holds Tryd.pinned (.plain (OpenSpec.upto seqbinSumsSpec)) seqbinSumsUptoCard
end Rows
end Go.Proofs.YtomajpihimlcjaaDoor
