/-
  DERIVED. GIVEN WITH THE SEED: THE CARDS: each row of YtnlimfijepjliaaDoorRows.lean that lists a variable, with what it lists TIED to the program's text (the seventh form; the later family's looks); each row that meets fmt, with fmt's text TOLD by the authors' own Lean function (tested against real Go, not proved from fmt's source: count such statements apart). THE CARD IS WHAT COUNTS. Prove the row's statement (the work); the ties are given (YtnlimfijepjliaaDoorTie.lean); close each card by the builder's one call (the guide's Derived/Test/ToyasCard.lean, 'card_holds'). Laid BY PROGRAM, IN A SANDBOX (cutbox-door.mjs). By AI agents, Wed Nov 11 2026. No macro, syntax, notation, axiom, sorry.
-/
import Derived.Test.YtnlimfijepjliaaDoorRows
import GoSem.ClaimSeven
namespace Go.Proofs.YtnlimfijepjliaaDoor
namespace Rows

/-- THE TIED CARD OF 'laws.FnExactDecimal'. -/
def fnExactDecimalCard : Claim7 := { stood := { row := fnExactDecimalRow, standIns := [], harness := (true, "9c465242ff4e3632775a6b96a9a4c51d40dbfd71c877930c098ece556a84d187"), looks := true }, kinds := [], alts := [], laidByText := true, laidKinds := [.data, .data, .data], laidTests := true, laidLooks := .later }
def FnExactDecimalCardSaid : Prop := Claim7.holds Tryd.pinned (.plain (OpenSpec.ofChange fnExactDecimalSpec)) fnExactDecimalCard

/-- THE TIED CARD OF 'laws.FnExactRatioText'. -/
def fnExactRatioTextCard : Claim7 := { stood := { row := fnExactRatioTextRow, standIns := [], harness := (true, "9c465242ff4e3632775a6b96a9a4c51d40dbfd71c877930c098ece556a84d187"), looks := true }, kinds := [], alts := [], laidByText := true, laidKinds := [.data, .data, .data], laidTests := true, laidLooks := .later }
def FnExactRatioTextCardSaid : Prop := Claim7.holds Tryd.pinned (.plain (OpenSpec.ofChange fnExactRatioTextSpec)) fnExactRatioTextCard

/-- THE TIED CARD OF 'laws.FnExactSplitWords'. -/
def fnExactSplitWordsCard : Claim7 := { stood := { row := fnExactSplitWordsRow, standIns := [], harness := (true, "9c465242ff4e3632775a6b96a9a4c51d40dbfd71c877930c098ece556a84d187"), looks := true }, kinds := [], alts := [], laidByText := true, laidKinds := [.data, .pinned], laidTests := true, laidLooks := .later }
def FnExactSplitWordsCardSaid : Prop := Claim7.holds Tryd.pinned (.plain (OpenSpec.ofChange fnExactSplitWordsSpec)) fnExactSplitWordsCard

/-- THE TIED CARD OF 'laws.FnExactPowersText'. -/
def fnExactPowersTextCard : Claim7 := { stood := { row := fnExactPowersTextRow, standIns := [], harness := (true, "9c465242ff4e3632775a6b96a9a4c51d40dbfd71c877930c098ece556a84d187"), looks := true }, kinds := [], alts := [], laidByText := true, laidKinds := [.data, .data, .data], laidTests := true, laidLooks := .later }
def FnExactPowersTextCardSaid : Prop := Claim7.holds Tryd.pinned (.plain (OpenSpec.ofChange fnExactPowersTextSpec)) fnExactPowersTextCard

/-- THE TIED CARD OF 'laws.FnExactTrainText'. -/
def fnExactTrainTextCard : Claim7 := { stood := { row := fnExactTrainTextRow, standIns := [], harness := (true, "9c465242ff4e3632775a6b96a9a4c51d40dbfd71c877930c098ece556a84d187"), looks := true }, kinds := [], alts := [], laidByText := true, laidKinds := [.data, .data, .data], laidTests := true, laidLooks := .later }
def FnExactTrainTextCardSaid : Prop := Claim7.holds Tryd.pinned (.plain (OpenSpec.ofChange fnExactTrainTextSpec)) fnExactTrainTextCard

/-- THE TIED CARD OF 'laws.FnExactReadDecimal'. -/
def fnExactReadDecimalCard : Claim7 := { stood := { row := fnExactReadDecimalRow, standIns := [], harness := (true, "9c465242ff4e3632775a6b96a9a4c51d40dbfd71c877930c098ece556a84d187"), looks := true }, kinds := [], alts := [], laidByText := true, laidKinds := [.data, .data, .data, .sentinel, .sentinel], laidTests := true, laidLooks := .later }
def FnExactReadDecimalCardSaid : Prop := Claim7.holds Tryd.pinned (.plain (OpenSpec.ofChange fnExactReadDecimalSpec)) fnExactReadDecimalCard

/-- THE TIED CARD OF 'laws.FnExactReadRatio'. -/
def fnExactReadRatioCard : Claim7 := { stood := { row := fnExactReadRatioRow, standIns := [], harness := (true, "9c465242ff4e3632775a6b96a9a4c51d40dbfd71c877930c098ece556a84d187"), looks := true }, kinds := [], alts := [], laidByText := true, laidKinds := [.data, .data, .data, .sentinel, .sentinel], laidTests := true, laidLooks := .later }
def FnExactReadRatioCardSaid : Prop := Claim7.holds Tryd.pinned (.plain (OpenSpec.ofChange fnExactReadRatioSpec)) fnExactReadRatioCard

/-- THE TIED CARD OF 'laws.FnRatios'. -/
def fnRatiosCard : Claim7 := { stood := { row := fnRatiosRow, standIns := [], harness := (true, "9c465242ff4e3632775a6b96a9a4c51d40dbfd71c877930c098ece556a84d187"), looks := true }, kinds := [], alts := [], laidByText := true, laidKinds := [.data, .data, .data, .sentinel, .sentinel], laidTests := true, laidLooks := .later }
def FnRatiosCardSaid : Prop := Claim7.holds Tryd.pinned (.plain (OpenSpec.ofChange fnRatiosSpec)) fnRatiosCard

/-- THE TIED CARD OF 'laws.FnExactRatioOfPath'. -/
def fnExactRatioOfPathCard : Claim7 := { stood := { row := fnExactRatioOfPathRow, standIns := [], harness := (true, "9c465242ff4e3632775a6b96a9a4c51d40dbfd71c877930c098ece556a84d187"), looks := true }, kinds := [], alts := [], laidByText := true, laidKinds := [.data, .pinned], laidTests := true, laidLooks := .later }
def FnExactRatioOfPathCardSaid : Prop := Claim7.holds Tryd.pinned (.plain (OpenSpec.ofChange fnExactRatioOfPathSpec)) fnExactRatioOfPathCard

/-- THE TIED CARD OF 'laws.FnPaths'. -/
def fnPathsCard : Claim7 := { stood := { row := fnPathsRow, standIns := [], harness := (true, "9c465242ff4e3632775a6b96a9a4c51d40dbfd71c877930c098ece556a84d187"), looks := true }, kinds := [], alts := [], laidByText := true, laidKinds := [.data, .pinned], laidTests := true, laidLooks := .later }
def FnPathsCardSaid : Prop := Claim7.holds Tryd.pinned (.plain (OpenSpec.ofChange fnPathsSpec)) fnPathsCard

/-- THE SECOND FORM's CARD OF 'laws.FnExactDecimal'. -/
def fnExactDecimalUptoCard : Claim7 := { stood := { row := fnExactDecimalUptoRow, standIns := [], harness := (true, "9c465242ff4e3632775a6b96a9a4c51d40dbfd71c877930c098ece556a84d187"), looks := true }, kinds := [], alts := [], laidByText := true, laidKinds := [.data, .data, .data], laidTests := true, laidLooks := .later }
def FnExactDecimalUptoCardSaid : Prop := Claim7.holds Tryd.pinned (.plain (OpenSpec.upto fnExactDecimalSpec)) fnExactDecimalUptoCard

/-- THE SECOND FORM's CARD OF 'laws.FnExactRatioText'. -/
def fnExactRatioTextUptoCard : Claim7 := { stood := { row := fnExactRatioTextUptoRow, standIns := [], harness := (true, "9c465242ff4e3632775a6b96a9a4c51d40dbfd71c877930c098ece556a84d187"), looks := true }, kinds := [], alts := [], laidByText := true, laidKinds := [.data, .data, .data], laidTests := true, laidLooks := .later }
def FnExactRatioTextUptoCardSaid : Prop := Claim7.holds Tryd.pinned (.plain (OpenSpec.upto fnExactRatioTextSpec)) fnExactRatioTextUptoCard

/-- THE SECOND FORM's CARD OF 'laws.FnExactSplitWords'. -/
def fnExactSplitWordsUptoCard : Claim7 := { stood := { row := fnExactSplitWordsUptoRow, standIns := [], harness := (true, "9c465242ff4e3632775a6b96a9a4c51d40dbfd71c877930c098ece556a84d187"), looks := true }, kinds := [], alts := [], laidByText := true, laidKinds := [.data, .pinned], laidTests := true, laidLooks := .later }
def FnExactSplitWordsUptoCardSaid : Prop := Claim7.holds Tryd.pinned (.plain (OpenSpec.upto fnExactSplitWordsSpec)) fnExactSplitWordsUptoCard

/-- THE SECOND FORM's CARD OF 'laws.FnExactPowersText'. -/
def fnExactPowersTextUptoCard : Claim7 := { stood := { row := fnExactPowersTextUptoRow, standIns := [], harness := (true, "9c465242ff4e3632775a6b96a9a4c51d40dbfd71c877930c098ece556a84d187"), looks := true }, kinds := [], alts := [], laidByText := true, laidKinds := [.data, .data, .data], laidTests := true, laidLooks := .later }
def FnExactPowersTextUptoCardSaid : Prop := Claim7.holds Tryd.pinned (.plain (OpenSpec.upto fnExactPowersTextSpec)) fnExactPowersTextUptoCard

/-- THE SECOND FORM's CARD OF 'laws.FnExactTrainText'. -/
def fnExactTrainTextUptoCard : Claim7 := { stood := { row := fnExactTrainTextUptoRow, standIns := [], harness := (true, "9c465242ff4e3632775a6b96a9a4c51d40dbfd71c877930c098ece556a84d187"), looks := true }, kinds := [], alts := [], laidByText := true, laidKinds := [.data, .data, .data], laidTests := true, laidLooks := .later }
def FnExactTrainTextUptoCardSaid : Prop := Claim7.holds Tryd.pinned (.plain (OpenSpec.upto fnExactTrainTextSpec)) fnExactTrainTextUptoCard

/-- THE SECOND FORM's CARD OF 'laws.FnExactReadDecimal'. -/
def fnExactReadDecimalUptoCard : Claim7 := { stood := { row := fnExactReadDecimalUptoRow, standIns := [], harness := (true, "9c465242ff4e3632775a6b96a9a4c51d40dbfd71c877930c098ece556a84d187"), looks := true }, kinds := [], alts := [], laidByText := true, laidKinds := [.data, .data, .data, .sentinel, .sentinel], laidTests := true, laidLooks := .later }
def FnExactReadDecimalUptoCardSaid : Prop := Claim7.holds Tryd.pinned (.plain (OpenSpec.upto fnExactReadDecimalSpec)) fnExactReadDecimalUptoCard

/-- THE SECOND FORM's CARD OF 'laws.FnExactReadRatio'. -/
def fnExactReadRatioUptoCard : Claim7 := { stood := { row := fnExactReadRatioUptoRow, standIns := [], harness := (true, "9c465242ff4e3632775a6b96a9a4c51d40dbfd71c877930c098ece556a84d187"), looks := true }, kinds := [], alts := [], laidByText := true, laidKinds := [.data, .data, .data, .sentinel, .sentinel], laidTests := true, laidLooks := .later }
def FnExactReadRatioUptoCardSaid : Prop := Claim7.holds Tryd.pinned (.plain (OpenSpec.upto fnExactReadRatioSpec)) fnExactReadRatioUptoCard

/-- THE SECOND FORM's CARD OF 'laws.FnRatios'. -/
def fnRatiosUptoCard : Claim7 := { stood := { row := fnRatiosUptoRow, standIns := [], harness := (true, "9c465242ff4e3632775a6b96a9a4c51d40dbfd71c877930c098ece556a84d187"), looks := true }, kinds := [], alts := [], laidByText := true, laidKinds := [.data, .data, .data, .sentinel, .sentinel], laidTests := true, laidLooks := .later }
def FnRatiosUptoCardSaid : Prop := Claim7.holds Tryd.pinned (.plain (OpenSpec.upto fnRatiosSpec)) fnRatiosUptoCard

/-- THE SECOND FORM's CARD OF 'laws.FnExactRatioOfPath'. -/
def fnExactRatioOfPathUptoCard : Claim7 := { stood := { row := fnExactRatioOfPathUptoRow, standIns := [], harness := (true, "9c465242ff4e3632775a6b96a9a4c51d40dbfd71c877930c098ece556a84d187"), looks := true }, kinds := [], alts := [], laidByText := true, laidKinds := [.data, .pinned], laidTests := true, laidLooks := .later }
def FnExactRatioOfPathUptoCardSaid : Prop := Claim7.holds Tryd.pinned (.plain (OpenSpec.upto fnExactRatioOfPathSpec)) fnExactRatioOfPathUptoCard

/-- THE SECOND FORM's CARD OF 'laws.FnPaths'. -/
def fnPathsUptoCard : Claim7 := { stood := { row := fnPathsUptoRow, standIns := [], harness := (true, "9c465242ff4e3632775a6b96a9a4c51d40dbfd71c877930c098ece556a84d187"), looks := true }, kinds := [], alts := [], laidByText := true, laidKinds := [.data, .pinned], laidTests := true, laidLooks := .later }
def FnPathsUptoCardSaid : Prop := Claim7.holds Tryd.pinned (.plain (OpenSpec.upto fnPathsSpec)) fnPathsUptoCard
end Rows
end Go.Proofs.YtnlimfijepjliaaDoor
