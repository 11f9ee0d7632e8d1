/-
  DERIVED. GIVEN WITH THE SEED: THE CARDS: each row of YtjlgmoemnhmgmaaGreatDoorRows.lean that lists a variable, with what it lists TIED to the program's text (the seventh form; the later family's looks); each row that meets fmt, with fmt's text TOLD by the authors' own Lean function (tested against real Go, not proved from fmt's source: count such statements apart). THE CARD IS WHAT COUNTS. Prove the row's statement (the work); the ties are given (YtjlgmoemnhmgmaaGreatDoorTie.lean); close each card by the builder's one call (the guide's Derived/Test/ToyasCard.lean, 'card_holds'). Laid BY PROGRAM, IN A SANDBOX (cutbox-door.mjs). By AI agents, Wed Nov 11 2026. No macro, syntax, notation, axiom, sorry.
-/
import Derived.Test.YtjlgmoemnhmgmaaGreatDoorRows
import GoSem.ClaimSeven
namespace Go.Proofs.YtjlgmoemnhmgmaaGreatDoor
namespace Rows

/-- THE TIED CARD OF 'ladinglaw44.WaveTells'. -/
def waveTellsCard : Claim7 := { stood := { row := waveTellsRow, standIns := [], harness := (true, "0b5e503966b3010f0b8aab26ad512b9f1531e0da7ac5d8cd213e2407403aca61"), looks := true }, kinds := [], alts := [], laidByText := true, laidKinds := [.data, .data, .data, .sentinel, .sentinel], laidTests := true, laidLooks := .later }
def WaveTellsCardSaid : Prop := Claim7.holds Tryz.pinned (.plain (OpenSpec.ofChange waveTellsSpec)) waveTellsCard

/-- THE TIED CARD OF 'ladinglaw44.WavePlan'. -/
def wavePlanCard : Claim7 := { stood := { row := wavePlanRow, standIns := [], harness := (true, "0b5e503966b3010f0b8aab26ad512b9f1531e0da7ac5d8cd213e2407403aca61"), looks := true }, kinds := [], alts := [], laidByText := true, laidKinds := [.data, .data, .data, .sentinel, .sentinel], laidTests := true, laidLooks := .later }
def WavePlanCardSaid : Prop := Claim7.holds Tryz.pinned (.plain (OpenSpec.ofChange wavePlanSpec)) wavePlanCard

/-- THE TIED CARD OF 'ladinglaw44.WaveAlike'. -/
def waveAlikeCard : Claim7 := { stood := { row := waveAlikeRow, standIns := [], harness := (true, "0b5e503966b3010f0b8aab26ad512b9f1531e0da7ac5d8cd213e2407403aca61"), looks := true }, kinds := [], alts := [], laidByText := true, laidKinds := [.data, .data, .data, .sentinel, .sentinel], laidTests := true, laidLooks := .later }
def WaveAlikeCardSaid : Prop := Claim7.holds Tryz.pinned (.plain (OpenSpec.ofChange waveAlikeSpec)) waveAlikeCard

/-- THE TIED CARD OF 'ladinglaw44.WaveParts'. -/
def wavePartsCard : Claim7 := { stood := { row := wavePartsRow, standIns := [], harness := (true, "0b5e503966b3010f0b8aab26ad512b9f1531e0da7ac5d8cd213e2407403aca61"), looks := true }, kinds := [], alts := [], laidByText := true, laidKinds := [.data, .data, .data, .sentinel, .sentinel], laidTests := true, laidLooks := .later }
def WavePartsCardSaid : Prop := Claim7.holds Tryz.pinned (.plain (OpenSpec.ofChange wavePartsSpec)) wavePartsCard

/-- THE TIED CARD OF 'ladinglaw44.WaveTalks'. -/
def waveTalksCard : Claim7 := { stood := { row := waveTalksRow, standIns := [], harness := (true, "0b5e503966b3010f0b8aab26ad512b9f1531e0da7ac5d8cd213e2407403aca61"), looks := true }, kinds := [], alts := [], laidByText := true, laidKinds := [.data, .data, .data, .sentinel, .sentinel], laidTests := true, laidLooks := .later }
def WaveTalksCardSaid : Prop := Claim7.holds Tryz.pinned (.plain (OpenSpec.ofChange waveTalksSpec)) waveTalksCard

/-- THE SECOND FORM's CARD OF 'ladinglaw44.WaveTells'. -/
def waveTellsUptoCard : Claim7 := { stood := { row := waveTellsUptoRow, standIns := [], harness := (true, "0b5e503966b3010f0b8aab26ad512b9f1531e0da7ac5d8cd213e2407403aca61"), looks := true }, kinds := [], alts := [], laidByText := true, laidKinds := [.data, .data, .data, .sentinel, .sentinel], laidTests := true, laidLooks := .later }
def WaveTellsUptoCardSaid : Prop := Claim7.holds Tryz.pinned (.plain (OpenSpec.upto waveTellsSpec)) waveTellsUptoCard

/-- THE SECOND FORM's CARD OF 'ladinglaw44.WavePlan'. -/
def wavePlanUptoCard : Claim7 := { stood := { row := wavePlanUptoRow, standIns := [], harness := (true, "0b5e503966b3010f0b8aab26ad512b9f1531e0da7ac5d8cd213e2407403aca61"), looks := true }, kinds := [], alts := [], laidByText := true, laidKinds := [.data, .data, .data, .sentinel, .sentinel], laidTests := true, laidLooks := .later }
def WavePlanUptoCardSaid : Prop := Claim7.holds Tryz.pinned (.plain (OpenSpec.upto wavePlanSpec)) wavePlanUptoCard

/-- THE SECOND FORM's CARD OF 'ladinglaw44.WaveAlike'. -/
def waveAlikeUptoCard : Claim7 := { stood := { row := waveAlikeUptoRow, standIns := [], harness := (true, "0b5e503966b3010f0b8aab26ad512b9f1531e0da7ac5d8cd213e2407403aca61"), looks := true }, kinds := [], alts := [], laidByText := true, laidKinds := [.data, .data, .data, .sentinel, .sentinel], laidTests := true, laidLooks := .later }
def WaveAlikeUptoCardSaid : Prop := Claim7.holds Tryz.pinned (.plain (OpenSpec.upto waveAlikeSpec)) waveAlikeUptoCard

/-- THE SECOND FORM's CARD OF 'ladinglaw44.WaveParts'. -/
def wavePartsUptoCard : Claim7 := { stood := { row := wavePartsUptoRow, standIns := [], harness := (true, "0b5e503966b3010f0b8aab26ad512b9f1531e0da7ac5d8cd213e2407403aca61"), looks := true }, kinds := [], alts := [], laidByText := true, laidKinds := [.data, .data, .data, .sentinel, .sentinel], laidTests := true, laidLooks := .later }
def WavePartsUptoCardSaid : Prop := Claim7.holds Tryz.pinned (.plain (OpenSpec.upto wavePartsSpec)) wavePartsUptoCard

/-- THE SECOND FORM's CARD OF 'ladinglaw44.WaveTalks'. -/
def waveTalksUptoCard : Claim7 := { stood := { row := waveTalksUptoRow, standIns := [], harness := (true, "0b5e503966b3010f0b8aab26ad512b9f1531e0da7ac5d8cd213e2407403aca61"), looks := true }, kinds := [], alts := [], laidByText := true, laidKinds := [.data, .data, .data, .sentinel, .sentinel], laidTests := true, laidLooks := .later }
def WaveTalksUptoCardSaid : Prop := Claim7.holds Tryz.pinned (.plain (OpenSpec.upto waveTalksSpec)) waveTalksUptoCard
end Rows
end Go.Proofs.YtjlgmoemnhmgmaaGreatDoor
