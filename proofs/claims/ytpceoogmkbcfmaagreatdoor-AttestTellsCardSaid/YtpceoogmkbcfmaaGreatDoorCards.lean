/-
  DERIVED. GIVEN WITH THE SEED: THE CARDS: each row of YtpceoogmkbcfmaaGreatDoorRows.lean that lists a variable, with what it lists TIED to the program's text (the seventh form; the later family's looks); each row that meets fmt, with fmt's text TOLD by the authors' own Lean function (tested against real Go, not proved from fmt's source: count such statements apart). THE CARD IS WHAT COUNTS. Prove the row's statement (the work); the ties are given (YtpceoogmkbcfmaaGreatDoorTie.lean); close each card by the builder's one call (the guide's Derived/Test/ToyasCard.lean, 'card_holds'). Laid BY PROGRAM, IN A SANDBOX (cutbox-door.mjs). By AI agents, Wed Nov 11 2026. No macro, syntax, notation, axiom, sorry.
-/
import Derived.Test.YtpceoogmkbcfmaaGreatDoorRows
import GoSem.ClaimSeven
namespace Go.Proofs.YtpceoogmkbcfmaaGreatDoor
namespace Rows

/-- THE TIED CARD OF 'ladinglaw34.AttestTrue'. -/
def attestTrueCard : Claim7 := { stood := { row := attestTrueRow, standIns := [], harness := (true, "59c10c0d7afc6f02f34b5ec8be153c14d3114520f4cb9690d50b2ff57efda088"), looks := true }, kinds := [], alts := [], laidByText := true, laidKinds := [.data, .data, .data, .sentinel, .sentinel], laidTests := true, laidLooks := .later }
def AttestTrueCardSaid : Prop := Claim7.holds Tryz.pinned (.plain (OpenSpec.ofChange attestTrueSpec)) attestTrueCard

/-- THE TIED CARD OF 'ladinglaw34.AttestMore'. -/
def attestMoreCard : Claim7 := { stood := { row := attestMoreRow, standIns := [], harness := (true, "59c10c0d7afc6f02f34b5ec8be153c14d3114520f4cb9690d50b2ff57efda088"), looks := true }, kinds := [], alts := [], laidByText := true, laidKinds := [.data, .data, .data, .sentinel, .sentinel], laidTests := true, laidLooks := .later }
def AttestMoreCardSaid : Prop := Claim7.holds Tryz.pinned (.plain (OpenSpec.ofChange attestMoreSpec)) attestMoreCard

/-- THE TIED CARD OF 'ladinglaw34.AttestTells'. -/
def attestTellsCard : Claim7 := { stood := { row := attestTellsRow, standIns := [], harness := (true, "59c10c0d7afc6f02f34b5ec8be153c14d3114520f4cb9690d50b2ff57efda088"), looks := true }, kinds := [], alts := [], laidByText := true, laidKinds := [.data, .data, .data, .sentinel, .sentinel], laidTests := true, laidLooks := .later }
def AttestTellsCardSaid : Prop := Claim7.holds Tryz.pinned (.plain (OpenSpec.ofChange attestTellsSpec)) attestTellsCard

/-- THE TIED CARD OF 'ladinglaw34.AttestConvicts'. -/
def attestConvictsCard : Claim7 := { stood := { row := attestConvictsRow, standIns := [], harness := (true, "59c10c0d7afc6f02f34b5ec8be153c14d3114520f4cb9690d50b2ff57efda088"), looks := true }, kinds := [], alts := [], laidByText := true, laidKinds := [.data, .data, .data, .sentinel, .sentinel], laidTests := true, laidLooks := .later }
def AttestConvictsCardSaid : Prop := Claim7.holds Tryz.pinned (.plain (OpenSpec.ofChange attestConvictsSpec)) attestConvictsCard

/-- THE SECOND FORM's CARD OF 'ladinglaw34.AttestTrue'. -/
def attestTrueUptoCard : Claim7 := { stood := { row := attestTrueUptoRow, standIns := [], harness := (true, "59c10c0d7afc6f02f34b5ec8be153c14d3114520f4cb9690d50b2ff57efda088"), looks := true }, kinds := [], alts := [], laidByText := true, laidKinds := [.data, .data, .data, .sentinel, .sentinel], laidTests := true, laidLooks := .later }
def AttestTrueUptoCardSaid : Prop := Claim7.holds Tryz.pinned (.plain (OpenSpec.upto attestTrueSpec)) attestTrueUptoCard

/-- THE SECOND FORM's CARD OF 'ladinglaw34.AttestMore'. -/
def attestMoreUptoCard : Claim7 := { stood := { row := attestMoreUptoRow, standIns := [], harness := (true, "59c10c0d7afc6f02f34b5ec8be153c14d3114520f4cb9690d50b2ff57efda088"), looks := true }, kinds := [], alts := [], laidByText := true, laidKinds := [.data, .data, .data, .sentinel, .sentinel], laidTests := true, laidLooks := .later }
def AttestMoreUptoCardSaid : Prop := Claim7.holds Tryz.pinned (.plain (OpenSpec.upto attestMoreSpec)) attestMoreUptoCard

/-- THE SECOND FORM's CARD OF 'ladinglaw34.AttestTells'. -/
def attestTellsUptoCard : Claim7 := { stood := { row := attestTellsUptoRow, standIns := [], harness := (true, "59c10c0d7afc6f02f34b5ec8be153c14d3114520f4cb9690d50b2ff57efda088"), looks := true }, kinds := [], alts := [], laidByText := true, laidKinds := [.data, .data, .data, .sentinel, .sentinel], laidTests := true, laidLooks := .later }
def AttestTellsUptoCardSaid : Prop := Claim7.holds Tryz.pinned (.plain (OpenSpec.upto attestTellsSpec)) attestTellsUptoCard

/-- THE SECOND FORM's CARD OF 'ladinglaw34.AttestConvicts'. -/
def attestConvictsUptoCard : Claim7 := { stood := { row := attestConvictsUptoRow, standIns := [], harness := (true, "59c10c0d7afc6f02f34b5ec8be153c14d3114520f4cb9690d50b2ff57efda088"), looks := true }, kinds := [], alts := [], laidByText := true, laidKinds := [.data, .data, .data, .sentinel, .sentinel], laidTests := true, laidLooks := .later }
def AttestConvictsUptoCardSaid : Prop := Claim7.holds Tryz.pinned (.plain (OpenSpec.upto attestConvictsSpec)) attestConvictsUptoCard
end Rows
end Go.Proofs.YtpceoogmkbcfmaaGreatDoor
