/-
  DERIVED. GIVEN WITH THE SEED: THE CARDS: each row of YtcelfjoopagmlaaGreatDoorRows.lean that lists a variable, with what it lists TIED to the program's text (the seventh form; the later family's looks); each row that meets fmt, with fmt's text TOLD by the authors' own Lean function (tested against real Go, not proved from fmt's source: count such statements apart). THE CARD IS WHAT COUNTS. Prove the row's statement (the work); the ties are given (YtcelfjoopagmlaaGreatDoorTie.lean); close each card by the builder's one call (the guide's Derived/Test/ToyasCard.lean, 'card_holds'). Laid BY PROGRAM, IN A SANDBOX (cutbox-door.mjs). By AI agents, Wed Nov 11 2026. No macro, syntax, notation, axiom, sorry.
-/
import Derived.Test.YtcelfjoopagmlaaGreatDoorRows
import GoSem.ClaimSeven
namespace Go.Proofs.YtcelfjoopagmlaaGreatDoor
namespace Rows

/-- THE TIED CARD OF 'ladinglaw43.FormatTells'. -/
def formatTellsCard : Claim7 := { stood := { row := formatTellsRow, standIns := [], harness := (true, "c660cdc8840ca11b0180ac7927897f46cee73e5272ea14401735c04f1f3ff5b0"), looks := true }, kinds := [], alts := [], laidByText := true, laidKinds := [.data, .data, .data, .sentinel, .sentinel], laidTests := true, laidLooks := .later }
def FormatTellsCardSaid : Prop := Claim7.holds Tryz.pinned (.plain (OpenSpec.ofChange formatTellsSpec)) formatTellsCard

/-- THE TIED CARD OF 'ladinglaw43.FormatBack'. -/
def formatBackCard : Claim7 := { stood := { row := formatBackRow, standIns := [], harness := (true, "c660cdc8840ca11b0180ac7927897f46cee73e5272ea14401735c04f1f3ff5b0"), looks := true }, kinds := [], alts := [], laidByText := true, laidKinds := [.data, .data, .data, .sentinel, .sentinel], laidTests := true, laidLooks := .later }
def FormatBackCardSaid : Prop := Claim7.holds Tryz.pinned (.plain (OpenSpec.ofChange formatBackSpec)) formatBackCard

/-- THE TIED CARD OF 'ladinglaw43.FormatChains'. -/
def formatChainsCard : Claim7 := { stood := { row := formatChainsRow, standIns := [], harness := (true, "c660cdc8840ca11b0180ac7927897f46cee73e5272ea14401735c04f1f3ff5b0"), looks := true }, kinds := [], alts := [], laidByText := true, laidKinds := [.data, .data, .data, .sentinel, .sentinel], laidTests := true, laidLooks := .later }
def FormatChainsCardSaid : Prop := Claim7.holds Tryz.pinned (.plain (OpenSpec.ofChange formatChainsSpec)) formatChainsCard

/-- THE TIED CARD OF 'ladinglaw43.FormatReads'. -/
def formatReadsCard : Claim7 := { stood := { row := formatReadsRow, standIns := [], harness := (true, "c660cdc8840ca11b0180ac7927897f46cee73e5272ea14401735c04f1f3ff5b0"), looks := true }, kinds := [], alts := [], laidByText := true, laidKinds := [.data, .data, .data, .sentinel, .sentinel], laidTests := true, laidLooks := .later }
def FormatReadsCardSaid : Prop := Claim7.holds Tryz.pinned (.plain (OpenSpec.ofChange formatReadsSpec)) formatReadsCard

/-- THE SECOND FORM's CARD OF 'ladinglaw43.FormatTells'. -/
def formatTellsUptoCard : Claim7 := { stood := { row := formatTellsUptoRow, standIns := [], harness := (true, "c660cdc8840ca11b0180ac7927897f46cee73e5272ea14401735c04f1f3ff5b0"), looks := true }, kinds := [], alts := [], laidByText := true, laidKinds := [.data, .data, .data, .sentinel, .sentinel], laidTests := true, laidLooks := .later }
def FormatTellsUptoCardSaid : Prop := Claim7.holds Tryz.pinned (.plain (OpenSpec.upto formatTellsSpec)) formatTellsUptoCard

/-- THE SECOND FORM's CARD OF 'ladinglaw43.FormatBack'. -/
def formatBackUptoCard : Claim7 := { stood := { row := formatBackUptoRow, standIns := [], harness := (true, "c660cdc8840ca11b0180ac7927897f46cee73e5272ea14401735c04f1f3ff5b0"), looks := true }, kinds := [], alts := [], laidByText := true, laidKinds := [.data, .data, .data, .sentinel, .sentinel], laidTests := true, laidLooks := .later }
def FormatBackUptoCardSaid : Prop := Claim7.holds Tryz.pinned (.plain (OpenSpec.upto formatBackSpec)) formatBackUptoCard

/-- THE SECOND FORM's CARD OF 'ladinglaw43.FormatChains'. -/
def formatChainsUptoCard : Claim7 := { stood := { row := formatChainsUptoRow, standIns := [], harness := (true, "c660cdc8840ca11b0180ac7927897f46cee73e5272ea14401735c04f1f3ff5b0"), looks := true }, kinds := [], alts := [], laidByText := true, laidKinds := [.data, .data, .data, .sentinel, .sentinel], laidTests := true, laidLooks := .later }
def FormatChainsUptoCardSaid : Prop := Claim7.holds Tryz.pinned (.plain (OpenSpec.upto formatChainsSpec)) formatChainsUptoCard

/-- THE SECOND FORM's CARD OF 'ladinglaw43.FormatReads'. -/
def formatReadsUptoCard : Claim7 := { stood := { row := formatReadsUptoRow, standIns := [], harness := (true, "c660cdc8840ca11b0180ac7927897f46cee73e5272ea14401735c04f1f3ff5b0"), looks := true }, kinds := [], alts := [], laidByText := true, laidKinds := [.data, .data, .data, .sentinel, .sentinel], laidTests := true, laidLooks := .later }
def FormatReadsUptoCardSaid : Prop := Claim7.holds Tryz.pinned (.plain (OpenSpec.upto formatReadsSpec)) formatReadsUptoCard
end Rows
end Go.Proofs.YtcelfjoopagmlaaGreatDoor
