/-
  DERIVED. GIVEN WITH THE SEED: THE CARDS: each row of YtagmlemlagbfkaaGreatDoorRows.lean that lists a variable, with what it lists TIED to the program's text (the seventh form; the later family's looks); each row that meets fmt, with fmt's text TOLD by the authors' own Lean function (tested against real Go, not proved from fmt's source: count such statements apart). THE CARD IS WHAT COUNTS. Prove the row's statement (the work); the ties are given (YtagmlemlagbfkaaGreatDoorTie.lean); close each card by the builder's one call (the guide's Derived/Test/ToyasCard.lean, 'card_holds'). Laid BY PROGRAM, IN A SANDBOX (cutbox-door.mjs). By AI agents, Wed Nov 11 2026. No macro, syntax, notation, axiom, sorry.
-/
import Derived.Test.YtagmlemlagbfkaaGreatDoorRows
import GoSem.ClaimSeven
namespace Go.Proofs.YtagmlemlagbfkaaGreatDoor
namespace Rows

/-- THE TIED CARD OF 'ladinglaw37.MirrorModes'. -/
def mirrorModesCard : Claim7 := { stood := { row := mirrorModesRow, standIns := [], harness := (true, "3e6c5da78927bb28613015d190fc7f2550e32af760280330b3711a9e7fc7b1d7"), looks := true }, kinds := [], alts := [], laidByText := true, laidKinds := [.data, .data, .data, .sentinel, .sentinel], laidTests := true, laidLooks := .later }
def MirrorModesCardSaid : Prop := Claim7.holds Tryz.pinned (.plain (OpenSpec.ofChange mirrorModesSpec)) mirrorModesCard

/-- THE TIED CARD OF 'ladinglaw37.MirrorTells'. -/
def mirrorTellsCard : Claim7 := { stood := { row := mirrorTellsRow, standIns := [], harness := (true, "3e6c5da78927bb28613015d190fc7f2550e32af760280330b3711a9e7fc7b1d7"), looks := true }, kinds := [], alts := [], laidByText := true, laidKinds := [.data, .data, .data, .sentinel, .sentinel], laidTests := true, laidLooks := .later }
def MirrorTellsCardSaid : Prop := Claim7.holds Tryz.pinned (.plain (OpenSpec.ofChange mirrorTellsSpec)) mirrorTellsCard

/-- THE TIED CARD OF 'ladinglaw38.FetchEnds'. -/
def fetchEndsCard : Claim7 := { stood := { row := fetchEndsRow, standIns := [], harness := (true, "3e6c5da78927bb28613015d190fc7f2550e32af760280330b3711a9e7fc7b1d7"), looks := true }, kinds := [], alts := [], laidByText := true, laidKinds := [.data, .data, .data, .sentinel, .sentinel], laidTests := true, laidLooks := .later }
def FetchEndsCardSaid : Prop := Claim7.holds Tryz.pinned (.plain (OpenSpec.ofChange fetchEndsSpec)) fetchEndsCard

/-- THE TIED CARD OF 'ladinglaw38.FetchSurvives'. -/
def fetchSurvivesCard : Claim7 := { stood := { row := fetchSurvivesRow, standIns := [], harness := (true, "3e6c5da78927bb28613015d190fc7f2550e32af760280330b3711a9e7fc7b1d7"), looks := true }, kinds := [], alts := [], laidByText := true, laidKinds := [.data, .data, .data, .sentinel, .sentinel], laidTests := true, laidLooks := .later }
def FetchSurvivesCardSaid : Prop := Claim7.holds Tryz.pinned (.plain (OpenSpec.ofChange fetchSurvivesSpec)) fetchSurvivesCard

/-- THE TIED CARD OF 'ladinglaw38.FetchTells'. -/
def fetchTellsCard : Claim7 := { stood := { row := fetchTellsRow, standIns := [], harness := (true, "3e6c5da78927bb28613015d190fc7f2550e32af760280330b3711a9e7fc7b1d7"), looks := true }, kinds := [], alts := [], laidByText := true, laidKinds := [.data, .data, .data, .sentinel, .sentinel], laidTests := true, laidLooks := .later }
def FetchTellsCardSaid : Prop := Claim7.holds Tryz.pinned (.plain (OpenSpec.ofChange fetchTellsSpec)) fetchTellsCard

/-- THE SECOND FORM's CARD OF 'ladinglaw37.MirrorModes'. -/
def mirrorModesUptoCard : Claim7 := { stood := { row := mirrorModesUptoRow, standIns := [], harness := (true, "3e6c5da78927bb28613015d190fc7f2550e32af760280330b3711a9e7fc7b1d7"), looks := true }, kinds := [], alts := [], laidByText := true, laidKinds := [.data, .data, .data, .sentinel, .sentinel], laidTests := true, laidLooks := .later }
def MirrorModesUptoCardSaid : Prop := Claim7.holds Tryz.pinned (.plain (OpenSpec.upto mirrorModesSpec)) mirrorModesUptoCard

/-- THE SECOND FORM's CARD OF 'ladinglaw37.MirrorTells'. -/
def mirrorTellsUptoCard : Claim7 := { stood := { row := mirrorTellsUptoRow, standIns := [], harness := (true, "3e6c5da78927bb28613015d190fc7f2550e32af760280330b3711a9e7fc7b1d7"), looks := true }, kinds := [], alts := [], laidByText := true, laidKinds := [.data, .data, .data, .sentinel, .sentinel], laidTests := true, laidLooks := .later }
def MirrorTellsUptoCardSaid : Prop := Claim7.holds Tryz.pinned (.plain (OpenSpec.upto mirrorTellsSpec)) mirrorTellsUptoCard

/-- THE SECOND FORM's CARD OF 'ladinglaw38.FetchEnds'. -/
def fetchEndsUptoCard : Claim7 := { stood := { row := fetchEndsUptoRow, standIns := [], harness := (true, "3e6c5da78927bb28613015d190fc7f2550e32af760280330b3711a9e7fc7b1d7"), looks := true }, kinds := [], alts := [], laidByText := true, laidKinds := [.data, .data, .data, .sentinel, .sentinel], laidTests := true, laidLooks := .later }
def FetchEndsUptoCardSaid : Prop := Claim7.holds Tryz.pinned (.plain (OpenSpec.upto fetchEndsSpec)) fetchEndsUptoCard

/-- THE SECOND FORM's CARD OF 'ladinglaw38.FetchSurvives'. -/
def fetchSurvivesUptoCard : Claim7 := { stood := { row := fetchSurvivesUptoRow, standIns := [], harness := (true, "3e6c5da78927bb28613015d190fc7f2550e32af760280330b3711a9e7fc7b1d7"), looks := true }, kinds := [], alts := [], laidByText := true, laidKinds := [.data, .data, .data, .sentinel, .sentinel], laidTests := true, laidLooks := .later }
def FetchSurvivesUptoCardSaid : Prop := Claim7.holds Tryz.pinned (.plain (OpenSpec.upto fetchSurvivesSpec)) fetchSurvivesUptoCard

/-- THE SECOND FORM's CARD OF 'ladinglaw38.FetchTells'. -/
def fetchTellsUptoCard : Claim7 := { stood := { row := fetchTellsUptoRow, standIns := [], harness := (true, "3e6c5da78927bb28613015d190fc7f2550e32af760280330b3711a9e7fc7b1d7"), looks := true }, kinds := [], alts := [], laidByText := true, laidKinds := [.data, .data, .data, .sentinel, .sentinel], laidTests := true, laidLooks := .later }
def FetchTellsUptoCardSaid : Prop := Claim7.holds Tryz.pinned (.plain (OpenSpec.upto fetchTellsSpec)) fetchTellsUptoCard
end Rows
end Go.Proofs.YtagmlemlagbfkaaGreatDoor
