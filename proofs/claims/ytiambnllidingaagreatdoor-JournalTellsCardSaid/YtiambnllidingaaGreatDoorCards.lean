/-
  DERIVED. GIVEN WITH THE SEED: THE CARDS: each row of YtiambnllidingaaGreatDoorRows.lean that lists a variable, with what it lists TIED to the program's text (the seventh form; the later family's looks); each row that meets fmt, with fmt's text TOLD by the authors' own Lean function (tested against real Go, not proved from fmt's source: count such statements apart). THE CARD IS WHAT COUNTS. Prove the row's statement (the work); the ties are given (YtiambnllidingaaGreatDoorTie.lean); close each card by the builder's one call (the guide's Derived/Test/ToyasCard.lean, 'card_holds'). Laid BY PROGRAM, IN A SANDBOX (cutbox-door.mjs). By AI agents, Wed Nov 11 2026. No macro, syntax, notation, axiom, sorry.
-/
import Derived.Test.YtiambnllidingaaGreatDoorRows
import GoSem.ClaimSeven
namespace Go.Proofs.YtiambnllidingaaGreatDoor
namespace Rows

/-- THE TIED CARD OF 'ladinglaw03.JournalTells'. -/
def journalTellsCard : Claim7 := { stood := { row := journalTellsRow, standIns := [], harness := (true, "b90aa2b3acaeb1fb9edfb41f05d1dcfc53096ac1f80a59fdbdfe34485b431e63"), looks := true }, kinds := [], alts := [], laidByText := true, laidKinds := [.data, .data, .data, .sentinel, .sentinel], laidTests := true, laidLooks := .later }
def JournalTellsCardSaid : Prop := Claim7.holds Tryz.pinned (.plain (OpenSpec.ofChange journalTellsSpec)) journalTellsCard

/-- THE TIED CARD OF 'ladinglaw38.FetchEnds'. -/
def fetchEndsCard : Claim7 := { stood := { row := fetchEndsRow, standIns := [], harness := (true, "b90aa2b3acaeb1fb9edfb41f05d1dcfc53096ac1f80a59fdbdfe34485b431e63"), looks := true }, kinds := [], alts := [], laidByText := true, laidKinds := [.data, .data, .data, .sentinel, .sentinel], laidTests := true, laidLooks := .later }
def FetchEndsCardSaid : Prop := Claim7.holds Tryz.pinned (.plain (OpenSpec.ofChange fetchEndsSpec)) fetchEndsCard

/-- THE TIED CARD OF 'ladinglaw38.FetchSurvives'. -/
def fetchSurvivesCard : Claim7 := { stood := { row := fetchSurvivesRow, standIns := [], harness := (true, "b90aa2b3acaeb1fb9edfb41f05d1dcfc53096ac1f80a59fdbdfe34485b431e63"), looks := true }, kinds := [], alts := [], laidByText := true, laidKinds := [.data, .data, .data, .sentinel, .sentinel], laidTests := true, laidLooks := .later }
def FetchSurvivesCardSaid : Prop := Claim7.holds Tryz.pinned (.plain (OpenSpec.ofChange fetchSurvivesSpec)) fetchSurvivesCard

/-- THE TIED CARD OF 'ladinglaw38.FetchTells'. -/
def fetchTellsCard : Claim7 := { stood := { row := fetchTellsRow, standIns := [], harness := (true, "b90aa2b3acaeb1fb9edfb41f05d1dcfc53096ac1f80a59fdbdfe34485b431e63"), looks := true }, kinds := [], alts := [], laidByText := true, laidKinds := [.data, .data, .data, .sentinel, .sentinel], laidTests := true, laidLooks := .later }
def FetchTellsCardSaid : Prop := Claim7.holds Tryz.pinned (.plain (OpenSpec.ofChange fetchTellsSpec)) fetchTellsCard

/-- THE SECOND FORM's CARD OF 'ladinglaw03.JournalTells'. -/
def journalTellsUptoCard : Claim7 := { stood := { row := journalTellsUptoRow, standIns := [], harness := (true, "b90aa2b3acaeb1fb9edfb41f05d1dcfc53096ac1f80a59fdbdfe34485b431e63"), looks := true }, kinds := [], alts := [], laidByText := true, laidKinds := [.data, .data, .data, .sentinel, .sentinel], laidTests := true, laidLooks := .later }
def JournalTellsUptoCardSaid : Prop := Claim7.holds Tryz.pinned (.plain (OpenSpec.upto journalTellsSpec)) journalTellsUptoCard

/-- THE SECOND FORM's CARD OF 'ladinglaw38.FetchEnds'. -/
def fetchEndsUptoCard : Claim7 := { stood := { row := fetchEndsUptoRow, standIns := [], harness := (true, "b90aa2b3acaeb1fb9edfb41f05d1dcfc53096ac1f80a59fdbdfe34485b431e63"), looks := true }, kinds := [], alts := [], laidByText := true, laidKinds := [.data, .data, .data, .sentinel, .sentinel], laidTests := true, laidLooks := .later }
def FetchEndsUptoCardSaid : Prop := Claim7.holds Tryz.pinned (.plain (OpenSpec.upto fetchEndsSpec)) fetchEndsUptoCard

/-- THE SECOND FORM's CARD OF 'ladinglaw38.FetchSurvives'. -/
def fetchSurvivesUptoCard : Claim7 := { stood := { row := fetchSurvivesUptoRow, standIns := [], harness := (true, "b90aa2b3acaeb1fb9edfb41f05d1dcfc53096ac1f80a59fdbdfe34485b431e63"), looks := true }, kinds := [], alts := [], laidByText := true, laidKinds := [.data, .data, .data, .sentinel, .sentinel], laidTests := true, laidLooks := .later }
def FetchSurvivesUptoCardSaid : Prop := Claim7.holds Tryz.pinned (.plain (OpenSpec.upto fetchSurvivesSpec)) fetchSurvivesUptoCard

/-- THE SECOND FORM's CARD OF 'ladinglaw38.FetchTells'. -/
def fetchTellsUptoCard : Claim7 := { stood := { row := fetchTellsUptoRow, standIns := [], harness := (true, "b90aa2b3acaeb1fb9edfb41f05d1dcfc53096ac1f80a59fdbdfe34485b431e63"), looks := true }, kinds := [], alts := [], laidByText := true, laidKinds := [.data, .data, .data, .sentinel, .sentinel], laidTests := true, laidLooks := .later }
def FetchTellsUptoCardSaid : Prop := Claim7.holds Tryz.pinned (.plain (OpenSpec.upto fetchTellsSpec)) fetchTellsUptoCard
end Rows
end Go.Proofs.YtiambnllidingaaGreatDoor
