/-
  DERIVED. GIVEN WITH THE SEED: THE CARDS: each row of YtmlmdlbepppnlaaGreatDoorRows.lean that lists a variable, with what it lists TIED to the program's text (the seventh form; the later family's looks); each row that meets fmt, with fmt's text TOLD by the authors' own Lean function (tested against real Go, not proved from fmt's source: count such statements apart). THE CARD IS WHAT COUNTS. Prove the row's statement (the work); the ties are given (YtmlmdlbepppnlaaGreatDoorTie.lean); close each card by the builder's one call (the guide's Derived/Test/ToyasCard.lean, 'card_holds'). Laid BY PROGRAM, IN A SANDBOX (cutbox-door.mjs). By AI agents, Wed Nov 11 2026. No macro, syntax, notation, axiom, sorry.
-/
import Derived.Test.YtmlmdlbepppnlaaGreatDoorRows
import GoSem.ClaimSeven
namespace Go.Proofs.YtmlmdlbepppnlaaGreatDoor
namespace Rows

/-- THE TIED CARD OF 'ladinglaw38.FetchTells'. -/
def fetchTellsCard : Claim7 := { stood := { row := fetchTellsRow, standIns := [], harness := (true, "daef02dbb90f72672f1cae21b902d2528760c800be03446cc0c0eba2940c74c5"), looks := true }, kinds := [], alts := [], laidByText := true, laidKinds := [.data, .data, .data, .sentinel, .sentinel], laidTests := true, laidLooks := .later }
def FetchTellsCardSaid : Prop := Claim7.holds Tryz.pinned (.plain (OpenSpec.ofChange fetchTellsSpec)) fetchTellsCard

/-- THE SECOND FORM's CARD OF 'ladinglaw38.FetchTells'. -/
def fetchTellsUptoCard : Claim7 := { stood := { row := fetchTellsUptoRow, standIns := [], harness := (true, "daef02dbb90f72672f1cae21b902d2528760c800be03446cc0c0eba2940c74c5"), looks := true }, kinds := [], alts := [], laidByText := true, laidKinds := [.data, .data, .data, .sentinel, .sentinel], laidTests := true, laidLooks := .later }
def FetchTellsUptoCardSaid : Prop := Claim7.holds Tryz.pinned (.plain (OpenSpec.upto fetchTellsSpec)) fetchTellsUptoCard
end Rows
end Go.Proofs.YtmlmdlbepppnlaaGreatDoor
