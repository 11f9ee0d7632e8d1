/-
  DERIVED. GIVEN WITH THE SEED: THE CARDS: each row of YtagmlemlagbfkaaDoorRows.lean that lists a variable, with what it lists TIED to the program's text (the seventh form; the later family's looks); each row that meets fmt, with fmt's text TOLD by the authors' own Lean function (tested against real Go, not proved from fmt's source: count such statements apart). THE CARD IS WHAT COUNTS. Prove the row's statement (the work); the ties are given (YtagmlemlagbfkaaDoorTie.lean); close each card by the builder's one call (the guide's Derived/Test/ToyasCard.lean, 'card_holds'). Laid BY PROGRAM, IN A SANDBOX (cutbox-door.mjs). By AI agents, Wed Nov 11 2026. No macro, syntax, notation, axiom, sorry.
-/
import Derived.Test.YtagmlemlagbfkaaDoorRows
import GoSem.ClaimSeven
namespace Go.Proofs.YtagmlemlagbfkaaDoor
namespace Rows

/-- THE TIED CARD OF 'ladinglaw38.FetchFair'. -/
def fetchFairCard : Claim7 := { stood := { row := fetchFairRow, standIns := [], harness := (true, "5e937de8aa1a44d49a435a8923def7f54b4291c531efb4d7dcefef71ac5c4c87"), looks := true }, kinds := [], alts := [], laidByText := true, laidKinds := [.data, .data, .data, .sentinel, .sentinel], laidTests := true, laidLooks := .later }
def FetchFairCardSaid : Prop := Claim7.holds Tryd.pinned (.plain (OpenSpec.ofChange fetchFairSpec)) fetchFairCard

/-- THE TIED CARD OF 'ladinglaw38.FetchRefuses'. -/
def fetchRefusesCard : Claim7 := { stood := { row := fetchRefusesRow, standIns := [], harness := (true, "5e937de8aa1a44d49a435a8923def7f54b4291c531efb4d7dcefef71ac5c4c87"), looks := true }, kinds := [], alts := [], laidByText := true, laidKinds := [.data, .data, .data, .sentinel, .sentinel], laidTests := true, laidLooks := .later }
def FetchRefusesCardSaid : Prop := Claim7.holds Tryd.pinned (.plain (OpenSpec.ofChange fetchRefusesSpec)) fetchRefusesCard

/-- THE SECOND FORM's CARD OF 'ladinglaw38.FetchFair'. -/
def fetchFairUptoCard : Claim7 := { stood := { row := fetchFairUptoRow, standIns := [], harness := (true, "5e937de8aa1a44d49a435a8923def7f54b4291c531efb4d7dcefef71ac5c4c87"), looks := true }, kinds := [], alts := [], laidByText := true, laidKinds := [.data, .data, .data, .sentinel, .sentinel], laidTests := true, laidLooks := .later }
def FetchFairUptoCardSaid : Prop := Claim7.holds Tryd.pinned (.plain (OpenSpec.upto fetchFairSpec)) fetchFairUptoCard

/-- THE SECOND FORM's CARD OF 'ladinglaw38.FetchRefuses'. -/
def fetchRefusesUptoCard : Claim7 := { stood := { row := fetchRefusesUptoRow, standIns := [], harness := (true, "5e937de8aa1a44d49a435a8923def7f54b4291c531efb4d7dcefef71ac5c4c87"), looks := true }, kinds := [], alts := [], laidByText := true, laidKinds := [.data, .data, .data, .sentinel, .sentinel], laidTests := true, laidLooks := .later }
def FetchRefusesUptoCardSaid : Prop := Claim7.holds Tryd.pinned (.plain (OpenSpec.upto fetchRefusesSpec)) fetchRefusesUptoCard
end Rows
end Go.Proofs.YtagmlemlagbfkaaDoor
