/-
  DERIVED. GIVEN WITH THE SEED: THE CARDS: each row of YtnfjkojckffhmaaDoorRows.lean that lists a variable, with what it lists TIED to the program's text (the seventh form; the later family's looks); each row that meets fmt, with fmt's text TOLD by the authors' own Lean function (tested against real Go, not proved from fmt's source: count such statements apart). THE CARD IS WHAT COUNTS. Prove the row's statement (the work); the ties are given (YtnfjkojckffhmaaDoorTie.lean); close each card by the builder's one call (the guide's Derived/Test/ToyasCard.lean, 'card_holds'). Laid BY PROGRAM, IN A SANDBOX (cutbox-door.mjs). By AI agents, Wed Nov 11 2026. No macro, syntax, notation, axiom, sorry.
-/
import Derived.Test.YtnfjkojckffhmaaDoorRows
import GoSem.ClaimSeven
namespace Go.Proofs.YtnfjkojckffhmaaDoor
namespace Rows

/-- THE TIED CARD OF 'ladinglaw06.ClaimTells'. -/
def claimTellsCard : Claim7 := { stood := { row := claimTellsRow, standIns := [], harness := (true, "bc435ad546f1518b24b6e83cfaa3a65a9e411dedd7c3f50d02b9545ed1dfeb67"), looks := true }, kinds := [], alts := [], laidByText := true, laidKinds := [.data, .data, .data, .sentinel, .sentinel], laidTests := true, laidLooks := .later }
def ClaimTellsCardSaid : Prop := Claim7.holds Tryd.pinned (.plain (OpenSpec.ofChange claimTellsSpec)) claimTellsCard

/-- THE TIED CARD OF 'ladinglaw06.ClaimBack'. -/
def claimBackCard : Claim7 := { stood := { row := claimBackRow, standIns := [], harness := (true, "bc435ad546f1518b24b6e83cfaa3a65a9e411dedd7c3f50d02b9545ed1dfeb67"), looks := true }, kinds := [], alts := [], laidByText := true, laidKinds := [.data, .data, .data, .sentinel, .sentinel], laidTests := true, laidLooks := .later }
def ClaimBackCardSaid : Prop := Claim7.holds Tryd.pinned (.plain (OpenSpec.ofChange claimBackSpec)) claimBackCard

/-- THE TIED CARD OF 'ladinglaw06.ClaimCanonical'. -/
def claimCanonicalCard : Claim7 := { stood := { row := claimCanonicalRow, standIns := [], harness := (true, "bc435ad546f1518b24b6e83cfaa3a65a9e411dedd7c3f50d02b9545ed1dfeb67"), looks := true }, kinds := [], alts := [], laidByText := true, laidKinds := [.data, .data, .data, .sentinel, .sentinel], laidTests := true, laidLooks := .later }
def ClaimCanonicalCardSaid : Prop := Claim7.holds Tryd.pinned (.plain (OpenSpec.ofChange claimCanonicalSpec)) claimCanonicalCard

/-- THE TIED CARD OF 'ladinglaw06.ClaimPairs'. -/
def claimPairsCard : Claim7 := { stood := { row := claimPairsRow, standIns := [], harness := (true, "bc435ad546f1518b24b6e83cfaa3a65a9e411dedd7c3f50d02b9545ed1dfeb67"), looks := true }, kinds := [], alts := [], laidByText := true, laidKinds := [.data, .data, .data, .sentinel, .sentinel], laidTests := true, laidLooks := .later }
def ClaimPairsCardSaid : Prop := Claim7.holds Tryd.pinned (.plain (OpenSpec.ofChange claimPairsSpec)) claimPairsCard

/-- THE TIED CARD OF 'ladinglaw06.ClaimTruth'. -/
def claimTruthCard : Claim7 := { stood := { row := claimTruthRow, standIns := [], harness := (true, "bc435ad546f1518b24b6e83cfaa3a65a9e411dedd7c3f50d02b9545ed1dfeb67"), looks := true }, kinds := [], alts := [], laidByText := true, laidKinds := [.data, .data, .data, .sentinel, .sentinel], laidTests := true, laidLooks := .later }
def ClaimTruthCardSaid : Prop := Claim7.holds Tryd.pinned (.plain (OpenSpec.ofChange claimTruthSpec)) claimTruthCard

/-- THE SECOND FORM's CARD OF 'ladinglaw06.ClaimTells'. -/
def claimTellsUptoCard : Claim7 := { stood := { row := claimTellsUptoRow, standIns := [], harness := (true, "bc435ad546f1518b24b6e83cfaa3a65a9e411dedd7c3f50d02b9545ed1dfeb67"), looks := true }, kinds := [], alts := [], laidByText := true, laidKinds := [.data, .data, .data, .sentinel, .sentinel], laidTests := true, laidLooks := .later }
def ClaimTellsUptoCardSaid : Prop := Claim7.holds Tryd.pinned (.plain (OpenSpec.upto claimTellsSpec)) claimTellsUptoCard

/-- THE SECOND FORM's CARD OF 'ladinglaw06.ClaimBack'. -/
def claimBackUptoCard : Claim7 := { stood := { row := claimBackUptoRow, standIns := [], harness := (true, "bc435ad546f1518b24b6e83cfaa3a65a9e411dedd7c3f50d02b9545ed1dfeb67"), looks := true }, kinds := [], alts := [], laidByText := true, laidKinds := [.data, .data, .data, .sentinel, .sentinel], laidTests := true, laidLooks := .later }
def ClaimBackUptoCardSaid : Prop := Claim7.holds Tryd.pinned (.plain (OpenSpec.upto claimBackSpec)) claimBackUptoCard

/-- THE SECOND FORM's CARD OF 'ladinglaw06.ClaimCanonical'. -/
def claimCanonicalUptoCard : Claim7 := { stood := { row := claimCanonicalUptoRow, standIns := [], harness := (true, "bc435ad546f1518b24b6e83cfaa3a65a9e411dedd7c3f50d02b9545ed1dfeb67"), looks := true }, kinds := [], alts := [], laidByText := true, laidKinds := [.data, .data, .data, .sentinel, .sentinel], laidTests := true, laidLooks := .later }
def ClaimCanonicalUptoCardSaid : Prop := Claim7.holds Tryd.pinned (.plain (OpenSpec.upto claimCanonicalSpec)) claimCanonicalUptoCard

/-- THE SECOND FORM's CARD OF 'ladinglaw06.ClaimPairs'. -/
def claimPairsUptoCard : Claim7 := { stood := { row := claimPairsUptoRow, standIns := [], harness := (true, "bc435ad546f1518b24b6e83cfaa3a65a9e411dedd7c3f50d02b9545ed1dfeb67"), looks := true }, kinds := [], alts := [], laidByText := true, laidKinds := [.data, .data, .data, .sentinel, .sentinel], laidTests := true, laidLooks := .later }
def ClaimPairsUptoCardSaid : Prop := Claim7.holds Tryd.pinned (.plain (OpenSpec.upto claimPairsSpec)) claimPairsUptoCard

/-- THE SECOND FORM's CARD OF 'ladinglaw06.ClaimTruth'. -/
def claimTruthUptoCard : Claim7 := { stood := { row := claimTruthUptoRow, standIns := [], harness := (true, "bc435ad546f1518b24b6e83cfaa3a65a9e411dedd7c3f50d02b9545ed1dfeb67"), looks := true }, kinds := [], alts := [], laidByText := true, laidKinds := [.data, .data, .data, .sentinel, .sentinel], laidTests := true, laidLooks := .later }
def ClaimTruthUptoCardSaid : Prop := Claim7.holds Tryd.pinned (.plain (OpenSpec.upto claimTruthSpec)) claimTruthUptoCard
end Rows
end Go.Proofs.YtnfjkojckffhmaaDoor
