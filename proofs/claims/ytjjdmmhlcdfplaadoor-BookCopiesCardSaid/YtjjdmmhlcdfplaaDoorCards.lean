/-
  DERIVED. GIVEN WITH THE SEED: THE CARDS: each row of YtjjdmmhlcdfplaaDoorRows.lean that lists a variable, with what it lists TIED to the program's text (the seventh form; the later family's looks); each row that meets fmt, with fmt's text TOLD by the authors' own Lean function (tested against real Go, not proved from fmt's source: count such statements apart). THE CARD IS WHAT COUNTS. Prove the row's statement (the work); the ties are given (YtjjdmmhlcdfplaaDoorTie.lean); close each card by the builder's one call (the guide's Derived/Test/ToyasCard.lean, 'card_holds'). Laid BY PROGRAM, IN A SANDBOX (cutbox-door.mjs). By AI agents, Wed Nov 11 2026. No macro, syntax, notation, axiom, sorry.
-/
import Derived.Test.YtjjdmmhlcdfplaaDoorRows
import GoSem.ClaimSeven
namespace Go.Proofs.YtjjdmmhlcdfplaaDoor
namespace Rows

/-- THE TIED CARD OF 'ladinglaw07.BookTells'. -/
def bookTellsCard : Claim7 := { stood := { row := bookTellsRow, standIns := [], harness := (true, "80b3032a4957719239a6a4fda9cff59a4846de18905aa9842415c867f6e77b84"), looks := true }, kinds := [], alts := [], laidByText := true, laidKinds := [.data, .data, .data, .sentinel, .sentinel], laidTests := true, laidLooks := .later }
def BookTellsCardSaid : Prop := Claim7.holds Tryd.pinned (.plain (OpenSpec.ofChange bookTellsSpec)) bookTellsCard

/-- THE TIED CARD OF 'ladinglaw07.BookSays'. -/
def bookSaysCard : Claim7 := { stood := { row := bookSaysRow, standIns := [], harness := (true, "80b3032a4957719239a6a4fda9cff59a4846de18905aa9842415c867f6e77b84"), looks := true }, kinds := [], alts := [], laidByText := true, laidKinds := [.data, .data, .data, .sentinel, .sentinel], laidTests := true, laidLooks := .later }
def BookSaysCardSaid : Prop := Claim7.holds Tryd.pinned (.plain (OpenSpec.ofChange bookSaysSpec)) bookSaysCard

/-- THE TIED CARD OF 'ladinglaw07.BookCopies'. -/
def bookCopiesCard : Claim7 := { stood := { row := bookCopiesRow, standIns := [], harness := (true, "80b3032a4957719239a6a4fda9cff59a4846de18905aa9842415c867f6e77b84"), looks := true }, kinds := [], alts := [], laidByText := true, laidKinds := [.data, .data, .data, .sentinel, .sentinel], laidTests := true, laidLooks := .later }
def BookCopiesCardSaid : Prop := Claim7.holds Tryd.pinned (.plain (OpenSpec.ofChange bookCopiesSpec)) bookCopiesCard

/-- THE TIED CARD OF 'ladinglaw07.BookHonest'. -/
def bookHonestCard : Claim7 := { stood := { row := bookHonestRow, standIns := [], harness := (true, "80b3032a4957719239a6a4fda9cff59a4846de18905aa9842415c867f6e77b84"), looks := true }, kinds := [], alts := [], laidByText := true, laidKinds := [.data, .data, .data, .sentinel, .sentinel], laidTests := true, laidLooks := .later }
def BookHonestCardSaid : Prop := Claim7.holds Tryd.pinned (.plain (OpenSpec.ofChange bookHonestSpec)) bookHonestCard

/-- THE SECOND FORM's CARD OF 'ladinglaw07.BookTells'. -/
def bookTellsUptoCard : Claim7 := { stood := { row := bookTellsUptoRow, standIns := [], harness := (true, "80b3032a4957719239a6a4fda9cff59a4846de18905aa9842415c867f6e77b84"), looks := true }, kinds := [], alts := [], laidByText := true, laidKinds := [.data, .data, .data, .sentinel, .sentinel], laidTests := true, laidLooks := .later }
def BookTellsUptoCardSaid : Prop := Claim7.holds Tryd.pinned (.plain (OpenSpec.upto bookTellsSpec)) bookTellsUptoCard

/-- THE SECOND FORM's CARD OF 'ladinglaw07.BookSays'. -/
def bookSaysUptoCard : Claim7 := { stood := { row := bookSaysUptoRow, standIns := [], harness := (true, "80b3032a4957719239a6a4fda9cff59a4846de18905aa9842415c867f6e77b84"), looks := true }, kinds := [], alts := [], laidByText := true, laidKinds := [.data, .data, .data, .sentinel, .sentinel], laidTests := true, laidLooks := .later }
def BookSaysUptoCardSaid : Prop := Claim7.holds Tryd.pinned (.plain (OpenSpec.upto bookSaysSpec)) bookSaysUptoCard

/-- THE SECOND FORM's CARD OF 'ladinglaw07.BookCopies'. -/
def bookCopiesUptoCard : Claim7 := { stood := { row := bookCopiesUptoRow, standIns := [], harness := (true, "80b3032a4957719239a6a4fda9cff59a4846de18905aa9842415c867f6e77b84"), looks := true }, kinds := [], alts := [], laidByText := true, laidKinds := [.data, .data, .data, .sentinel, .sentinel], laidTests := true, laidLooks := .later }
def BookCopiesUptoCardSaid : Prop := Claim7.holds Tryd.pinned (.plain (OpenSpec.upto bookCopiesSpec)) bookCopiesUptoCard

/-- THE SECOND FORM's CARD OF 'ladinglaw07.BookHonest'. -/
def bookHonestUptoCard : Claim7 := { stood := { row := bookHonestUptoRow, standIns := [], harness := (true, "80b3032a4957719239a6a4fda9cff59a4846de18905aa9842415c867f6e77b84"), looks := true }, kinds := [], alts := [], laidByText := true, laidKinds := [.data, .data, .data, .sentinel, .sentinel], laidTests := true, laidLooks := .later }
def BookHonestUptoCardSaid : Prop := Claim7.holds Tryd.pinned (.plain (OpenSpec.upto bookHonestSpec)) bookHonestUptoCard
end Rows
end Go.Proofs.YtjjdmmhlcdfplaaDoor
