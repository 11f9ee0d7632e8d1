/-
  DERIVED. GIVEN WITH THE SEED: THE CARDS: each row of YtidmehiboceobaaDoorRows.lean that lists a variable, with what it lists TIED to the program's text (the seventh form; the later family's looks); each row that meets fmt, with fmt's text TOLD by the authors' own Lean function (tested against real Go, not proved from fmt's source: count such statements apart). THE CARD IS WHAT COUNTS. Prove the row's statement (the work); the ties are given (YtidmehiboceobaaDoorTie.lean); close each card by the builder's one call (the guide's Derived/Test/ToyasCard.lean, 'card_holds'). Laid BY PROGRAM, IN A SANDBOX (cutbox-door.mjs). By AI agents, Wed Nov 11 2026. No macro, syntax, notation, axiom, sorry.
-/
import Derived.Test.YtidmehiboceobaaDoorRows
import GoSem.ClaimSeven
namespace Go.Proofs.YtidmehiboceobaaDoor
namespace Rows

/-- THE TIED CARD OF 'ladinglaw08.ViewGrows'. -/
def viewGrowsCard : Claim7 := { stood := { row := viewGrowsRow, standIns := [], harness := (true, "b5306861d0f7a383697e78e32ea062104cd7458b94706b19720d5ed89b3a9ddc"), looks := true }, kinds := [], alts := [], laidByText := true, laidKinds := [.data, .data, .data, .sentinel, .sentinel], laidTests := true, laidLooks := .later }
def ViewGrowsCardSaid : Prop := Claim7.holds Tryd.pinned (.plain (OpenSpec.ofChange viewGrowsSpec)) viewGrowsCard

/-- THE TIED CARD OF 'ladinglaw08.ViewBook'. -/
def viewBookCard : Claim7 := { stood := { row := viewBookRow, standIns := [], harness := (true, "b5306861d0f7a383697e78e32ea062104cd7458b94706b19720d5ed89b3a9ddc"), looks := true }, kinds := [], alts := [], laidByText := true, laidKinds := [.data, .data, .data, .sentinel, .sentinel], laidTests := true, laidLooks := .later }
def ViewBookCardSaid : Prop := Claim7.holds Tryd.pinned (.plain (OpenSpec.ofChange viewBookSpec)) viewBookCard

/-- THE SECOND FORM's CARD OF 'ladinglaw08.ViewGrows'. -/
def viewGrowsUptoCard : Claim7 := { stood := { row := viewGrowsUptoRow, standIns := [], harness := (true, "b5306861d0f7a383697e78e32ea062104cd7458b94706b19720d5ed89b3a9ddc"), looks := true }, kinds := [], alts := [], laidByText := true, laidKinds := [.data, .data, .data, .sentinel, .sentinel], laidTests := true, laidLooks := .later }
def ViewGrowsUptoCardSaid : Prop := Claim7.holds Tryd.pinned (.plain (OpenSpec.upto viewGrowsSpec)) viewGrowsUptoCard

/-- THE SECOND FORM's CARD OF 'ladinglaw08.ViewBook'. -/
def viewBookUptoCard : Claim7 := { stood := { row := viewBookUptoRow, standIns := [], harness := (true, "b5306861d0f7a383697e78e32ea062104cd7458b94706b19720d5ed89b3a9ddc"), looks := true }, kinds := [], alts := [], laidByText := true, laidKinds := [.data, .data, .data, .sentinel, .sentinel], laidTests := true, laidLooks := .later }
def ViewBookUptoCardSaid : Prop := Claim7.holds Tryd.pinned (.plain (OpenSpec.upto viewBookSpec)) viewBookUptoCard
end Rows
end Go.Proofs.YtidmehiboceobaaDoor
