/-
  DERIVED. GIVEN WITH THE SEED: THE CARDS: each row of YtidmehiboceobaaGreatDoorRows.lean that lists a variable, with what it lists TIED to the program's text (the seventh form; the later family's looks); each row that meets fmt, with fmt's text TOLD by the authors' own Lean function (tested against real Go, not proved from fmt's source: count such statements apart). THE CARD IS WHAT COUNTS. Prove the row's statement (the work); the ties are given (YtidmehiboceobaaGreatDoorTie.lean); close each card by the builder's one call (the guide's Derived/Test/ToyasCard.lean, 'card_holds'). Laid BY PROGRAM, IN A SANDBOX (cutbox-door.mjs). By AI agents, Wed Nov 11 2026. No macro, syntax, notation, axiom, sorry.
-/
import Derived.Test.YtidmehiboceobaaGreatDoorRows
import GoSem.ClaimSeven
namespace Go.Proofs.YtidmehiboceobaaGreatDoor
namespace Rows

/-- THE TIED CARD OF 'ladinglaw08.ViewKeeps'. -/
def viewKeepsCard : Claim7 := { stood := { row := viewKeepsRow, standIns := [], harness := (true, "57a25c22aa125c045c9e338d64a63e1f13a9fe808a8cd4f9c57d8225487c1716"), looks := true }, kinds := [], alts := [], laidByText := true, laidKinds := [.data, .data, .data, .sentinel, .sentinel], laidTests := true, laidLooks := .later }
def ViewKeepsCardSaid : Prop := Claim7.holds Tryz.pinned (.plain (OpenSpec.ofChange viewKeepsSpec)) viewKeepsCard

/-- THE TIED CARD OF 'ladinglaw08.ViewTells'. -/
def viewTellsCard : Claim7 := { stood := { row := viewTellsRow, standIns := [], harness := (true, "57a25c22aa125c045c9e338d64a63e1f13a9fe808a8cd4f9c57d8225487c1716"), looks := true }, kinds := [], alts := [], laidByText := true, laidKinds := [.data, .data, .data, .sentinel, .sentinel], laidTests := true, laidLooks := .later }
def ViewTellsCardSaid : Prop := Claim7.holds Tryz.pinned (.plain (OpenSpec.ofChange viewTellsSpec)) viewTellsCard

/-- THE TIED CARD OF 'ladinglaw08.ViewReads'. -/
def viewReadsCard : Claim7 := { stood := { row := viewReadsRow, standIns := [], harness := (true, "57a25c22aa125c045c9e338d64a63e1f13a9fe808a8cd4f9c57d8225487c1716"), looks := true }, kinds := [], alts := [], laidByText := true, laidKinds := [.data, .data, .data, .sentinel, .sentinel], laidTests := true, laidLooks := .later }
def ViewReadsCardSaid : Prop := Claim7.holds Tryz.pinned (.plain (OpenSpec.ofChange viewReadsSpec)) viewReadsCard

/-- THE SECOND FORM's CARD OF 'ladinglaw08.ViewKeeps'. -/
def viewKeepsUptoCard : Claim7 := { stood := { row := viewKeepsUptoRow, standIns := [], harness := (true, "57a25c22aa125c045c9e338d64a63e1f13a9fe808a8cd4f9c57d8225487c1716"), looks := true }, kinds := [], alts := [], laidByText := true, laidKinds := [.data, .data, .data, .sentinel, .sentinel], laidTests := true, laidLooks := .later }
def ViewKeepsUptoCardSaid : Prop := Claim7.holds Tryz.pinned (.plain (OpenSpec.upto viewKeepsSpec)) viewKeepsUptoCard

/-- THE SECOND FORM's CARD OF 'ladinglaw08.ViewTells'. -/
def viewTellsUptoCard : Claim7 := { stood := { row := viewTellsUptoRow, standIns := [], harness := (true, "57a25c22aa125c045c9e338d64a63e1f13a9fe808a8cd4f9c57d8225487c1716"), looks := true }, kinds := [], alts := [], laidByText := true, laidKinds := [.data, .data, .data, .sentinel, .sentinel], laidTests := true, laidLooks := .later }
def ViewTellsUptoCardSaid : Prop := Claim7.holds Tryz.pinned (.plain (OpenSpec.upto viewTellsSpec)) viewTellsUptoCard

/-- THE SECOND FORM's CARD OF 'ladinglaw08.ViewReads'. -/
def viewReadsUptoCard : Claim7 := { stood := { row := viewReadsUptoRow, standIns := [], harness := (true, "57a25c22aa125c045c9e338d64a63e1f13a9fe808a8cd4f9c57d8225487c1716"), looks := true }, kinds := [], alts := [], laidByText := true, laidKinds := [.data, .data, .data, .sentinel, .sentinel], laidTests := true, laidLooks := .later }
def ViewReadsUptoCardSaid : Prop := Claim7.holds Tryz.pinned (.plain (OpenSpec.upto viewReadsSpec)) viewReadsUptoCard
end Rows
end Go.Proofs.YtidmehiboceobaaGreatDoor
