/-
  DERIVED. GIVEN WITH THE SEED: THE CARDS: each row of YtkhdnfmnnapjlaaGreatDoorRows.lean that lists a variable, with what it lists TIED to the program's text (the seventh form; the later family's looks); each row that meets fmt, with fmt's text TOLD by the authors' own Lean function (tested against real Go, not proved from fmt's source: count such statements apart). THE CARD IS WHAT COUNTS. Prove the row's statement (the work); the ties are given (YtkhdnfmnnapjlaaGreatDoorTie.lean); close each card by the builder's one call (the guide's Derived/Test/ToyasCard.lean, 'card_holds'). Laid BY PROGRAM, IN A SANDBOX (cutbox-door.mjs). By AI agents, Wed Nov 11 2026. No macro, syntax, notation, axiom, sorry.
-/
import Derived.Test.YtkhdnfmnnapjlaaGreatDoorRows
import GoSem.ClaimSeven
namespace Go.Proofs.YtkhdnfmnnapjlaaGreatDoor
namespace Rows

/-- THE TIED CARD OF 'ladinglaw37.MirrorModes'. -/
def mirrorModesCard : Claim7 := { stood := { row := mirrorModesRow, standIns := [], harness := (true, "88a333e258253323a5b85019d8451efac2a7cbf81201b83ca77af583b3a310d8"), looks := true }, kinds := [], alts := [], laidByText := true, laidKinds := [.data, .data, .data, .sentinel, .sentinel], laidTests := true, laidLooks := .later }
def MirrorModesCardSaid : Prop := Claim7.holds Tryz.pinned (.plain (OpenSpec.ofChange mirrorModesSpec)) mirrorModesCard

/-- THE TIED CARD OF 'ladinglaw37.MirrorBound'. -/
def mirrorBoundCard : Claim7 := { stood := { row := mirrorBoundRow, standIns := [], harness := (true, "88a333e258253323a5b85019d8451efac2a7cbf81201b83ca77af583b3a310d8"), looks := true }, kinds := [], alts := [], laidByText := true, laidKinds := [.data, .data, .data, .sentinel, .sentinel], laidTests := true, laidLooks := .later }
def MirrorBoundCardSaid : Prop := Claim7.holds Tryz.pinned (.plain (OpenSpec.ofChange mirrorBoundSpec)) mirrorBoundCard

/-- THE TIED CARD OF 'ladinglaw37.MirrorTells'. -/
def mirrorTellsCard : Claim7 := { stood := { row := mirrorTellsRow, standIns := [], harness := (true, "88a333e258253323a5b85019d8451efac2a7cbf81201b83ca77af583b3a310d8"), looks := true }, kinds := [], alts := [], laidByText := true, laidKinds := [.data, .data, .data, .sentinel, .sentinel], laidTests := true, laidLooks := .later }
def MirrorTellsCardSaid : Prop := Claim7.holds Tryz.pinned (.plain (OpenSpec.ofChange mirrorTellsSpec)) mirrorTellsCard

/-- THE SECOND FORM's CARD OF 'ladinglaw37.MirrorModes'. -/
def mirrorModesUptoCard : Claim7 := { stood := { row := mirrorModesUptoRow, standIns := [], harness := (true, "88a333e258253323a5b85019d8451efac2a7cbf81201b83ca77af583b3a310d8"), looks := true }, kinds := [], alts := [], laidByText := true, laidKinds := [.data, .data, .data, .sentinel, .sentinel], laidTests := true, laidLooks := .later }
def MirrorModesUptoCardSaid : Prop := Claim7.holds Tryz.pinned (.plain (OpenSpec.upto mirrorModesSpec)) mirrorModesUptoCard

/-- THE SECOND FORM's CARD OF 'ladinglaw37.MirrorBound'. -/
def mirrorBoundUptoCard : Claim7 := { stood := { row := mirrorBoundUptoRow, standIns := [], harness := (true, "88a333e258253323a5b85019d8451efac2a7cbf81201b83ca77af583b3a310d8"), looks := true }, kinds := [], alts := [], laidByText := true, laidKinds := [.data, .data, .data, .sentinel, .sentinel], laidTests := true, laidLooks := .later }
def MirrorBoundUptoCardSaid : Prop := Claim7.holds Tryz.pinned (.plain (OpenSpec.upto mirrorBoundSpec)) mirrorBoundUptoCard

/-- THE SECOND FORM's CARD OF 'ladinglaw37.MirrorTells'. -/
def mirrorTellsUptoCard : Claim7 := { stood := { row := mirrorTellsUptoRow, standIns := [], harness := (true, "88a333e258253323a5b85019d8451efac2a7cbf81201b83ca77af583b3a310d8"), looks := true }, kinds := [], alts := [], laidByText := true, laidKinds := [.data, .data, .data, .sentinel, .sentinel], laidTests := true, laidLooks := .later }
def MirrorTellsUptoCardSaid : Prop := Claim7.holds Tryz.pinned (.plain (OpenSpec.upto mirrorTellsSpec)) mirrorTellsUptoCard
end Rows
end Go.Proofs.YtkhdnfmnnapjlaaGreatDoor
