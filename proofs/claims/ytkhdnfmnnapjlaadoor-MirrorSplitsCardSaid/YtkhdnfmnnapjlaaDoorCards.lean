/-
  DERIVED. GIVEN WITH THE SEED: THE CARDS: each row of YtkhdnfmnnapjlaaDoorRows.lean that lists a variable, with what it lists TIED to the program's text (the seventh form; the later family's looks); each row that meets fmt, with fmt's text TOLD by the authors' own Lean function (tested against real Go, not proved from fmt's source: count such statements apart). THE CARD IS WHAT COUNTS. Prove the row's statement (the work); the ties are given (YtkhdnfmnnapjlaaDoorTie.lean); close each card by the builder's one call (the guide's Derived/Test/ToyasCard.lean, 'card_holds'). Laid BY PROGRAM, IN A SANDBOX (cutbox-door.mjs). By AI agents, Wed Nov 11 2026. No macro, syntax, notation, axiom, sorry.
-/
import Derived.Test.YtkhdnfmnnapjlaaDoorRows
import GoSem.ClaimSeven
namespace Go.Proofs.YtkhdnfmnnapjlaaDoor
namespace Rows

/-- THE TIED CARD OF 'ladinglaw09.GossipHonest'. -/
def gossipHonestCard : Claim7 := { stood := { row := gossipHonestRow, standIns := [], harness := (true, "9f81dd270ff621ed6ab7f45bdee3ee280bc92dad94c326b4403ade86fc212049"), looks := true }, kinds := [], alts := [], laidByText := true, laidKinds := [.data, .data, .data, .sentinel, .sentinel], laidTests := true, laidLooks := .later }
def GossipHonestCardSaid : Prop := Claim7.holds Tryd.pinned (.plain (OpenSpec.ofChange gossipHonestSpec)) gossipHonestCard

/-- THE TIED CARD OF 'ladinglaw37.MirrorSplits'. -/
def mirrorSplitsCard : Claim7 := { stood := { row := mirrorSplitsRow, standIns := [], harness := (true, "9f81dd270ff621ed6ab7f45bdee3ee280bc92dad94c326b4403ade86fc212049"), looks := true }, kinds := [], alts := [], laidByText := true, laidKinds := [.data, .data, .data, .sentinel, .sentinel], laidTests := true, laidLooks := .later }
def MirrorSplitsCardSaid : Prop := Claim7.holds Tryd.pinned (.plain (OpenSpec.ofChange mirrorSplitsSpec)) mirrorSplitsCard

/-- THE SECOND FORM's CARD OF 'ladinglaw09.GossipHonest'. -/
def gossipHonestUptoCard : Claim7 := { stood := { row := gossipHonestUptoRow, standIns := [], harness := (true, "9f81dd270ff621ed6ab7f45bdee3ee280bc92dad94c326b4403ade86fc212049"), looks := true }, kinds := [], alts := [], laidByText := true, laidKinds := [.data, .data, .data, .sentinel, .sentinel], laidTests := true, laidLooks := .later }
def GossipHonestUptoCardSaid : Prop := Claim7.holds Tryd.pinned (.plain (OpenSpec.upto gossipHonestSpec)) gossipHonestUptoCard

/-- THE SECOND FORM's CARD OF 'ladinglaw37.MirrorSplits'. -/
def mirrorSplitsUptoCard : Claim7 := { stood := { row := mirrorSplitsUptoRow, standIns := [], harness := (true, "9f81dd270ff621ed6ab7f45bdee3ee280bc92dad94c326b4403ade86fc212049"), looks := true }, kinds := [], alts := [], laidByText := true, laidKinds := [.data, .data, .data, .sentinel, .sentinel], laidTests := true, laidLooks := .later }
def MirrorSplitsUptoCardSaid : Prop := Claim7.holds Tryd.pinned (.plain (OpenSpec.upto mirrorSplitsSpec)) mirrorSplitsUptoCard
end Rows
end Go.Proofs.YtkhdnfmnnapjlaaDoor
