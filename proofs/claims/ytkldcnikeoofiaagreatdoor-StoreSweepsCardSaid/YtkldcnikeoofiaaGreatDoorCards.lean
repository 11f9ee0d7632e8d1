/-
  DERIVED. GIVEN WITH THE SEED: THE CARDS: each row of YtkldcnikeoofiaaGreatDoorRows.lean that lists a variable, with what it lists TIED to the program's text (the seventh form; the later family's looks); each row that meets fmt, with fmt's text TOLD by the authors' own Lean function (tested against real Go, not proved from fmt's source: count such statements apart). THE CARD IS WHAT COUNTS. Prove the row's statement (the work); the ties are given (YtkldcnikeoofiaaGreatDoorTie.lean); close each card by the builder's one call (the guide's Derived/Test/ToyasCard.lean, 'card_holds'). Laid BY PROGRAM, IN A SANDBOX (cutbox-door.mjs). By AI agents, Wed Nov 11 2026. No macro, syntax, notation, axiom, sorry.
-/
import Derived.Test.YtkldcnikeoofiaaGreatDoorRows
import GoSem.ClaimSeven
namespace Go.Proofs.YtkldcnikeoofiaaGreatDoor
namespace Rows

/-- THE TIED CARD OF 'ladinglaw40.InstallText'. -/
def installTextCard : Claim7 := { stood := { row := installTextRow, standIns := [], harness := (true, "09076ae51579637df13055a29f88793c7c94eaf6b575c762ec2abb87fe91c6f3"), looks := true }, kinds := [], alts := [], laidByText := true, laidKinds := [.data, .data, .data, .sentinel, .sentinel], laidTests := true, laidLooks := .later }
def InstallTextCardSaid : Prop := Claim7.holds Tryz.pinned (.plain (OpenSpec.ofChange installTextSpec)) installTextCard

/-- THE TIED CARD OF 'ladinglaw39.StoreSweeps'. -/
def storeSweepsCard : Claim7 := { stood := { row := storeSweepsRow, standIns := [], harness := (true, "09076ae51579637df13055a29f88793c7c94eaf6b575c762ec2abb87fe91c6f3"), looks := true }, kinds := [], alts := [], laidByText := true, laidKinds := [.data, .data, .data, .data, .sentinel, .sentinel, .pinned], laidTests := true, laidLooks := .later }
def StoreSweepsCardSaid : Prop := Claim7.holds Tryz.pinned (.plain (OpenSpec.ofChange storeSweepsSpec)) storeSweepsCard

/-- THE TIED CARD OF 'ladinglaw39.StoreKeeps'. -/
def storeKeepsCard : Claim7 := { stood := { row := storeKeepsRow, standIns := [], harness := (true, "09076ae51579637df13055a29f88793c7c94eaf6b575c762ec2abb87fe91c6f3"), looks := true }, kinds := [], alts := [], laidByText := true, laidKinds := [.data, .data, .data, .data, .sentinel, .sentinel, .pinned], laidTests := true, laidLooks := .later }
def StoreKeepsCardSaid : Prop := Claim7.holds Tryz.pinned (.plain (OpenSpec.ofChange storeKeepsSpec)) storeKeepsCard

/-- THE TIED CARD OF 'ladinglaw39.StoreTells'. -/
def storeTellsCard : Claim7 := { stood := { row := storeTellsRow, standIns := [], harness := (true, "09076ae51579637df13055a29f88793c7c94eaf6b575c762ec2abb87fe91c6f3"), looks := true }, kinds := [], alts := [], laidByText := true, laidKinds := [.data, .data, .data, .data, .sentinel, .sentinel, .pinned], laidTests := true, laidLooks := .later }
def StoreTellsCardSaid : Prop := Claim7.holds Tryz.pinned (.plain (OpenSpec.ofChange storeTellsSpec)) storeTellsCard

/-- THE TIED CARD OF 'ladinglaw40.InstallMigrates'. -/
def installMigratesCard : Claim7 := { stood := { row := installMigratesRow, standIns := [], harness := (true, "09076ae51579637df13055a29f88793c7c94eaf6b575c762ec2abb87fe91c6f3"), looks := true }, kinds := [], alts := [], laidByText := true, laidKinds := [.data, .data, .data, .sentinel, .sentinel], laidTests := true, laidLooks := .later }
def InstallMigratesCardSaid : Prop := Claim7.holds Tryz.pinned (.plain (OpenSpec.ofChange installMigratesSpec)) installMigratesCard

/-- THE SECOND FORM's CARD OF 'ladinglaw40.InstallText'. -/
def installTextUptoCard : Claim7 := { stood := { row := installTextUptoRow, standIns := [], harness := (true, "09076ae51579637df13055a29f88793c7c94eaf6b575c762ec2abb87fe91c6f3"), looks := true }, kinds := [], alts := [], laidByText := true, laidKinds := [.data, .data, .data, .sentinel, .sentinel], laidTests := true, laidLooks := .later }
def InstallTextUptoCardSaid : Prop := Claim7.holds Tryz.pinned (.plain (OpenSpec.upto installTextSpec)) installTextUptoCard

/-- THE SECOND FORM's CARD OF 'ladinglaw39.StoreSweeps'. -/
def storeSweepsUptoCard : Claim7 := { stood := { row := storeSweepsUptoRow, standIns := [], harness := (true, "09076ae51579637df13055a29f88793c7c94eaf6b575c762ec2abb87fe91c6f3"), looks := true }, kinds := [], alts := [], laidByText := true, laidKinds := [.data, .data, .data, .data, .sentinel, .sentinel, .pinned], laidTests := true, laidLooks := .later }
def StoreSweepsUptoCardSaid : Prop := Claim7.holds Tryz.pinned (.plain (OpenSpec.upto storeSweepsSpec)) storeSweepsUptoCard

/-- THE SECOND FORM's CARD OF 'ladinglaw39.StoreKeeps'. -/
def storeKeepsUptoCard : Claim7 := { stood := { row := storeKeepsUptoRow, standIns := [], harness := (true, "09076ae51579637df13055a29f88793c7c94eaf6b575c762ec2abb87fe91c6f3"), looks := true }, kinds := [], alts := [], laidByText := true, laidKinds := [.data, .data, .data, .data, .sentinel, .sentinel, .pinned], laidTests := true, laidLooks := .later }
def StoreKeepsUptoCardSaid : Prop := Claim7.holds Tryz.pinned (.plain (OpenSpec.upto storeKeepsSpec)) storeKeepsUptoCard

/-- THE SECOND FORM's CARD OF 'ladinglaw39.StoreTells'. -/
def storeTellsUptoCard : Claim7 := { stood := { row := storeTellsUptoRow, standIns := [], harness := (true, "09076ae51579637df13055a29f88793c7c94eaf6b575c762ec2abb87fe91c6f3"), looks := true }, kinds := [], alts := [], laidByText := true, laidKinds := [.data, .data, .data, .data, .sentinel, .sentinel, .pinned], laidTests := true, laidLooks := .later }
def StoreTellsUptoCardSaid : Prop := Claim7.holds Tryz.pinned (.plain (OpenSpec.upto storeTellsSpec)) storeTellsUptoCard

/-- THE SECOND FORM's CARD OF 'ladinglaw40.InstallMigrates'. -/
def installMigratesUptoCard : Claim7 := { stood := { row := installMigratesUptoRow, standIns := [], harness := (true, "09076ae51579637df13055a29f88793c7c94eaf6b575c762ec2abb87fe91c6f3"), looks := true }, kinds := [], alts := [], laidByText := true, laidKinds := [.data, .data, .data, .sentinel, .sentinel], laidTests := true, laidLooks := .later }
def InstallMigratesUptoCardSaid : Prop := Claim7.holds Tryz.pinned (.plain (OpenSpec.upto installMigratesSpec)) installMigratesUptoCard
end Rows
end Go.Proofs.YtkldcnikeoofiaaGreatDoor
