/-
  DERIVED. GIVEN WITH THE SEED: THE CARDS: each row of YtploomncapiloaaGreatDoorRows.lean that lists a variable, with what it lists TIED to the program's text (the seventh form; the later family's looks); each row that meets fmt, with fmt's text TOLD by the authors' own Lean function (tested against real Go, not proved from fmt's source: count such statements apart). THE CARD IS WHAT COUNTS. Prove the row's statement (the work); the ties are given (YtploomncapiloaaGreatDoorTie.lean); close each card by the builder's one call (the guide's Derived/Test/ToyasCard.lean, 'card_holds'). Laid BY PROGRAM, IN A SANDBOX (cutbox-door.mjs). By AI agents, Wed Nov 11 2026. No macro, syntax, notation, axiom, sorry.
-/
import Derived.Test.YtploomncapiloaaGreatDoorRows
import GoSem.ClaimSeven
namespace Go.Proofs.YtploomncapiloaaGreatDoor
namespace Rows

/-- THE TIED CARD OF 'croftlaw.DeskSays'. -/
def deskSaysCard : Claim7 := { stood := { row := deskSaysRow, standIns := [], harness := (true, "46dbab3f5a51dca48015c73080bbe96978c73fee83994b8b9d1b8d5a21ecf6ad"), looks := false }, kinds := [], alts := [], laidByText := true, laidKinds := [.data, .data, .data, .data, .widerDeep, .pinned], laidTests := true, laidLooks := .later }
def DeskSaysCardSaid : Prop := Claim7.holds Tryz.pinned (.plain (OpenSpec.ofChange deskSaysSpec)) deskSaysCard

/-- THE TIED CARD OF 'croftkeep.DeskCounts'. -/
def deskCountsCard : Claim7 := { stood := { row := deskCountsRow, standIns := [], harness := (true, "46dbab3f5a51dca48015c73080bbe96978c73fee83994b8b9d1b8d5a21ecf6ad"), looks := false }, kinds := [], alts := [], laidByText := true, laidKinds := [.data, .data, .data, .data, .pinned], laidTests := true, laidLooks := .later }
def DeskCountsCardSaid : Prop := Claim7.holds Tryz.pinned (.plain (OpenSpec.ofChange deskCountsSpec)) deskCountsCard

/-- THE TIED CARD OF 'croftkeep.DeskHead'. -/
def deskHeadCard : Claim7 := { stood := { row := deskHeadRow, standIns := [], harness := (true, "46dbab3f5a51dca48015c73080bbe96978c73fee83994b8b9d1b8d5a21ecf6ad"), looks := false }, kinds := [], alts := [], laidByText := true, laidKinds := [.data, .data, .data, .data, .pinned], laidTests := true, laidLooks := .later }
def DeskHeadCardSaid : Prop := Claim7.holds Tryz.pinned (.plain (OpenSpec.ofChange deskHeadSpec)) deskHeadCard

/-- THE SECOND FORM's CARD OF 'croftlaw.DeskSays'. -/
def deskSaysUptoCard : Claim7 := { stood := { row := deskSaysUptoRow, standIns := [], harness := (true, "46dbab3f5a51dca48015c73080bbe96978c73fee83994b8b9d1b8d5a21ecf6ad"), looks := false }, kinds := [], alts := [], laidByText := true, laidKinds := [.data, .data, .data, .data, .widerDeep, .pinned], laidTests := true, laidLooks := .later }
def DeskSaysUptoCardSaid : Prop := Claim7.holds Tryz.pinned (.plain (OpenSpec.upto deskSaysSpec)) deskSaysUptoCard

/-- THE SECOND FORM's CARD OF 'croftkeep.DeskCounts'. -/
def deskCountsUptoCard : Claim7 := { stood := { row := deskCountsUptoRow, standIns := [], harness := (true, "46dbab3f5a51dca48015c73080bbe96978c73fee83994b8b9d1b8d5a21ecf6ad"), looks := false }, kinds := [], alts := [], laidByText := true, laidKinds := [.data, .data, .data, .data, .pinned], laidTests := true, laidLooks := .later }
def DeskCountsUptoCardSaid : Prop := Claim7.holds Tryz.pinned (.plain (OpenSpec.upto deskCountsSpec)) deskCountsUptoCard

/-- THE SECOND FORM's CARD OF 'croftkeep.DeskHead'. -/
def deskHeadUptoCard : Claim7 := { stood := { row := deskHeadUptoRow, standIns := [], harness := (true, "46dbab3f5a51dca48015c73080bbe96978c73fee83994b8b9d1b8d5a21ecf6ad"), looks := false }, kinds := [], alts := [], laidByText := true, laidKinds := [.data, .data, .data, .data, .pinned], laidTests := true, laidLooks := .later }
def DeskHeadUptoCardSaid : Prop := Claim7.holds Tryz.pinned (.plain (OpenSpec.upto deskHeadSpec)) deskHeadUptoCard
end Rows
end Go.Proofs.YtploomncapiloaaGreatDoor
