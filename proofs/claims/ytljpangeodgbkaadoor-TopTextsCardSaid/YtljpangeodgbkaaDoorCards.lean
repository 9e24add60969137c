/-
  DERIVED. GIVEN WITH THE SEED: THE CARDS: each row of YtljpangeodgbkaaDoorRows.lean that lists a variable, with what it lists TIED to the program's text (the seventh form; the later family's looks); each row that meets fmt, with fmt's text TOLD by the authors' own Lean function (tested against real Go, not proved from fmt's source: count such statements apart). THE CARD IS WHAT COUNTS. Prove the row's statement (the work); the ties are given (YtljpangeodgbkaaDoorTie.lean); close each card by the builder's one call (the guide's Derived/Test/ToyasCard.lean, 'card_holds'). Laid BY PROGRAM, IN A SANDBOX (cutbox-door.mjs). By AI agents, Wed Nov 11 2026. No macro, syntax, notation, axiom, sorry.
-/
import Derived.Test.YtljpangeodgbkaaDoorRows
import GoSem.ClaimSeven
namespace Go.Proofs.YtljpangeodgbkaaDoor
namespace Rows

/-- THE TIED CARD OF 'croftlaw.CircuitReads'. -/
def circuitReadsCard : Claim7 := { stood := { row := circuitReadsRow, standIns := [], harness := (true, "9a4d9f2fa35ba88a6a8ca292de7cbffea9c7c6db18065e36532167045e50280d"), looks := false }, kinds := [], alts := [], laidByText := true, laidKinds := [.data, .widerDeep, .pinned], laidTests := true, laidLooks := .later }
def CircuitReadsCardSaid : Prop := Claim7.holds Tryd.pinned (.plain (OpenSpec.ofChange circuitReadsSpec)) circuitReadsCard

/-- THE TIED CARD OF 'croftkeep.CircuitBack'. -/
def circuitBackCard : Claim7 := { stood := { row := circuitBackRow, standIns := [], harness := (true, "9a4d9f2fa35ba88a6a8ca292de7cbffea9c7c6db18065e36532167045e50280d"), looks := false }, kinds := [], alts := [], laidByText := true, laidKinds := [.data, .data, .data, .data, .pinned], laidTests := true, laidLooks := .later }
def CircuitBackCardSaid : Prop := Claim7.holds Tryd.pinned (.plain (OpenSpec.ofChange circuitBackSpec)) circuitBackCard

/-- THE TIED CARD OF 'crofttop.TopTexts'. -/
def topTextsCard : Claim7 := { stood := { row := topTextsRow, standIns := [], harness := (true, "9a4d9f2fa35ba88a6a8ca292de7cbffea9c7c6db18065e36532167045e50280d"), looks := false }, kinds := [], alts := [], laidByText := true, laidKinds := [.data, .data, .data, .data, .pinned], laidTests := true, laidLooks := .later }
def TopTextsCardSaid : Prop := Claim7.holds Tryd.pinned (.plain (OpenSpec.ofChange topTextsSpec)) topTextsCard

/-- THE SECOND FORM's CARD OF 'croftlaw.CircuitReads'. -/
def circuitReadsUptoCard : Claim7 := { stood := { row := circuitReadsUptoRow, standIns := [], harness := (true, "9a4d9f2fa35ba88a6a8ca292de7cbffea9c7c6db18065e36532167045e50280d"), looks := false }, kinds := [], alts := [], laidByText := true, laidKinds := [.data, .widerDeep, .pinned], laidTests := true, laidLooks := .later }
def CircuitReadsUptoCardSaid : Prop := Claim7.holds Tryd.pinned (.plain (OpenSpec.upto circuitReadsSpec)) circuitReadsUptoCard

/-- THE SECOND FORM's CARD OF 'croftkeep.CircuitBack'. -/
def circuitBackUptoCard : Claim7 := { stood := { row := circuitBackUptoRow, standIns := [], harness := (true, "9a4d9f2fa35ba88a6a8ca292de7cbffea9c7c6db18065e36532167045e50280d"), looks := false }, kinds := [], alts := [], laidByText := true, laidKinds := [.data, .data, .data, .data, .pinned], laidTests := true, laidLooks := .later }
def CircuitBackUptoCardSaid : Prop := Claim7.holds Tryd.pinned (.plain (OpenSpec.upto circuitBackSpec)) circuitBackUptoCard

/-- THE SECOND FORM's CARD OF 'crofttop.TopTexts'. -/
def topTextsUptoCard : Claim7 := { stood := { row := topTextsUptoRow, standIns := [], harness := (true, "9a4d9f2fa35ba88a6a8ca292de7cbffea9c7c6db18065e36532167045e50280d"), looks := false }, kinds := [], alts := [], laidByText := true, laidKinds := [.data, .data, .data, .data, .pinned], laidTests := true, laidLooks := .later }
def TopTextsUptoCardSaid : Prop := Claim7.holds Tryd.pinned (.plain (OpenSpec.upto topTextsSpec)) topTextsUptoCard
end Rows
end Go.Proofs.YtljpangeodgbkaaDoor
