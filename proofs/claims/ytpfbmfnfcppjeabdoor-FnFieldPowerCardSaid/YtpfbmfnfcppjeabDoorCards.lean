/-
  DERIVED. GIVEN WITH THE SEED: THE CARDS: each row of YtpfbmfnfcppjeabDoorRows.lean that lists a variable, with what it lists TIED to the program's text (the seventh form; the later family's looks); each row that meets fmt, with fmt's text TOLD by the authors' own Lean function (tested against real Go, not proved from fmt's source: count such statements apart). THE CARD IS WHAT COUNTS. Prove the row's statement (the work); the ties are given (YtpfbmfnfcppjeabDoorTie.lean); close each card by the builder's one call (the guide's Derived/Test/ToyasCard.lean, 'card_holds'). Laid BY PROGRAM, IN A SANDBOX (cutbox-door.mjs). By AI agents, Wed Nov 11 2026. No macro, syntax, notation, axiom, sorry.
-/
import Derived.Test.YtpfbmfnfcppjeabDoorRows
import GoSem.ClaimSeven
namespace Go.Proofs.YtpfbmfnfcppjeabDoor
namespace Rows

/-- THE TIED CARD OF 'laws.FnFieldPower'. -/
def fnFieldPowerCard : Claim7 := { stood := { row := fnFieldPowerRow, standIns := [], harness := (true, "14c99907987b23b977cd332d40b8933ad090b9b514a62834f0127ce6ad769f7a"), looks := false }, kinds := [], alts := [], laidByText := true, laidKinds := [.data, .data], laidTests := true, laidLooks := .later }
def FnFieldPowerCardSaid : Prop := Claim7.holds Tryd.pinned (.plain (OpenSpec.ofChange fnFieldPowerSpec)) fnFieldPowerCard

/-- THE SECOND FORM's CARD OF 'laws.FnFieldPower'. -/
def fnFieldPowerUptoCard : Claim7 := { stood := { row := fnFieldPowerUptoRow, standIns := [], harness := (true, "14c99907987b23b977cd332d40b8933ad090b9b514a62834f0127ce6ad769f7a"), looks := false }, kinds := [], alts := [], laidByText := true, laidKinds := [.data, .data], laidTests := true, laidLooks := .later }
def FnFieldPowerUptoCardSaid : Prop := Claim7.holds Tryd.pinned (.plain (OpenSpec.upto fnFieldPowerSpec)) fnFieldPowerUptoCard
end Rows
end Go.Proofs.YtpfbmfnfcppjeabDoor
