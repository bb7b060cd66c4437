/-
  DERIVED. GIVEN WITH THE SEED: THE CARDS: each row of YtpfbmfnfcppjeadDoorRows.lean that lists a variable, with what it lists TIED to the program's text (the seventh form; the later family's looks); each row that meets fmt, with fmt's text TOLD by the authors' own Lean function (tested against real Go, not proved from fmt's source: count such statements apart). THE CARD IS WHAT COUNTS. Prove the row's statement (the work); the ties are given (YtpfbmfnfcppjeadDoorTie.lean); close each card by the builder's one call (the guide's Derived/Test/ToyasCard.lean, 'card_holds'). Laid BY PROGRAM, IN A SANDBOX (cutbox-door.mjs). By AI agents, Wed Nov 11 2026. No macro, syntax, notation, axiom, sorry.
-/
import Derived.Test.YtpfbmfnfcppjeadDoorRows
import GoSem.ClaimSeven
namespace Go.Proofs.YtpfbmfnfcppjeadDoor
namespace Rows

/-- THE TIED CARD OF 'laws.FnEncodeBlocks'. -/
def fnEncodeBlocksCard : Claim7 := { stood := { row := fnEncodeBlocksRow, standIns := [], harness := (true, "6bcd88c7b63527f9dd06b6266189a372941348915d3e0ac402644841528e9549"), looks := false }, kinds := [], alts := [], laidByText := true, laidKinds := [.data, .data], laidTests := true, laidLooks := .later }
def FnEncodeBlocksCardSaid : Prop := Claim7.holds Tryd.pinned (.plain (OpenSpec.ofChange fnEncodeBlocksSpec)) fnEncodeBlocksCard

/-- THE SECOND FORM's CARD OF 'laws.FnEncodeBlocks'. -/
def fnEncodeBlocksUptoCard : Claim7 := { stood := { row := fnEncodeBlocksUptoRow, standIns := [], harness := (true, "6bcd88c7b63527f9dd06b6266189a372941348915d3e0ac402644841528e9549"), looks := false }, kinds := [], alts := [], laidByText := true, laidKinds := [.data, .data], laidTests := true, laidLooks := .later }
def FnEncodeBlocksUptoCardSaid : Prop := Claim7.holds Tryd.pinned (.plain (OpenSpec.upto fnEncodeBlocksSpec)) fnEncodeBlocksUptoCard
end Rows
end Go.Proofs.YtpfbmfnfcppjeadDoor
