/-
  DERIVED. GIVEN WITH THE SEED: THE CARDS: each row of YtkhefkedhdakbacDoorRows.lean that lists a variable, with what it lists TIED to the program's text (the seventh form; the later family's looks); each row that meets fmt, with fmt's text TOLD by the authors' own Lean function (tested against real Go, not proved from fmt's source: count such statements apart). THE CARD IS WHAT COUNTS. Prove the row's statement (the work); the ties are given (YtkhefkedhdakbacDoorTie.lean); close each card by the builder's one call (the guide's Derived/Test/ToyasCard.lean, 'card_holds'). Laid BY PROGRAM, IN A SANDBOX (cutbox-door.mjs). By AI agents, Wed Nov 11 2026. No macro, syntax, notation, axiom, sorry.
-/
import Derived.Test.YtkhefkedhdakbacDoorRows
import GoSem.ClaimSeven
namespace Go.Proofs.YtkhefkedhdakbacDoor
namespace Rows

/-- THE TIED CARD OF 'laws.FnCheckedBlocks'. -/
def fnCheckedBlocksCard : Claim7 := { stood := { row := fnCheckedBlocksRow, standIns := [], harness := (true, "72fa3d2888b10d6cb7bede61cbf0bd6ceae3c74eae759b8ebf99476e06c0df1c"), looks := false }, kinds := [], alts := [], laidByText := true, laidKinds := [.data, .data], laidTests := true, laidLooks := .later }
def FnCheckedBlocksCardSaid : Prop := Claim7.holds Tryd.pinned (.plain (OpenSpec.ofChange fnCheckedBlocksSpec)) fnCheckedBlocksCard

/-- THE SECOND FORM's CARD OF 'laws.FnCheckedBlocks'. -/
def fnCheckedBlocksUptoCard : Claim7 := { stood := { row := fnCheckedBlocksUptoRow, standIns := [], harness := (true, "72fa3d2888b10d6cb7bede61cbf0bd6ceae3c74eae759b8ebf99476e06c0df1c"), looks := false }, kinds := [], alts := [], laidByText := true, laidKinds := [.data, .data], laidTests := true, laidLooks := .later }
def FnCheckedBlocksUptoCardSaid : Prop := Claim7.holds Tryd.pinned (.plain (OpenSpec.upto fnCheckedBlocksSpec)) fnCheckedBlocksUptoCard
end Rows
end Go.Proofs.YtkhefkedhdakbacDoor
