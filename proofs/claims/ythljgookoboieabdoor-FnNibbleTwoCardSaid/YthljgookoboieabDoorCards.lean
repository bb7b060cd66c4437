/-
  DERIVED. GIVEN WITH THE SEED: THE CARDS: each row of YthljgookoboieabDoorRows.lean that lists a variable, with what it lists TIED to the program's text (the seventh form; the later family's looks); each row that meets fmt, with fmt's text TOLD by the authors' own Lean function (tested against real Go, not proved from fmt's source: count such statements apart). THE CARD IS WHAT COUNTS. Prove the row's statement (the work); the ties are given (YthljgookoboieabDoorTie.lean); close each card by the builder's one call (the guide's Derived/Test/ToyasCard.lean, 'card_holds'). Laid BY PROGRAM, IN A SANDBOX (cutbox-door.mjs). By AI agents, Wed Nov 11 2026. No macro, syntax, notation, axiom, sorry.
-/
import Derived.Test.YthljgookoboieabDoorRows
import GoSem.ClaimSeven
namespace Go.Proofs.YthljgookoboieabDoor
namespace Rows

/-- THE TIED CARD OF 'laws.FnExactDecodeBlocks'. -/
def fnExactDecodeBlocksCard : Claim7 := { stood := { row := fnExactDecodeBlocksRow, standIns := [], harness := (true, "c52f9789c4b78aa97a4291708473e20c2dbf26c26c1c7ce90042cb8b08b6e420"), looks := false }, kinds := [], alts := [], laidByText := true, laidKinds := [.data], laidTests := true, laidLooks := .later }
def FnExactDecodeBlocksCardSaid : Prop := Claim7.holds Tryd.pinned (.plain (OpenSpec.ofChange fnExactDecodeBlocksSpec)) fnExactDecodeBlocksCard

/-- THE TIED CARD OF 'laws.FnNibbleTwo'. -/
def fnNibbleTwoCard : Claim7 := { stood := { row := fnNibbleTwoRow, standIns := [], harness := (true, "c52f9789c4b78aa97a4291708473e20c2dbf26c26c1c7ce90042cb8b08b6e420"), looks := false }, kinds := [], alts := [], laidByText := true, laidKinds := [.data, .data], laidTests := true, laidLooks := .later }
def FnNibbleTwoCardSaid : Prop := Claim7.holds Tryd.pinned (.plain (OpenSpec.ofChange fnNibbleTwoSpec)) fnNibbleTwoCard

/-- THE TIED CARD OF 'laws.FnDecodeNibble'. -/
def fnDecodeNibbleCard : Claim7 := { stood := { row := fnDecodeNibbleRow, standIns := [], harness := (true, "c52f9789c4b78aa97a4291708473e20c2dbf26c26c1c7ce90042cb8b08b6e420"), looks := false }, kinds := [], alts := [], laidByText := true, laidKinds := [.data, .data], laidTests := true, laidLooks := .later }
def FnDecodeNibbleCardSaid : Prop := Claim7.holds Tryd.pinned (.plain (OpenSpec.ofChange fnDecodeNibbleSpec)) fnDecodeNibbleCard

/-- THE TIED CARD OF 'laws.FnEncodeNibble'. -/
def fnEncodeNibbleCard : Claim7 := { stood := { row := fnEncodeNibbleRow, standIns := [], harness := (true, "c52f9789c4b78aa97a4291708473e20c2dbf26c26c1c7ce90042cb8b08b6e420"), looks := false }, kinds := [], alts := [], laidByText := true, laidKinds := [.data, .data], laidTests := true, laidLooks := .later }
def FnEncodeNibbleCardSaid : Prop := Claim7.holds Tryd.pinned (.plain (OpenSpec.ofChange fnEncodeNibbleSpec)) fnEncodeNibbleCard

/-- THE TIED CARD OF 'laws.FnEncodeBlocks'. -/
def fnEncodeBlocksCard : Claim7 := { stood := { row := fnEncodeBlocksRow, standIns := [], harness := (true, "c52f9789c4b78aa97a4291708473e20c2dbf26c26c1c7ce90042cb8b08b6e420"), looks := false }, kinds := [], alts := [], laidByText := true, laidKinds := [.data, .data], laidTests := true, laidLooks := .later }
def FnEncodeBlocksCardSaid : Prop := Claim7.holds Tryd.pinned (.plain (OpenSpec.ofChange fnEncodeBlocksSpec)) fnEncodeBlocksCard

/-- THE TIED CARD OF 'laws.FnDecodeBlocks'. -/
def fnDecodeBlocksCard : Claim7 := { stood := { row := fnDecodeBlocksRow, standIns := [], harness := (true, "c52f9789c4b78aa97a4291708473e20c2dbf26c26c1c7ce90042cb8b08b6e420"), looks := false }, kinds := [], alts := [], laidByText := true, laidKinds := [.data, .data], laidTests := true, laidLooks := .later }
def FnDecodeBlocksCardSaid : Prop := Claim7.holds Tryd.pinned (.plain (OpenSpec.ofChange fnDecodeBlocksSpec)) fnDecodeBlocksCard

/-- THE SECOND FORM's CARD OF 'laws.FnExactDecodeBlocks'. -/
def fnExactDecodeBlocksUptoCard : Claim7 := { stood := { row := fnExactDecodeBlocksUptoRow, standIns := [], harness := (true, "c52f9789c4b78aa97a4291708473e20c2dbf26c26c1c7ce90042cb8b08b6e420"), looks := false }, kinds := [], alts := [], laidByText := true, laidKinds := [.data], laidTests := true, laidLooks := .later }
def FnExactDecodeBlocksUptoCardSaid : Prop := Claim7.holds Tryd.pinned (.plain (OpenSpec.upto fnExactDecodeBlocksSpec)) fnExactDecodeBlocksUptoCard

/-- THE SECOND FORM's CARD OF 'laws.FnNibbleTwo'. -/
def fnNibbleTwoUptoCard : Claim7 := { stood := { row := fnNibbleTwoUptoRow, standIns := [], harness := (true, "c52f9789c4b78aa97a4291708473e20c2dbf26c26c1c7ce90042cb8b08b6e420"), looks := false }, kinds := [], alts := [], laidByText := true, laidKinds := [.data, .data], laidTests := true, laidLooks := .later }
def FnNibbleTwoUptoCardSaid : Prop := Claim7.holds Tryd.pinned (.plain (OpenSpec.upto fnNibbleTwoSpec)) fnNibbleTwoUptoCard

/-- THE SECOND FORM's CARD OF 'laws.FnDecodeNibble'. -/
def fnDecodeNibbleUptoCard : Claim7 := { stood := { row := fnDecodeNibbleUptoRow, standIns := [], harness := (true, "c52f9789c4b78aa97a4291708473e20c2dbf26c26c1c7ce90042cb8b08b6e420"), looks := false }, kinds := [], alts := [], laidByText := true, laidKinds := [.data, .data], laidTests := true, laidLooks := .later }
def FnDecodeNibbleUptoCardSaid : Prop := Claim7.holds Tryd.pinned (.plain (OpenSpec.upto fnDecodeNibbleSpec)) fnDecodeNibbleUptoCard

/-- THE SECOND FORM's CARD OF 'laws.FnEncodeNibble'. -/
def fnEncodeNibbleUptoCard : Claim7 := { stood := { row := fnEncodeNibbleUptoRow, standIns := [], harness := (true, "c52f9789c4b78aa97a4291708473e20c2dbf26c26c1c7ce90042cb8b08b6e420"), looks := false }, kinds := [], alts := [], laidByText := true, laidKinds := [.data, .data], laidTests := true, laidLooks := .later }
def FnEncodeNibbleUptoCardSaid : Prop := Claim7.holds Tryd.pinned (.plain (OpenSpec.upto fnEncodeNibbleSpec)) fnEncodeNibbleUptoCard

/-- THE SECOND FORM's CARD OF 'laws.FnEncodeBlocks'. -/
def fnEncodeBlocksUptoCard : Claim7 := { stood := { row := fnEncodeBlocksUptoRow, standIns := [], harness := (true, "c52f9789c4b78aa97a4291708473e20c2dbf26c26c1c7ce90042cb8b08b6e420"), looks := false }, kinds := [], alts := [], laidByText := true, laidKinds := [.data, .data], laidTests := true, laidLooks := .later }
def FnEncodeBlocksUptoCardSaid : Prop := Claim7.holds Tryd.pinned (.plain (OpenSpec.upto fnEncodeBlocksSpec)) fnEncodeBlocksUptoCard

/-- THE SECOND FORM's CARD OF 'laws.FnDecodeBlocks'. -/
def fnDecodeBlocksUptoCard : Claim7 := { stood := { row := fnDecodeBlocksUptoRow, standIns := [], harness := (true, "c52f9789c4b78aa97a4291708473e20c2dbf26c26c1c7ce90042cb8b08b6e420"), looks := false }, kinds := [], alts := [], laidByText := true, laidKinds := [.data, .data], laidTests := true, laidLooks := .later }
def FnDecodeBlocksUptoCardSaid : Prop := Claim7.holds Tryd.pinned (.plain (OpenSpec.upto fnDecodeBlocksSpec)) fnDecodeBlocksUptoCard
end Rows
end Go.Proofs.YthljgookoboieabDoor
