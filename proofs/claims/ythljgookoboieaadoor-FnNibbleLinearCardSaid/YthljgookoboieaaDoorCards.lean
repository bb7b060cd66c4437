/-
  DERIVED. GIVEN WITH THE SEED: THE CARDS: each row of YthljgookoboieaaDoorRows.lean that lists a variable, with what it lists TIED to the program's text (the seventh form; the later family's looks); each row that meets fmt, with fmt's text TOLD by the authors' own Lean function (tested against real Go, not proved from fmt's source: count such statements apart). THE CARD IS WHAT COUNTS. Prove the row's statement (the work); the ties are given (YthljgookoboieaaDoorTie.lean); close each card by the builder's one call (the guide's Derived/Test/ToyasCard.lean, 'card_holds'). Laid BY PROGRAM, IN A SANDBOX (cutbox-door.mjs). By AI agents, Wed Nov 11 2026. No macro, syntax, notation, axiom, sorry.
-/
import Derived.Test.YthljgookoboieaaDoorRows
import GoSem.ClaimSeven
namespace Go.Proofs.YthljgookoboieaaDoor
namespace Rows

/-- THE TIED CARD OF 'laws.FnExactEncodeNibble'. -/
def fnExactEncodeNibbleCard : Claim7 := { stood := { row := fnExactEncodeNibbleRow, standIns := [], harness := (true, "4811ca9fe2bf75a489359660b21fca21dad572dea64ebb33138827e7920a13e6"), looks := false }, kinds := [], alts := [], laidByText := true, laidKinds := [.data, .data], laidTests := true, laidLooks := .later }
def FnExactEncodeNibbleCardSaid : Prop := Claim7.holds Tryd.pinned (.plain (OpenSpec.ofChange fnExactEncodeNibbleSpec)) fnExactEncodeNibbleCard

/-- THE TIED CARD OF 'laws.FnExactEncodeBlocks'. -/
def fnExactEncodeBlocksCard : Claim7 := { stood := { row := fnExactEncodeBlocksRow, standIns := [], harness := (true, "4811ca9fe2bf75a489359660b21fca21dad572dea64ebb33138827e7920a13e6"), looks := false }, kinds := [], alts := [], laidByText := true, laidKinds := [.data, .data], laidTests := true, laidLooks := .later }
def FnExactEncodeBlocksCardSaid : Prop := Claim7.holds Tryd.pinned (.plain (OpenSpec.ofChange fnExactEncodeBlocksSpec)) fnExactEncodeBlocksCard

/-- THE TIED CARD OF 'laws.FnExactDecodeNibble'. -/
def fnExactDecodeNibbleCard : Claim7 := { stood := { row := fnExactDecodeNibbleRow, standIns := [], harness := (true, "4811ca9fe2bf75a489359660b21fca21dad572dea64ebb33138827e7920a13e6"), looks := false }, kinds := [], alts := [], laidByText := true, laidKinds := [.data], laidTests := true, laidLooks := .later }
def FnExactDecodeNibbleCardSaid : Prop := Claim7.holds Tryd.pinned (.plain (OpenSpec.ofChange fnExactDecodeNibbleSpec)) fnExactDecodeNibbleCard

/-- THE TIED CARD OF 'laws.FnNibbleLinear'. -/
def fnNibbleLinearCard : Claim7 := { stood := { row := fnNibbleLinearRow, standIns := [], harness := (true, "4811ca9fe2bf75a489359660b21fca21dad572dea64ebb33138827e7920a13e6"), looks := false }, kinds := [], alts := [], laidByText := true, laidKinds := [.data, .data], laidTests := true, laidLooks := .later }
def FnNibbleLinearCardSaid : Prop := Claim7.holds Tryd.pinned (.plain (OpenSpec.ofChange fnNibbleLinearSpec)) fnNibbleLinearCard

/-- THE SECOND FORM's CARD OF 'laws.FnExactEncodeNibble'. -/
def fnExactEncodeNibbleUptoCard : Claim7 := { stood := { row := fnExactEncodeNibbleUptoRow, standIns := [], harness := (true, "4811ca9fe2bf75a489359660b21fca21dad572dea64ebb33138827e7920a13e6"), looks := false }, kinds := [], alts := [], laidByText := true, laidKinds := [.data, .data], laidTests := true, laidLooks := .later }
def FnExactEncodeNibbleUptoCardSaid : Prop := Claim7.holds Tryd.pinned (.plain (OpenSpec.upto fnExactEncodeNibbleSpec)) fnExactEncodeNibbleUptoCard

/-- THE SECOND FORM's CARD OF 'laws.FnExactEncodeBlocks'. -/
def fnExactEncodeBlocksUptoCard : Claim7 := { stood := { row := fnExactEncodeBlocksUptoRow, standIns := [], harness := (true, "4811ca9fe2bf75a489359660b21fca21dad572dea64ebb33138827e7920a13e6"), looks := false }, kinds := [], alts := [], laidByText := true, laidKinds := [.data, .data], laidTests := true, laidLooks := .later }
def FnExactEncodeBlocksUptoCardSaid : Prop := Claim7.holds Tryd.pinned (.plain (OpenSpec.upto fnExactEncodeBlocksSpec)) fnExactEncodeBlocksUptoCard

/-- THE SECOND FORM's CARD OF 'laws.FnExactDecodeNibble'. -/
def fnExactDecodeNibbleUptoCard : Claim7 := { stood := { row := fnExactDecodeNibbleUptoRow, standIns := [], harness := (true, "4811ca9fe2bf75a489359660b21fca21dad572dea64ebb33138827e7920a13e6"), looks := false }, kinds := [], alts := [], laidByText := true, laidKinds := [.data], laidTests := true, laidLooks := .later }
def FnExactDecodeNibbleUptoCardSaid : Prop := Claim7.holds Tryd.pinned (.plain (OpenSpec.upto fnExactDecodeNibbleSpec)) fnExactDecodeNibbleUptoCard

/-- THE SECOND FORM's CARD OF 'laws.FnNibbleLinear'. -/
def fnNibbleLinearUptoCard : Claim7 := { stood := { row := fnNibbleLinearUptoRow, standIns := [], harness := (true, "4811ca9fe2bf75a489359660b21fca21dad572dea64ebb33138827e7920a13e6"), looks := false }, kinds := [], alts := [], laidByText := true, laidKinds := [.data, .data], laidTests := true, laidLooks := .later }
def FnNibbleLinearUptoCardSaid : Prop := Claim7.holds Tryd.pinned (.plain (OpenSpec.upto fnNibbleLinearSpec)) fnNibbleLinearUptoCard
end Rows
end Go.Proofs.YthljgookoboieaaDoor
