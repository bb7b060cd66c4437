/-
  DERIVED. GIVEN WITH THE SEED: THE CARDS: each row of YtjcdinafghafcaaDoorRows.lean that lists a variable, with what it lists TIED to the program's text (the seventh form; the later family's looks); each row that meets fmt, with fmt's text TOLD by the authors' own Lean function (tested against real Go, not proved from fmt's source: count such statements apart). THE CARD IS WHAT COUNTS. Prove the row's statement (the work); the ties are given (YtjcdinafghafcaaDoorTie.lean); close each card by the builder's one call (the guide's Derived/Test/ToyasCard.lean, 'card_holds'). Laid BY PROGRAM, IN A SANDBOX (cutbox-door.mjs). By AI agents, Wed Nov 11 2026. No macro, syntax, notation, axiom, sorry.
-/
import Derived.Test.YtjcdinafghafcaaDoorRows
import GoSem.ClaimSeven
namespace Go.Proofs.YtjcdinafghafcaaDoor
namespace Rows

/-- THE TIED CARD OF 'laws.FnExactFieldInverse'. -/
def fnExactFieldInverseCard : Claim7 := { stood := { row := fnExactFieldInverseRow, standIns := [], harness := (true, "06ca10cb3ebcc4a85d85620480fe19d3d54fae8aa8ae24eefad92dd257d0ba7b"), looks := false }, kinds := [], alts := [], laidByText := true, laidKinds := [.data, .data], laidTests := true, laidLooks := .later }
def FnExactFieldInverseCardSaid : Prop := Claim7.holds Tryd.pinned (.plain (OpenSpec.ofChange fnExactFieldInverseSpec)) fnExactFieldInverseCard

/-- THE TIED CARD OF 'laws.FnExactFieldMul'. -/
def fnExactFieldMulCard : Claim7 := { stood := { row := fnExactFieldMulRow, standIns := [], harness := (true, "06ca10cb3ebcc4a85d85620480fe19d3d54fae8aa8ae24eefad92dd257d0ba7b"), looks := false }, kinds := [], alts := [], laidByText := true, laidKinds := [.data, .data], laidTests := true, laidLooks := .later }
def FnExactFieldMulCardSaid : Prop := Claim7.holds Tryd.pinned (.plain (OpenSpec.ofChange fnExactFieldMulSpec)) fnExactFieldMulCard

/-- THE TIED CARD OF 'laws.FnExactFieldPower'. -/
def fnExactFieldPowerCard : Claim7 := { stood := { row := fnExactFieldPowerRow, standIns := [], harness := (true, "06ca10cb3ebcc4a85d85620480fe19d3d54fae8aa8ae24eefad92dd257d0ba7b"), looks := false }, kinds := [], alts := [], laidByText := true, laidKinds := [.data, .data], laidTests := true, laidLooks := .later }
def FnExactFieldPowerCardSaid : Prop := Claim7.holds Tryd.pinned (.plain (OpenSpec.ofChange fnExactFieldPowerSpec)) fnExactFieldPowerCard

/-- THE TIED CARD OF 'laws.FnFieldGenerator'. -/
def fnFieldGeneratorCard : Claim7 := { stood := { row := fnFieldGeneratorRow, standIns := [], harness := (true, "06ca10cb3ebcc4a85d85620480fe19d3d54fae8aa8ae24eefad92dd257d0ba7b"), looks := false }, kinds := [], alts := [], laidByText := true, laidKinds := [.data, .data], laidTests := true, laidLooks := .later }
def FnFieldGeneratorCardSaid : Prop := Claim7.holds Tryd.pinned (.plain (OpenSpec.ofChange fnFieldGeneratorSpec)) fnFieldGeneratorCard

/-- THE TIED CARD OF 'laws.FnExactPolynomialAt'. -/
def fnExactPolynomialAtCard : Claim7 := { stood := { row := fnExactPolynomialAtRow, standIns := [], harness := (true, "06ca10cb3ebcc4a85d85620480fe19d3d54fae8aa8ae24eefad92dd257d0ba7b"), looks := false }, kinds := [], alts := [], laidByText := true, laidKinds := [.data, .data], laidTests := true, laidLooks := .later }
def FnExactPolynomialAtCardSaid : Prop := Claim7.holds Tryd.pinned (.plain (OpenSpec.ofChange fnExactPolynomialAtSpec)) fnExactPolynomialAtCard

/-- THE TIED CARD OF 'laws.FnFieldSquare'. -/
def fnFieldSquareCard : Claim7 := { stood := { row := fnFieldSquareRow, standIns := [], harness := (true, "06ca10cb3ebcc4a85d85620480fe19d3d54fae8aa8ae24eefad92dd257d0ba7b"), looks := false }, kinds := [], alts := [], laidByText := true, laidKinds := [.data, .data], laidTests := true, laidLooks := .later }
def FnFieldSquareCardSaid : Prop := Claim7.holds Tryd.pinned (.plain (OpenSpec.ofChange fnFieldSquareSpec)) fnFieldSquareCard

/-- THE TIED CARD OF 'laws.FnFieldMul'. -/
def fnFieldMulCard : Claim7 := { stood := { row := fnFieldMulRow, standIns := [], harness := (true, "06ca10cb3ebcc4a85d85620480fe19d3d54fae8aa8ae24eefad92dd257d0ba7b"), looks := false }, kinds := [], alts := [], laidByText := true, laidKinds := [.data, .data], laidTests := true, laidLooks := .later }
def FnFieldMulCardSaid : Prop := Claim7.holds Tryd.pinned (.plain (OpenSpec.ofChange fnFieldMulSpec)) fnFieldMulCard

/-- THE TIED CARD OF 'laws.FnFieldPower'. -/
def fnFieldPowerCard : Claim7 := { stood := { row := fnFieldPowerRow, standIns := [], harness := (true, "06ca10cb3ebcc4a85d85620480fe19d3d54fae8aa8ae24eefad92dd257d0ba7b"), looks := false }, kinds := [], alts := [], laidByText := true, laidKinds := [.data, .data], laidTests := true, laidLooks := .later }
def FnFieldPowerCardSaid : Prop := Claim7.holds Tryd.pinned (.plain (OpenSpec.ofChange fnFieldPowerSpec)) fnFieldPowerCard

/-- THE TIED CARD OF 'laws.FnFieldInverse'. -/
def fnFieldInverseCard : Claim7 := { stood := { row := fnFieldInverseRow, standIns := [], harness := (true, "06ca10cb3ebcc4a85d85620480fe19d3d54fae8aa8ae24eefad92dd257d0ba7b"), looks := false }, kinds := [], alts := [], laidByText := true, laidKinds := [.data, .data], laidTests := true, laidLooks := .later }
def FnFieldInverseCardSaid : Prop := Claim7.holds Tryd.pinned (.plain (OpenSpec.ofChange fnFieldInverseSpec)) fnFieldInverseCard

/-- THE TIED CARD OF 'laws.FnFieldPolynomial'. -/
def fnFieldPolynomialCard : Claim7 := { stood := { row := fnFieldPolynomialRow, standIns := [], harness := (true, "06ca10cb3ebcc4a85d85620480fe19d3d54fae8aa8ae24eefad92dd257d0ba7b"), looks := false }, kinds := [], alts := [], laidByText := true, laidKinds := [.data, .data], laidTests := true, laidLooks := .later }
def FnFieldPolynomialCardSaid : Prop := Claim7.holds Tryd.pinned (.plain (OpenSpec.ofChange fnFieldPolynomialSpec)) fnFieldPolynomialCard

/-- THE TIED CARD OF 'laws.FnPolynomialAt'. -/
def fnPolynomialAtCard : Claim7 := { stood := { row := fnPolynomialAtRow, standIns := [], harness := (true, "06ca10cb3ebcc4a85d85620480fe19d3d54fae8aa8ae24eefad92dd257d0ba7b"), looks := false }, kinds := [], alts := [], laidByText := true, laidKinds := [.data, .data], laidTests := true, laidLooks := .later }
def FnPolynomialAtCardSaid : Prop := Claim7.holds Tryd.pinned (.plain (OpenSpec.ofChange fnPolynomialAtSpec)) fnPolynomialAtCard

/-- THE SECOND FORM's CARD OF 'laws.FnExactFieldInverse'. -/
def fnExactFieldInverseUptoCard : Claim7 := { stood := { row := fnExactFieldInverseUptoRow, standIns := [], harness := (true, "06ca10cb3ebcc4a85d85620480fe19d3d54fae8aa8ae24eefad92dd257d0ba7b"), looks := false }, kinds := [], alts := [], laidByText := true, laidKinds := [.data, .data], laidTests := true, laidLooks := .later }
def FnExactFieldInverseUptoCardSaid : Prop := Claim7.holds Tryd.pinned (.plain (OpenSpec.upto fnExactFieldInverseSpec)) fnExactFieldInverseUptoCard

/-- THE SECOND FORM's CARD OF 'laws.FnExactFieldMul'. -/
def fnExactFieldMulUptoCard : Claim7 := { stood := { row := fnExactFieldMulUptoRow, standIns := [], harness := (true, "06ca10cb3ebcc4a85d85620480fe19d3d54fae8aa8ae24eefad92dd257d0ba7b"), looks := false }, kinds := [], alts := [], laidByText := true, laidKinds := [.data, .data], laidTests := true, laidLooks := .later }
def FnExactFieldMulUptoCardSaid : Prop := Claim7.holds Tryd.pinned (.plain (OpenSpec.upto fnExactFieldMulSpec)) fnExactFieldMulUptoCard

/-- THE SECOND FORM's CARD OF 'laws.FnExactFieldPower'. -/
def fnExactFieldPowerUptoCard : Claim7 := { stood := { row := fnExactFieldPowerUptoRow, standIns := [], harness := (true, "06ca10cb3ebcc4a85d85620480fe19d3d54fae8aa8ae24eefad92dd257d0ba7b"), looks := false }, kinds := [], alts := [], laidByText := true, laidKinds := [.data, .data], laidTests := true, laidLooks := .later }
def FnExactFieldPowerUptoCardSaid : Prop := Claim7.holds Tryd.pinned (.plain (OpenSpec.upto fnExactFieldPowerSpec)) fnExactFieldPowerUptoCard

/-- THE SECOND FORM's CARD OF 'laws.FnFieldGenerator'. -/
def fnFieldGeneratorUptoCard : Claim7 := { stood := { row := fnFieldGeneratorUptoRow, standIns := [], harness := (true, "06ca10cb3ebcc4a85d85620480fe19d3d54fae8aa8ae24eefad92dd257d0ba7b"), looks := false }, kinds := [], alts := [], laidByText := true, laidKinds := [.data, .data], laidTests := true, laidLooks := .later }
def FnFieldGeneratorUptoCardSaid : Prop := Claim7.holds Tryd.pinned (.plain (OpenSpec.upto fnFieldGeneratorSpec)) fnFieldGeneratorUptoCard

/-- THE SECOND FORM's CARD OF 'laws.FnExactPolynomialAt'. -/
def fnExactPolynomialAtUptoCard : Claim7 := { stood := { row := fnExactPolynomialAtUptoRow, standIns := [], harness := (true, "06ca10cb3ebcc4a85d85620480fe19d3d54fae8aa8ae24eefad92dd257d0ba7b"), looks := false }, kinds := [], alts := [], laidByText := true, laidKinds := [.data, .data], laidTests := true, laidLooks := .later }
def FnExactPolynomialAtUptoCardSaid : Prop := Claim7.holds Tryd.pinned (.plain (OpenSpec.upto fnExactPolynomialAtSpec)) fnExactPolynomialAtUptoCard

/-- THE SECOND FORM's CARD OF 'laws.FnFieldSquare'. -/
def fnFieldSquareUptoCard : Claim7 := { stood := { row := fnFieldSquareUptoRow, standIns := [], harness := (true, "06ca10cb3ebcc4a85d85620480fe19d3d54fae8aa8ae24eefad92dd257d0ba7b"), looks := false }, kinds := [], alts := [], laidByText := true, laidKinds := [.data, .data], laidTests := true, laidLooks := .later }
def FnFieldSquareUptoCardSaid : Prop := Claim7.holds Tryd.pinned (.plain (OpenSpec.upto fnFieldSquareSpec)) fnFieldSquareUptoCard

/-- THE SECOND FORM's CARD OF 'laws.FnFieldMul'. -/
def fnFieldMulUptoCard : Claim7 := { stood := { row := fnFieldMulUptoRow, standIns := [], harness := (true, "06ca10cb3ebcc4a85d85620480fe19d3d54fae8aa8ae24eefad92dd257d0ba7b"), looks := false }, kinds := [], alts := [], laidByText := true, laidKinds := [.data, .data], laidTests := true, laidLooks := .later }
def FnFieldMulUptoCardSaid : Prop := Claim7.holds Tryd.pinned (.plain (OpenSpec.upto fnFieldMulSpec)) fnFieldMulUptoCard

/-- THE SECOND FORM's CARD OF 'laws.FnFieldPower'. -/
def fnFieldPowerUptoCard : Claim7 := { stood := { row := fnFieldPowerUptoRow, standIns := [], harness := (true, "06ca10cb3ebcc4a85d85620480fe19d3d54fae8aa8ae24eefad92dd257d0ba7b"), looks := false }, kinds := [], alts := [], laidByText := true, laidKinds := [.data, .data], laidTests := true, laidLooks := .later }
def FnFieldPowerUptoCardSaid : Prop := Claim7.holds Tryd.pinned (.plain (OpenSpec.upto fnFieldPowerSpec)) fnFieldPowerUptoCard

/-- THE SECOND FORM's CARD OF 'laws.FnFieldInverse'. -/
def fnFieldInverseUptoCard : Claim7 := { stood := { row := fnFieldInverseUptoRow, standIns := [], harness := (true, "06ca10cb3ebcc4a85d85620480fe19d3d54fae8aa8ae24eefad92dd257d0ba7b"), looks := false }, kinds := [], alts := [], laidByText := true, laidKinds := [.data, .data], laidTests := true, laidLooks := .later }
def FnFieldInverseUptoCardSaid : Prop := Claim7.holds Tryd.pinned (.plain (OpenSpec.upto fnFieldInverseSpec)) fnFieldInverseUptoCard

/-- THE SECOND FORM's CARD OF 'laws.FnFieldPolynomial'. -/
def fnFieldPolynomialUptoCard : Claim7 := { stood := { row := fnFieldPolynomialUptoRow, standIns := [], harness := (true, "06ca10cb3ebcc4a85d85620480fe19d3d54fae8aa8ae24eefad92dd257d0ba7b"), looks := false }, kinds := [], alts := [], laidByText := true, laidKinds := [.data, .data], laidTests := true, laidLooks := .later }
def FnFieldPolynomialUptoCardSaid : Prop := Claim7.holds Tryd.pinned (.plain (OpenSpec.upto fnFieldPolynomialSpec)) fnFieldPolynomialUptoCard

/-- THE SECOND FORM's CARD OF 'laws.FnPolynomialAt'. -/
def fnPolynomialAtUptoCard : Claim7 := { stood := { row := fnPolynomialAtUptoRow, standIns := [], harness := (true, "06ca10cb3ebcc4a85d85620480fe19d3d54fae8aa8ae24eefad92dd257d0ba7b"), looks := false }, kinds := [], alts := [], laidByText := true, laidKinds := [.data, .data], laidTests := true, laidLooks := .later }
def FnPolynomialAtUptoCardSaid : Prop := Claim7.holds Tryd.pinned (.plain (OpenSpec.upto fnPolynomialAtSpec)) fnPolynomialAtUptoCard
end Rows
end Go.Proofs.YtjcdinafghafcaaDoor
