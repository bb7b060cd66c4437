/-
  NARROWER THAN 'FOR EVERY INPUT', by the rows' own cells (each row's printed sentence says how): FnFieldPower: laid.
  DERIVED. THE GIVEN ROWS OF THIS SEAT. 1 by the template 'for every input the law returns true; each argument reads behind the call as it read before'; 0 by the template 'total and deterministic' (their statements: YtpfbmfnfcppjeabDoorTotals.lean).
  GIVEN WITH THE SEED: the statements are not yours to turn. If you find one false, say at which input.
  Laid BY PROGRAM, IN A SANDBOX (cutbox-rows.mjs): the forced cells as the released guide's own fill.sh prints them over the translation c5084f6ae1c5995f… (all of the seat's roots in one cut). By AI agents, Wed Nov 11 2026. No macro, syntax, notation, axiom, sorry.
-/
import Derived.Test.YtpfbmfnfcppjeabDoorChecked
import GoSem.Claim
import GoSem.ClaimJoined
import GoSem.ClaimMapViews
import Derived.JoinedTies
import Derived.KernelRfl
namespace Go.Proofs.YtpfbmfnfcppjeabDoor
/- THE CELL 'sum', in the pinned program and in every row, IS THE sha256 OF THE DUMP (.gsa) THAT YtpfbmfnfcppjeabDoorProg.lean LOADS. Nothing in Lean hashes anything: it is a label: what it is worth is what the hold of that sum in a sandbox is worth. -/
noncomputable def Tryd.pinned : Pinned := { name := "ytpfbmfnfcppjeabdoor", sum := "c5084f6ae1c5995f92caab3c717c78c4aa2dc4e6d2913633ff5cb88e138ef459", checked := Tryd.checked }
namespace Rows
def none {H : Type} : Left H := { results := [], args := [] }

/- WHAT THE LISTED PACKAGE-LEVEL VARIABLES READ AS WHEN THE CALL BEGINS. Each datum BY PROGRAM (the guide's laid-datum.mjs) off the statement by which the dump's own 'gosem.cut.vars' lays the variable. In a bare row this is a premise. The card (YtpfbmfnfcppjeabDoorCards.lean) ties it to the program's text. -/
def laid_loop_example_softwareradio_impl_powersOfTwo {H : Type} : DataW H := .agg [.lit (.int .i64 1), .lit (.int .i64 2), .lit (.int .i64 4), .lit (.int .i64 8), .lit (.int .i64 3), .lit (.int .i64 6), .lit (.int .i64 12), .lit (.int .i64 11), .lit (.int .i64 5), .lit (.int .i64 10), .lit (.int .i64 7), .lit (.int .i64 14), .lit (.int .i64 15), .lit (.int .i64 13), .lit (.int .i64 9)]
def laid_loop_example_softwareradio_impl_logarithms {H : Type} : DataW H := .agg [.lit (.int .i64 0), .lit (.int .i64 0), .lit (.int .i64 1), .lit (.int .i64 4), .lit (.int .i64 2), .lit (.int .i64 8), .lit (.int .i64 5), .lit (.int .i64 10), .lit (.int .i64 3), .lit (.int .i64 14), .lit (.int .i64 9), .lit (.int .i64 7), .lit (.int .i64 6), .lit (.int .i64 13), .lit (.int .i64 11), .lit (.int .i64 12)]

/-- 'laws.FnFieldPower': WHATEVER THE INPUT: true; the input reads as it did. -/
def fnFieldPowerSpec : ChangeSpec := { name := "fnFieldPower", vars := ["loop.example/softwareradio/impl.logarithms", "loop.example/softwareradio/impl.powersOfTwo"], fn := fun _ => fun
  | [d, g1, g2] => { results := [.lit (.bool true)], args := [d], vars := [g1, g2] }
  | _ => none }
def fnFieldPowerRow : OpenClaim := { program := "ytpfbmfnfcppjeabdoor", sum := "c5084f6ae1c5995f92caab3c717c78c4aa2dc4e6d2913633ff5cb88e138ef459", func := "loop.example/softwareradio/laws.FnFieldPower", spec := "fnFieldPower", named := ["loop.example/softwareradio/impl.logarithms", "loop.example/softwareradio/impl.powersOfTwo"], apart := false, laid := [("loop.example/softwareradio/impl.powersOfTwo", laid_loop_example_softwareradio_impl_powersOfTwo), ("loop.example/softwareradio/impl.logarithms", laid_loop_example_softwareradio_impl_logarithms)] }
def FnFieldPowerSaid : Prop := fnFieldPowerRow.holds Tryd.pinned (OpenSpec.ofChange fnFieldPowerSpec)

/-- ITS FALSE NEIGHBOUR: 'it returns false'. Refute it at one input. -/
def fnFieldPowerWrong : ChangeSpec := { name := "fnFieldPower", vars := ["loop.example/softwareradio/impl.logarithms", "loop.example/softwareradio/impl.powersOfTwo"], fn := fun _ => fun
  | [d, g1, g2] => { results := [.lit (.bool false)], args := [d], vars := [g1, g2] }
  | _ => none }
def FnFieldPowerWrongFalsely : Prop := fnFieldPowerRow.holds Tryd.pinned (OpenSpec.ofChange fnFieldPowerWrong)

/- THE SECOND FORM. 'bulk': how many values and letters a reading holds, each counted each time it is reached (what is shared counts as often as it is met; a slice's spare places count too). A statement '..UptoSaid' is the law's where the arguments, and the package variables that the reading takes, are together of bulk at most 1048576: NARROWER than '..Said'. Prove '..Said' where nothing that the law and all that it calls make is longer than what came in: it says more and counts as full. Else prove '..UptoSaid'. A law counts once. -/
mutual
def uptoBulk {H : Type} : DataW H → Nat
  | .lit (.string bytes) => bytes.length + 1
  | .lit _ => 1
  | .nil => 1
  | .ptr d => uptoBulk d + 1
  | .slice elems spare => uptoBulkAll elems + uptoBulkAll spare + 1
  | .agg parts => uptoBulkAll parts + 1
  | .iface _ d => uptoBulk d + 1
  | .map entries => uptoBulkEntries entries + 1
  | .held _ => 1
def uptoBulkAll {H : Type} : List (DataW H) → Nat
  | [] => 0
  | d :: r => uptoBulk d + uptoBulkAll r
def uptoBulkEntries {H : Type} : List (Lit × DataW H) → Nat
  | [] => 0
  | x :: r => uptoBulkEntry x + uptoBulkEntries r
def uptoBulkEntry {H : Type} : Lit × DataW H → Nat
  | (.string bytes, d) => bytes.length + uptoBulk d + 1
  | (_, d) => uptoBulk d + 1
 end
def uptoSmall : (H : Type) → List (DataW H) → Bool := fun _ ds => decide (uptoBulkAll ds ≤ 1048576)
def OpenSpec.upto (s : _root_.Go.ChangeSpec) : _root_.Go.OpenSpec := { _root_.Go.OpenSpec.ofChange s with cond := some uptoSmall }

/-- 'laws.FnFieldPower', WHERE WHAT IT READS IS OF BULK AT MOST 1048576: true; the input reads as it did. -/
def fnFieldPowerUptoRow : OpenClaim := { program := "ytpfbmfnfcppjeabdoor", sum := "c5084f6ae1c5995f92caab3c717c78c4aa2dc4e6d2913633ff5cb88e138ef459", func := "loop.example/softwareradio/laws.FnFieldPower", spec := "fnFieldPower", named := ["loop.example/softwareradio/impl.logarithms", "loop.example/softwareradio/impl.powersOfTwo"], apart := false, laid := [("loop.example/softwareradio/impl.powersOfTwo", laid_loop_example_softwareradio_impl_powersOfTwo), ("loop.example/softwareradio/impl.logarithms", laid_loop_example_softwareradio_impl_logarithms)], narrowed := true }
def FnFieldPowerUptoSaid : Prop := fnFieldPowerUptoRow.holds Tryd.pinned (OpenSpec.upto fnFieldPowerSpec)

end Rows
end Go.Proofs.YtpfbmfnfcppjeabDoor
