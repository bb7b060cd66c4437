/-
  NARROWER THAN 'FOR EVERY INPUT', by the rows' own cells (each row's printed sentence says how): FnCheckedBlocks: laid.
  DERIVED. THE GIVEN ROWS OF THIS SEAT. 1 by the template 'for every input the law returns true; each argument reads behind the call as it read before'; 0 by the template 'total and deterministic' (their statements: YtkhefkedhdakbacDoorTotals.lean).
  GIVEN WITH THE SEED: the statements are not yours to turn. If you find one false, say at which input.
  Laid BY PROGRAM, IN A SANDBOX (cutbox-rows.mjs): the forced cells as the released guide's own fill.sh prints them over the translation d3c08e3fa7a1ec91… (all of the seat's roots in one cut). By AI agents, Wed Nov 11 2026. No macro, syntax, notation, axiom, sorry.
-/
import Derived.Test.YtkhefkedhdakbacDoorChecked
import GoSem.Claim
import GoSem.ClaimJoined
import GoSem.ClaimMapViews
import Derived.JoinedTies
import Derived.KernelRfl
namespace Go.Proofs.YtkhefkedhdakbacDoor
/- THE CELL 'sum', in the pinned program and in every row, IS THE sha256 OF THE DUMP (.gsa) THAT YtkhefkedhdakbacDoorProg.lean LOADS. Nothing in Lean hashes anything: it is a label: what it is worth is what the hold of that sum in a sandbox is worth. -/
noncomputable def Tryd.pinned : Pinned := { name := "ytkhefkedhdakbacdoor", sum := "d3c08e3fa7a1ec910da4ef0324fe768e5b09e5cd9de91f004e18dcdfaa18d442", checked := Tryd.checked }
namespace Rows
def none {H : Type} : Left H := { results := [], args := [] }

/- WHAT THE LISTED PACKAGE-LEVEL VARIABLES READ AS WHEN THE CALL BEGINS. Each datum BY PROGRAM (the guide's laid-datum.mjs) off the statement by which the dump's own 'gosem.cut.vars' lays the variable. In a bare row this is a premise. The card (YtkhefkedhdakbacDoorCards.lean) ties it to the program's text. -/
def laid_loop_example_softwareradio_impl_dataPlaces {H : Type} : DataW H := .agg [.lit (.int .i64 2), .lit (.int .i64 4), .lit (.int .i64 5), .lit (.int .i64 6)]
def laid_loop_example_softwareradio_impl_checkMasks {H : Type} : DataW H := .agg [.agg [.lit (.int .i64 1), .lit (.int .i64 1), .lit (.int .i64 0), .lit (.int .i64 1)], .agg [.lit (.int .i64 1), .lit (.int .i64 0), .lit (.int .i64 1), .lit (.int .i64 1)], .agg [.lit (.int .i64 0), .lit (.int .i64 1), .lit (.int .i64 1), .lit (.int .i64 1)]]

/-- 'laws.FnCheckedBlocks': WHATEVER THE INPUT: true; the input reads as it did. -/
def fnCheckedBlocksSpec : ChangeSpec := { name := "fnCheckedBlocks", vars := ["loop.example/softwareradio/impl.dataPlaces", "loop.example/softwareradio/impl.checkMasks"], fn := fun _ => fun
  | [d1, d2, g1, g2] => { results := [.lit (.bool true)], args := [d1, d2], vars := [g1, g2] }
  | _ => none }
def fnCheckedBlocksRow : OpenClaim := { program := "ytkhefkedhdakbacdoor", sum := "d3c08e3fa7a1ec910da4ef0324fe768e5b09e5cd9de91f004e18dcdfaa18d442", func := "loop.example/softwareradio/laws.FnCheckedBlocks", spec := "fnCheckedBlocks", named := ["loop.example/softwareradio/impl.dataPlaces", "loop.example/softwareradio/impl.checkMasks"], apart := false, laid := [("loop.example/softwareradio/impl.dataPlaces", laid_loop_example_softwareradio_impl_dataPlaces), ("loop.example/softwareradio/impl.checkMasks", laid_loop_example_softwareradio_impl_checkMasks)] }
def FnCheckedBlocksSaid : Prop := fnCheckedBlocksRow.holds Tryd.pinned (OpenSpec.ofChange fnCheckedBlocksSpec)

/-- ITS FALSE NEIGHBOUR: 'it returns false'. Refute it at one input. -/
def fnCheckedBlocksWrong : ChangeSpec := { name := "fnCheckedBlocks", vars := ["loop.example/softwareradio/impl.dataPlaces", "loop.example/softwareradio/impl.checkMasks"], fn := fun _ => fun
  | [d1, d2, g1, g2] => { results := [.lit (.bool false)], args := [d1, d2], vars := [g1, g2] }
  | _ => none }
def FnCheckedBlocksWrongFalsely : Prop := fnCheckedBlocksRow.holds Tryd.pinned (OpenSpec.ofChange fnCheckedBlocksWrong)

/- THE SECOND FORM. 'bulk': how many values and letters a reading holds, each counted each time it is reached (what is shared counts as often as it is met; a slice's spare places count too). A statement '..UptoSaid' is the law's where the arguments, and the package variables that the reading takes, are together of bulk at most 1048576: NARROWER than '..Said'. Prove '..Said' where nothing that the law and all that it calls make is longer than what came in: it says more and counts as full. Else prove '..UptoSaid'. A law counts once. -/
mutual
def uptoBulk {H : Type} : DataW H → Nat
  | .lit (.string bytes) => bytes.length + 1
  | .lit _ => 1
  | .nil => 1
  | .ptr d => uptoBulk d + 1
  | .slice elems spare => uptoBulkAll elems + uptoBulkAll spare + 1
  | .agg parts => uptoBulkAll parts + 1
  | .iface _ d => uptoBulk d + 1
  | .map entries => uptoBulkEntries entries + 1
  | .held _ => 1
def uptoBulkAll {H : Type} : List (DataW H) → Nat
  | [] => 0
  | d :: r => uptoBulk d + uptoBulkAll r
def uptoBulkEntries {H : Type} : List (Lit × DataW H) → Nat
  | [] => 0
  | x :: r => uptoBulkEntry x + uptoBulkEntries r
def uptoBulkEntry {H : Type} : Lit × DataW H → Nat
  | (.string bytes, d) => bytes.length + uptoBulk d + 1
  | (_, d) => uptoBulk d + 1
 end
def uptoSmall : (H : Type) → List (DataW H) → Bool := fun _ ds => decide (uptoBulkAll ds ≤ 1048576)
def OpenSpec.upto (s : _root_.Go.ChangeSpec) : _root_.Go.OpenSpec := { _root_.Go.OpenSpec.ofChange s with cond := some uptoSmall }

/-- 'laws.FnCheckedBlocks', WHERE WHAT IT READS IS OF BULK AT MOST 1048576: true; the input reads as it did. -/
def fnCheckedBlocksUptoRow : OpenClaim := { program := "ytkhefkedhdakbacdoor", sum := "d3c08e3fa7a1ec910da4ef0324fe768e5b09e5cd9de91f004e18dcdfaa18d442", func := "loop.example/softwareradio/laws.FnCheckedBlocks", spec := "fnCheckedBlocks", named := ["loop.example/softwareradio/impl.dataPlaces", "loop.example/softwareradio/impl.checkMasks"], apart := false, laid := [("loop.example/softwareradio/impl.dataPlaces", laid_loop_example_softwareradio_impl_dataPlaces), ("loop.example/softwareradio/impl.checkMasks", laid_loop_example_softwareradio_impl_checkMasks)], narrowed := true }
def FnCheckedBlocksUptoSaid : Prop := fnCheckedBlocksUptoRow.holds Tryd.pinned (OpenSpec.upto fnCheckedBlocksSpec)

end Rows
end Go.Proofs.YtkhefkedhdakbacDoor
