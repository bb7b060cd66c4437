/-
  No cell of these rows narrows 'for every input' (looked for: loops, veiled, ifaces, maps, wideKeys, modest, calm, conditions, laid).
  DERIVED. THE GIVEN ROWS OF THIS SEAT. 2 by the template 'for every input the law returns true; each argument reads behind the call as it read before'; 0 by the template 'total and deterministic' (their statements: YthljgookoboieaaTotals.lean).
  GIVEN WITH THE SEED: the statements are not yours to turn. If you find one false, say at which input.
  Laid BY PROGRAM, IN A SANDBOX (cutbox-rows.mjs): the forced cells as the released guide's own fill.sh prints them over the translation b2994b38cbc20d25… (all of the seat's roots in one cut). By AI agents, Wed Nov 11 2026. No macro, syntax, notation, axiom, sorry.
-/
import Derived.Test.YthljgookoboieaaChecked
import GoSem.Claim
import GoSem.ClaimJoined
import GoSem.ClaimMapViews
import Derived.JoinedTies
import Derived.KernelRfl
namespace Go.Proofs.Ythljgookoboieaa
/- THE CELL 'sum', in the pinned program and in every row, IS THE sha256 OF THE DUMP (.gsa) THAT YthljgookoboieaaProg.lean LOADS. Nothing in Lean hashes anything: it is a label: what it is worth is what the hold of that sum in a sandbox is worth. -/
noncomputable def Try.pinned : Pinned := { name := "ythljgookoboieaa", sum := "b2994b38cbc20d25a3ccb042e80a6feeaa71054c10f885c957fddde28ec6bbdb", checked := Try.checked }
namespace Rows
def none {H : Type} : Left H := { results := [], args := [] }

/-- 'laws.FnExactSyndromeOf': WHATEVER THE INPUT: true; the input reads as it did. -/
def fnExactSyndromeOfSpec : ChangeSpec := { name := "fnExactSyndromeOf", fn := fun _ => fun
  | [d] => { results := [.lit (.bool true)], args := [d] }
  | _ => none }
def fnExactSyndromeOfRow : OpenClaim := { program := "ythljgookoboieaa", sum := "b2994b38cbc20d25a3ccb042e80a6feeaa71054c10f885c957fddde28ec6bbdb", func := "loop.example/softwareradio/laws.FnExactSyndromeOf", spec := "fnExactSyndromeOf", apart := false }
def FnExactSyndromeOfSaid : Prop := fnExactSyndromeOfRow.holds Try.pinned (OpenSpec.ofChange fnExactSyndromeOfSpec)

/-- ITS FALSE NEIGHBOUR: 'it returns false'. Refute it at one input. -/
def fnExactSyndromeOfWrong : ChangeSpec := { name := "fnExactSyndromeOf", fn := fun _ => fun
  | [d] => { results := [.lit (.bool false)], args := [d] }
  | _ => none }
def FnExactSyndromeOfWrongFalsely : Prop := fnExactSyndromeOfRow.holds Try.pinned (OpenSpec.ofChange fnExactSyndromeOfWrong)

/-- 'laws.FnSyndromeOf': WHATEVER THE INPUT: true; the input reads as it did. -/
def fnSyndromeOfSpec : ChangeSpec := { name := "fnSyndromeOf", fn := fun _ => fun
  | [d] => { results := [.lit (.bool true)], args := [d] }
  | _ => none }
def fnSyndromeOfRow : OpenClaim := { program := "ythljgookoboieaa", sum := "b2994b38cbc20d25a3ccb042e80a6feeaa71054c10f885c957fddde28ec6bbdb", func := "loop.example/softwareradio/laws.FnSyndromeOf", spec := "fnSyndromeOf", apart := false }
def FnSyndromeOfSaid : Prop := fnSyndromeOfRow.holds Try.pinned (OpenSpec.ofChange fnSyndromeOfSpec)

/-- ITS FALSE NEIGHBOUR: 'it returns false'. Refute it at one input. -/
def fnSyndromeOfWrong : ChangeSpec := { name := "fnSyndromeOf", fn := fun _ => fun
  | [d] => { results := [.lit (.bool false)], args := [d] }
  | _ => none }
def FnSyndromeOfWrongFalsely : Prop := fnSyndromeOfRow.holds Try.pinned (OpenSpec.ofChange fnSyndromeOfWrong)

/- THE SECOND FORM. 'bulk': how many values and letters a reading holds, each counted each time it is reached (what is shared counts as often as it is met; a slice's spare places count too). A statement '..UptoSaid' is the law's where the arguments, and the package variables that the reading takes, are together of bulk at most 1048576: NARROWER than '..Said'. Prove '..Said' where nothing that the law and all that it calls make is longer than what came in: it says more and counts as full. Else prove '..UptoSaid'. A law counts once. -/
mutual
def uptoBulk {H : Type} : DataW H → Nat
  | .lit (.string bytes) => bytes.length + 1
  | .lit _ => 1
  | .nil => 1
  | .ptr d => uptoBulk d + 1
  | .slice elems spare => uptoBulkAll elems + uptoBulkAll spare + 1
  | .agg parts => uptoBulkAll parts + 1
  | .iface _ d => uptoBulk d + 1
  | .map entries => uptoBulkEntries entries + 1
  | .held _ => 1
def uptoBulkAll {H : Type} : List (DataW H) → Nat
  | [] => 0
  | d :: r => uptoBulk d + uptoBulkAll r
def uptoBulkEntries {H : Type} : List (Lit × DataW H) → Nat
  | [] => 0
  | x :: r => uptoBulkEntry x + uptoBulkEntries r
def uptoBulkEntry {H : Type} : Lit × DataW H → Nat
  | (.string bytes, d) => bytes.length + uptoBulk d + 1
  | (_, d) => uptoBulk d + 1
 end
def uptoSmall : (H : Type) → List (DataW H) → Bool := fun _ ds => decide (uptoBulkAll ds ≤ 1048576)
def OpenSpec.upto (s : _root_.Go.ChangeSpec) : _root_.Go.OpenSpec := { _root_.Go.OpenSpec.ofChange s with cond := some uptoSmall }

/-- 'laws.FnExactSyndromeOf', WHERE WHAT IT READS IS OF BULK AT MOST 1048576: true; the input reads as it did. -/
def fnExactSyndromeOfUptoRow : OpenClaim := { program := "ythljgookoboieaa", sum := "b2994b38cbc20d25a3ccb042e80a6feeaa71054c10f885c957fddde28ec6bbdb", func := "loop.example/softwareradio/laws.FnExactSyndromeOf", spec := "fnExactSyndromeOf", apart := false, narrowed := true }
def FnExactSyndromeOfUptoSaid : Prop := fnExactSyndromeOfUptoRow.holds Try.pinned (OpenSpec.upto fnExactSyndromeOfSpec)

/-- 'laws.FnSyndromeOf', WHERE WHAT IT READS IS OF BULK AT MOST 1048576: true; the input reads as it did. -/
def fnSyndromeOfUptoRow : OpenClaim := { program := "ythljgookoboieaa", sum := "b2994b38cbc20d25a3ccb042e80a6feeaa71054c10f885c957fddde28ec6bbdb", func := "loop.example/softwareradio/laws.FnSyndromeOf", spec := "fnSyndromeOf", apart := false, narrowed := true }
def FnSyndromeOfUptoSaid : Prop := fnSyndromeOfUptoRow.holds Try.pinned (OpenSpec.upto fnSyndromeOfSpec)

end Rows
end Go.Proofs.Ythljgookoboieaa
