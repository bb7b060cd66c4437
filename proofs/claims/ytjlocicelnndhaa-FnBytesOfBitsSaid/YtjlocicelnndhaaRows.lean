/-
  No cell of these rows narrows 'for every input' (looked for: loops, veiled, ifaces, maps, wideKeys, modest, calm, conditions, laid).
  DERIVED. THE GIVEN ROWS OF THIS SEAT. 11 by the template 'for every input the law returns true; each argument reads behind the call as it read before'; 0 by the template 'total and deterministic' (their statements: YtjlocicelnndhaaTotals.lean).
  GIVEN WITH THE SEED: the statements are not yours to turn. If you find one false, say at which input.
  Laid BY PROGRAM, IN A SANDBOX (cutbox-rows.mjs): the forced cells as the released guide's own fill.sh prints them over the translation 68e03c29aae17d9d… (all of the seat's roots in one cut). By AI agents, Wed Nov 11 2026. No macro, syntax, notation, axiom, sorry.
-/
import Derived.Test.YtjlocicelnndhaaChecked
import GoSem.Claim
import GoSem.ClaimJoined
import GoSem.ClaimMapViews
import Derived.JoinedTies
import Derived.KernelRfl
namespace Go.Proofs.Ytjlocicelnndhaa
/- THE CELL 'sum', in the pinned program and in every row, IS THE sha256 OF THE DUMP (.gsa) THAT YtjlocicelnndhaaProg.lean LOADS. Nothing in Lean hashes anything: it is a label: what it is worth is what the hold of that sum in a sandbox is worth. -/
noncomputable def Try.pinned : Pinned := { name := "ytjlocicelnndhaa", sum := "68e03c29aae17d9ddbb52a65e423ca99ba2e5062d37ab8aa214a7c3dd04e5540", checked := Try.checked }
namespace Rows
def none {H : Type} : Left H := { results := [], args := [] }

/-- 'laws.FnExactBitsValid': WHATEVER THE INPUT: true; the input reads as it did. -/
def fnExactBitsValidSpec : ChangeSpec := { name := "fnExactBitsValid", fn := fun _ => fun
  | [d] => { results := [.lit (.bool true)], args := [d] }
  | _ => none }
def fnExactBitsValidRow : OpenClaim := { program := "ytjlocicelnndhaa", sum := "68e03c29aae17d9ddbb52a65e423ca99ba2e5062d37ab8aa214a7c3dd04e5540", func := "loop.example/softwareradio/laws.FnExactBitsValid", spec := "fnExactBitsValid", apart := false }
def FnExactBitsValidSaid : Prop := fnExactBitsValidRow.holds Try.pinned (OpenSpec.ofChange fnExactBitsValidSpec)

/-- ITS FALSE NEIGHBOUR: 'it returns false'. Refute it at one input. -/
def fnExactBitsValidWrong : ChangeSpec := { name := "fnExactBitsValid", fn := fun _ => fun
  | [d] => { results := [.lit (.bool false)], args := [d] }
  | _ => none }
def FnExactBitsValidWrongFalsely : Prop := fnExactBitsValidRow.holds Try.pinned (OpenSpec.ofChange fnExactBitsValidWrong)

/-- 'laws.FnExactHammingDistance': WHATEVER THE INPUT: true; the input reads as it did. -/
def fnExactHammingDistanceSpec : ChangeSpec := { name := "fnExactHammingDistance", fn := fun _ => fun
  | [d1, d2] => { results := [.lit (.bool true)], args := [d1, d2] }
  | _ => none }
def fnExactHammingDistanceRow : OpenClaim := { program := "ytjlocicelnndhaa", sum := "68e03c29aae17d9ddbb52a65e423ca99ba2e5062d37ab8aa214a7c3dd04e5540", func := "loop.example/softwareradio/laws.FnExactHammingDistance", spec := "fnExactHammingDistance", apart := false }
def FnExactHammingDistanceSaid : Prop := fnExactHammingDistanceRow.holds Try.pinned (OpenSpec.ofChange fnExactHammingDistanceSpec)

/-- ITS FALSE NEIGHBOUR: 'it returns false'. Refute it at one input. -/
def fnExactHammingDistanceWrong : ChangeSpec := { name := "fnExactHammingDistance", fn := fun _ => fun
  | [d1, d2] => { results := [.lit (.bool false)], args := [d1, d2] }
  | _ => none }
def FnExactHammingDistanceWrongFalsely : Prop := fnExactHammingDistanceRow.holds Try.pinned (OpenSpec.ofChange fnExactHammingDistanceWrong)

/-- 'laws.FnExactBitsOfBytes': WHATEVER THE INPUT: true; the input reads as it did. -/
def fnExactBitsOfBytesSpec : ChangeSpec := { name := "fnExactBitsOfBytes", fn := fun _ => fun
  | [d] => { results := [.lit (.bool true)], args := [d] }
  | _ => none }
def fnExactBitsOfBytesRow : OpenClaim := { program := "ytjlocicelnndhaa", sum := "68e03c29aae17d9ddbb52a65e423ca99ba2e5062d37ab8aa214a7c3dd04e5540", func := "loop.example/softwareradio/laws.FnExactBitsOfBytes", spec := "fnExactBitsOfBytes", apart := false }
def FnExactBitsOfBytesSaid : Prop := fnExactBitsOfBytesRow.holds Try.pinned (OpenSpec.ofChange fnExactBitsOfBytesSpec)

/-- ITS FALSE NEIGHBOUR: 'it returns false'. Refute it at one input. -/
def fnExactBitsOfBytesWrong : ChangeSpec := { name := "fnExactBitsOfBytes", fn := fun _ => fun
  | [d] => { results := [.lit (.bool false)], args := [d] }
  | _ => none }
def FnExactBitsOfBytesWrongFalsely : Prop := fnExactBitsOfBytesRow.holds Try.pinned (OpenSpec.ofChange fnExactBitsOfBytesWrong)

/-- 'laws.FnExactAddBits': WHATEVER THE INPUT: true; the input reads as it did. -/
def fnExactAddBitsSpec : ChangeSpec := { name := "fnExactAddBits", fn := fun _ => fun
  | [d1, d2] => { results := [.lit (.bool true)], args := [d1, d2] }
  | _ => none }
def fnExactAddBitsRow : OpenClaim := { program := "ytjlocicelnndhaa", sum := "68e03c29aae17d9ddbb52a65e423ca99ba2e5062d37ab8aa214a7c3dd04e5540", func := "loop.example/softwareradio/laws.FnExactAddBits", spec := "fnExactAddBits", apart := false }
def FnExactAddBitsSaid : Prop := fnExactAddBitsRow.holds Try.pinned (OpenSpec.ofChange fnExactAddBitsSpec)

/-- ITS FALSE NEIGHBOUR: 'it returns false'. Refute it at one input. -/
def fnExactAddBitsWrong : ChangeSpec := { name := "fnExactAddBits", fn := fun _ => fun
  | [d1, d2] => { results := [.lit (.bool false)], args := [d1, d2] }
  | _ => none }
def FnExactAddBitsWrongFalsely : Prop := fnExactAddBitsRow.holds Try.pinned (OpenSpec.ofChange fnExactAddBitsWrong)

/-- 'laws.FnBitsValid': WHATEVER THE INPUT: true; the input reads as it did. -/
def fnBitsValidSpec : ChangeSpec := { name := "fnBitsValid", fn := fun _ => fun
  | [d] => { results := [.lit (.bool true)], args := [d] }
  | _ => none }
def fnBitsValidRow : OpenClaim := { program := "ytjlocicelnndhaa", sum := "68e03c29aae17d9ddbb52a65e423ca99ba2e5062d37ab8aa214a7c3dd04e5540", func := "loop.example/softwareradio/laws.FnBitsValid", spec := "fnBitsValid", apart := false }
def FnBitsValidSaid : Prop := fnBitsValidRow.holds Try.pinned (OpenSpec.ofChange fnBitsValidSpec)

/-- ITS FALSE NEIGHBOUR: 'it returns false'. Refute it at one input. -/
def fnBitsValidWrong : ChangeSpec := { name := "fnBitsValid", fn := fun _ => fun
  | [d] => { results := [.lit (.bool false)], args := [d] }
  | _ => none }
def FnBitsValidWrongFalsely : Prop := fnBitsValidRow.holds Try.pinned (OpenSpec.ofChange fnBitsValidWrong)

/-- 'laws.FnDistanceTriangle': WHATEVER THE INPUT: true; the input reads as it did. -/
def fnDistanceTriangleSpec : ChangeSpec := { name := "fnDistanceTriangle", fn := fun _ => fun
  | [d] => { results := [.lit (.bool true)], args := [d] }
  | _ => none }
def fnDistanceTriangleRow : OpenClaim := { program := "ytjlocicelnndhaa", sum := "68e03c29aae17d9ddbb52a65e423ca99ba2e5062d37ab8aa214a7c3dd04e5540", func := "loop.example/softwareradio/laws.FnDistanceTriangle", spec := "fnDistanceTriangle", apart := false }
def FnDistanceTriangleSaid : Prop := fnDistanceTriangleRow.holds Try.pinned (OpenSpec.ofChange fnDistanceTriangleSpec)

/-- ITS FALSE NEIGHBOUR: 'it returns false'. Refute it at one input. -/
def fnDistanceTriangleWrong : ChangeSpec := { name := "fnDistanceTriangle", fn := fun _ => fun
  | [d] => { results := [.lit (.bool false)], args := [d] }
  | _ => none }
def FnDistanceTriangleWrongFalsely : Prop := fnDistanceTriangleRow.holds Try.pinned (OpenSpec.ofChange fnDistanceTriangleWrong)

/-- 'laws.FnExactBytesOfBits': WHATEVER THE INPUT: true; the input reads as it did. -/
def fnExactBytesOfBitsSpec : ChangeSpec := { name := "fnExactBytesOfBits", fn := fun _ => fun
  | [d] => { results := [.lit (.bool true)], args := [d] }
  | _ => none }
def fnExactBytesOfBitsRow : OpenClaim := { program := "ytjlocicelnndhaa", sum := "68e03c29aae17d9ddbb52a65e423ca99ba2e5062d37ab8aa214a7c3dd04e5540", func := "loop.example/softwareradio/laws.FnExactBytesOfBits", spec := "fnExactBytesOfBits", apart := false }
def FnExactBytesOfBitsSaid : Prop := fnExactBytesOfBitsRow.holds Try.pinned (OpenSpec.ofChange fnExactBytesOfBitsSpec)

/-- ITS FALSE NEIGHBOUR: 'it returns false'. Refute it at one input. -/
def fnExactBytesOfBitsWrong : ChangeSpec := { name := "fnExactBytesOfBits", fn := fun _ => fun
  | [d] => { results := [.lit (.bool false)], args := [d] }
  | _ => none }
def FnExactBytesOfBitsWrongFalsely : Prop := fnExactBytesOfBitsRow.holds Try.pinned (OpenSpec.ofChange fnExactBytesOfBitsWrong)

/-- 'laws.FnBitsOfBytes': WHATEVER THE INPUT: true; the input reads as it did. -/
def fnBitsOfBytesSpec : ChangeSpec := { name := "fnBitsOfBytes", fn := fun _ => fun
  | [d] => { results := [.lit (.bool true)], args := [d] }
  | _ => none }
def fnBitsOfBytesRow : OpenClaim := { program := "ytjlocicelnndhaa", sum := "68e03c29aae17d9ddbb52a65e423ca99ba2e5062d37ab8aa214a7c3dd04e5540", func := "loop.example/softwareradio/laws.FnBitsOfBytes", spec := "fnBitsOfBytes", apart := false }
def FnBitsOfBytesSaid : Prop := fnBitsOfBytesRow.holds Try.pinned (OpenSpec.ofChange fnBitsOfBytesSpec)

/-- ITS FALSE NEIGHBOUR: 'it returns false'. Refute it at one input. -/
def fnBitsOfBytesWrong : ChangeSpec := { name := "fnBitsOfBytes", fn := fun _ => fun
  | [d] => { results := [.lit (.bool false)], args := [d] }
  | _ => none }
def FnBitsOfBytesWrongFalsely : Prop := fnBitsOfBytesRow.holds Try.pinned (OpenSpec.ofChange fnBitsOfBytesWrong)

/-- 'laws.FnHammingDistance': WHATEVER THE INPUT: true; the input reads as it did. -/
def fnHammingDistanceSpec : ChangeSpec := { name := "fnHammingDistance", fn := fun _ => fun
  | [d] => { results := [.lit (.bool true)], args := [d] }
  | _ => none }
def fnHammingDistanceRow : OpenClaim := { program := "ytjlocicelnndhaa", sum := "68e03c29aae17d9ddbb52a65e423ca99ba2e5062d37ab8aa214a7c3dd04e5540", func := "loop.example/softwareradio/laws.FnHammingDistance", spec := "fnHammingDistance", apart := false }
def FnHammingDistanceSaid : Prop := fnHammingDistanceRow.holds Try.pinned (OpenSpec.ofChange fnHammingDistanceSpec)

/-- ITS FALSE NEIGHBOUR: 'it returns false'. Refute it at one input. -/
def fnHammingDistanceWrong : ChangeSpec := { name := "fnHammingDistance", fn := fun _ => fun
  | [d] => { results := [.lit (.bool false)], args := [d] }
  | _ => none }
def FnHammingDistanceWrongFalsely : Prop := fnHammingDistanceRow.holds Try.pinned (OpenSpec.ofChange fnHammingDistanceWrong)

/-- 'laws.FnAddBits': WHATEVER THE INPUT: true; the input reads as it did. -/
def fnAddBitsSpec : ChangeSpec := { name := "fnAddBits", fn := fun _ => fun
  | [d] => { results := [.lit (.bool true)], args := [d] }
  | _ => none }
def fnAddBitsRow : OpenClaim := { program := "ytjlocicelnndhaa", sum := "68e03c29aae17d9ddbb52a65e423ca99ba2e5062d37ab8aa214a7c3dd04e5540", func := "loop.example/softwareradio/laws.FnAddBits", spec := "fnAddBits", apart := false }
def FnAddBitsSaid : Prop := fnAddBitsRow.holds Try.pinned (OpenSpec.ofChange fnAddBitsSpec)

/-- ITS FALSE NEIGHBOUR: 'it returns false'. Refute it at one input. -/
def fnAddBitsWrong : ChangeSpec := { name := "fnAddBits", fn := fun _ => fun
  | [d] => { results := [.lit (.bool false)], args := [d] }
  | _ => none }
def FnAddBitsWrongFalsely : Prop := fnAddBitsRow.holds Try.pinned (OpenSpec.ofChange fnAddBitsWrong)

/-- 'laws.FnBytesOfBits': WHATEVER THE INPUT: true; the input reads as it did. -/
def fnBytesOfBitsSpec : ChangeSpec := { name := "fnBytesOfBits", fn := fun _ => fun
  | [d] => { results := [.lit (.bool true)], args := [d] }
  | _ => none }
def fnBytesOfBitsRow : OpenClaim := { program := "ytjlocicelnndhaa", sum := "68e03c29aae17d9ddbb52a65e423ca99ba2e5062d37ab8aa214a7c3dd04e5540", func := "loop.example/softwareradio/laws.FnBytesOfBits", spec := "fnBytesOfBits", apart := false }
def FnBytesOfBitsSaid : Prop := fnBytesOfBitsRow.holds Try.pinned (OpenSpec.ofChange fnBytesOfBitsSpec)

/-- ITS FALSE NEIGHBOUR: 'it returns false'. Refute it at one input. -/
def fnBytesOfBitsWrong : ChangeSpec := { name := "fnBytesOfBits", fn := fun _ => fun
  | [d] => { results := [.lit (.bool false)], args := [d] }
  | _ => none }
def FnBytesOfBitsWrongFalsely : Prop := fnBytesOfBitsRow.holds Try.pinned (OpenSpec.ofChange fnBytesOfBitsWrong)

/- THE SECOND FORM. 'bulk': how many values and letters a reading holds, each counted each time it is reached (what is shared counts as often as it is met; a slice's spare places count too). A statement '..UptoSaid' is the law's where the arguments, and the package variables that the reading takes, are together of bulk at most 1048576: NARROWER than '..Said'. Prove '..Said' where nothing that the law and all that it calls make is longer than what came in: it says more and counts as full. Else prove '..UptoSaid'. A law counts once. -/
mutual
def uptoBulk {H : Type} : DataW H → Nat
  | .lit (.string bytes) => bytes.length + 1
  | .lit _ => 1
  | .nil => 1
  | .ptr d => uptoBulk d + 1
  | .slice elems spare => uptoBulkAll elems + uptoBulkAll spare + 1
  | .agg parts => uptoBulkAll parts + 1
  | .iface _ d => uptoBulk d + 1
  | .map entries => uptoBulkEntries entries + 1
  | .held _ => 1
def uptoBulkAll {H : Type} : List (DataW H) → Nat
  | [] => 0
  | d :: r => uptoBulk d + uptoBulkAll r
def uptoBulkEntries {H : Type} : List (Lit × DataW H) → Nat
  | [] => 0
  | x :: r => uptoBulkEntry x + uptoBulkEntries r
def uptoBulkEntry {H : Type} : Lit × DataW H → Nat
  | (.string bytes, d) => bytes.length + uptoBulk d + 1
  | (_, d) => uptoBulk d + 1
 end
def uptoSmall : (H : Type) → List (DataW H) → Bool := fun _ ds => decide (uptoBulkAll ds ≤ 1048576)
def OpenSpec.upto (s : _root_.Go.ChangeSpec) : _root_.Go.OpenSpec := { _root_.Go.OpenSpec.ofChange s with cond := some uptoSmall }

/-- 'laws.FnExactBitsValid', WHERE WHAT IT READS IS OF BULK AT MOST 1048576: true; the input reads as it did. -/
def fnExactBitsValidUptoRow : OpenClaim := { program := "ytjlocicelnndhaa", sum := "68e03c29aae17d9ddbb52a65e423ca99ba2e5062d37ab8aa214a7c3dd04e5540", func := "loop.example/softwareradio/laws.FnExactBitsValid", spec := "fnExactBitsValid", apart := false, narrowed := true }
def FnExactBitsValidUptoSaid : Prop := fnExactBitsValidUptoRow.holds Try.pinned (OpenSpec.upto fnExactBitsValidSpec)

/-- 'laws.FnExactHammingDistance', WHERE WHAT IT READS IS OF BULK AT MOST 1048576: true; the input reads as it did. -/
def fnExactHammingDistanceUptoRow : OpenClaim := { program := "ytjlocicelnndhaa", sum := "68e03c29aae17d9ddbb52a65e423ca99ba2e5062d37ab8aa214a7c3dd04e5540", func := "loop.example/softwareradio/laws.FnExactHammingDistance", spec := "fnExactHammingDistance", apart := false, narrowed := true }
def FnExactHammingDistanceUptoSaid : Prop := fnExactHammingDistanceUptoRow.holds Try.pinned (OpenSpec.upto fnExactHammingDistanceSpec)

/-- 'laws.FnExactBitsOfBytes', WHERE WHAT IT READS IS OF BULK AT MOST 1048576: true; the input reads as it did. -/
def fnExactBitsOfBytesUptoRow : OpenClaim := { program := "ytjlocicelnndhaa", sum := "68e03c29aae17d9ddbb52a65e423ca99ba2e5062d37ab8aa214a7c3dd04e5540", func := "loop.example/softwareradio/laws.FnExactBitsOfBytes", spec := "fnExactBitsOfBytes", apart := false, narrowed := true }
def FnExactBitsOfBytesUptoSaid : Prop := fnExactBitsOfBytesUptoRow.holds Try.pinned (OpenSpec.upto fnExactBitsOfBytesSpec)

/-- 'laws.FnExactAddBits', WHERE WHAT IT READS IS OF BULK AT MOST 1048576: true; the input reads as it did. -/
def fnExactAddBitsUptoRow : OpenClaim := { program := "ytjlocicelnndhaa", sum := "68e03c29aae17d9ddbb52a65e423ca99ba2e5062d37ab8aa214a7c3dd04e5540", func := "loop.example/softwareradio/laws.FnExactAddBits", spec := "fnExactAddBits", apart := false, narrowed := true }
def FnExactAddBitsUptoSaid : Prop := fnExactAddBitsUptoRow.holds Try.pinned (OpenSpec.upto fnExactAddBitsSpec)

/-- 'laws.FnBitsValid', WHERE WHAT IT READS IS OF BULK AT MOST 1048576: true; the input reads as it did. -/
def fnBitsValidUptoRow : OpenClaim := { program := "ytjlocicelnndhaa", sum := "68e03c29aae17d9ddbb52a65e423ca99ba2e5062d37ab8aa214a7c3dd04e5540", func := "loop.example/softwareradio/laws.FnBitsValid", spec := "fnBitsValid", apart := false, narrowed := true }
def FnBitsValidUptoSaid : Prop := fnBitsValidUptoRow.holds Try.pinned (OpenSpec.upto fnBitsValidSpec)

/-- 'laws.FnDistanceTriangle', WHERE WHAT IT READS IS OF BULK AT MOST 1048576: true; the input reads as it did. -/
def fnDistanceTriangleUptoRow : OpenClaim := { program := "ytjlocicelnndhaa", sum := "68e03c29aae17d9ddbb52a65e423ca99ba2e5062d37ab8aa214a7c3dd04e5540", func := "loop.example/softwareradio/laws.FnDistanceTriangle", spec := "fnDistanceTriangle", apart := false, narrowed := true }
def FnDistanceTriangleUptoSaid : Prop := fnDistanceTriangleUptoRow.holds Try.pinned (OpenSpec.upto fnDistanceTriangleSpec)

/-- 'laws.FnExactBytesOfBits', WHERE WHAT IT READS IS OF BULK AT MOST 1048576: true; the input reads as it did. -/
def fnExactBytesOfBitsUptoRow : OpenClaim := { program := "ytjlocicelnndhaa", sum := "68e03c29aae17d9ddbb52a65e423ca99ba2e5062d37ab8aa214a7c3dd04e5540", func := "loop.example/softwareradio/laws.FnExactBytesOfBits", spec := "fnExactBytesOfBits", apart := false, narrowed := true }
def FnExactBytesOfBitsUptoSaid : Prop := fnExactBytesOfBitsUptoRow.holds Try.pinned (OpenSpec.upto fnExactBytesOfBitsSpec)

/-- 'laws.FnBitsOfBytes', WHERE WHAT IT READS IS OF BULK AT MOST 1048576: true; the input reads as it did. -/
def fnBitsOfBytesUptoRow : OpenClaim := { program := "ytjlocicelnndhaa", sum := "68e03c29aae17d9ddbb52a65e423ca99ba2e5062d37ab8aa214a7c3dd04e5540", func := "loop.example/softwareradio/laws.FnBitsOfBytes", spec := "fnBitsOfBytes", apart := false, narrowed := true }
def FnBitsOfBytesUptoSaid : Prop := fnBitsOfBytesUptoRow.holds Try.pinned (OpenSpec.upto fnBitsOfBytesSpec)

/-- 'laws.FnHammingDistance', WHERE WHAT IT READS IS OF BULK AT MOST 1048576: true; the input reads as it did. -/
def fnHammingDistanceUptoRow : OpenClaim := { program := "ytjlocicelnndhaa", sum := "68e03c29aae17d9ddbb52a65e423ca99ba2e5062d37ab8aa214a7c3dd04e5540", func := "loop.example/softwareradio/laws.FnHammingDistance", spec := "fnHammingDistance", apart := false, narrowed := true }
def FnHammingDistanceUptoSaid : Prop := fnHammingDistanceUptoRow.holds Try.pinned (OpenSpec.upto fnHammingDistanceSpec)

/-- 'laws.FnAddBits', WHERE WHAT IT READS IS OF BULK AT MOST 1048576: true; the input reads as it did. -/
def fnAddBitsUptoRow : OpenClaim := { program := "ytjlocicelnndhaa", sum := "68e03c29aae17d9ddbb52a65e423ca99ba2e5062d37ab8aa214a7c3dd04e5540", func := "loop.example/softwareradio/laws.FnAddBits", spec := "fnAddBits", apart := false, narrowed := true }
def FnAddBitsUptoSaid : Prop := fnAddBitsUptoRow.holds Try.pinned (OpenSpec.upto fnAddBitsSpec)

/-- 'laws.FnBytesOfBits', WHERE WHAT IT READS IS OF BULK AT MOST 1048576: true; the input reads as it did. -/
def fnBytesOfBitsUptoRow : OpenClaim := { program := "ytjlocicelnndhaa", sum := "68e03c29aae17d9ddbb52a65e423ca99ba2e5062d37ab8aa214a7c3dd04e5540", func := "loop.example/softwareradio/laws.FnBytesOfBits", spec := "fnBytesOfBits", apart := false, narrowed := true }
def FnBytesOfBitsUptoSaid : Prop := fnBytesOfBitsUptoRow.holds Try.pinned (OpenSpec.upto fnBytesOfBitsSpec)

end Rows
end Go.Proofs.Ytjlocicelnndhaa
