/-
  No cell of these rows narrows 'for every input' (looked for: loops, veiled, ifaces, maps, wideKeys, modest, calm, conditions, laid).
  DERIVED. THE GIVEN ROWS OF THIS SEAT. 14 by the template 'for every input the law returns true; each argument reads behind the call as it read before'; 0 by the template 'total and deterministic' (their statements: YtlidppncongfjaaTotals.lean).
  GIVEN WITH THE SEED: the statements are not yours to turn. If you find one false, say at which input.
  Laid BY PROGRAM, IN A SANDBOX (cutbox-rows.mjs): the forced cells as the released guide's own fill.sh prints them over the translation e2fdf2a6b23dcc69… (all of the seat's roots in one cut). By AI agents, Wed Nov 11 2026. No macro, syntax, notation, axiom, sorry.
-/
import Derived.Test.YtlidppncongfjaaChecked
import GoSem.Claim
import GoSem.ClaimJoined
import GoSem.ClaimMapViews
import Derived.JoinedTies
import Derived.KernelRfl
namespace Go.Proofs.Ytlidppncongfjaa
/- THE CELL 'sum', in the pinned program and in every row, IS THE sha256 OF THE DUMP (.gsa) THAT YtlidppncongfjaaProg.lean LOADS. Nothing in Lean hashes anything: it is a label: what it is worth is what the hold of that sum in a sandbox is worth. -/
noncomputable def Try.pinned : Pinned := { name := "ytlidppncongfjaa", sum := "e2fdf2a6b23dcc694f4fae46d92d4fcaddfdbc21bf90920832fb712d6955f1fd", checked := Try.checked }
namespace Rows
def none {H : Type} : Left H := { results := [], args := [] }

/-- 'laws.FnExactGeneratorValid': WHATEVER THE INPUT: true; the input reads as it did. -/
def fnExactGeneratorValidSpec : ChangeSpec := { name := "fnExactGeneratorValid", fn := fun _ => fun
  | [d] => { results := [.lit (.bool true)], args := [d] }
  | _ => none }
def fnExactGeneratorValidRow : OpenClaim := { program := "ytlidppncongfjaa", sum := "e2fdf2a6b23dcc694f4fae46d92d4fcaddfdbc21bf90920832fb712d6955f1fd", func := "loop.example/softwareradio/laws.FnExactGeneratorValid", spec := "fnExactGeneratorValid", apart := false }
def FnExactGeneratorValidSaid : Prop := fnExactGeneratorValidRow.holds Try.pinned (OpenSpec.ofChange fnExactGeneratorValidSpec)

/-- ITS FALSE NEIGHBOUR: 'it returns false'. Refute it at one input. -/
def fnExactGeneratorValidWrong : ChangeSpec := { name := "fnExactGeneratorValid", fn := fun _ => fun
  | [d] => { results := [.lit (.bool false)], args := [d] }
  | _ => none }
def FnExactGeneratorValidWrongFalsely : Prop := fnExactGeneratorValidRow.holds Try.pinned (OpenSpec.ofChange fnExactGeneratorValidWrong)

/-- 'laws.FnCheckPasses': WHATEVER THE INPUT: true; the input reads as it did. -/
def fnCheckPassesSpec : ChangeSpec := { name := "fnCheckPasses", fn := fun _ => fun
  | [d] => { results := [.lit (.bool true)], args := [d] }
  | _ => none }
def fnCheckPassesRow : OpenClaim := { program := "ytlidppncongfjaa", sum := "e2fdf2a6b23dcc694f4fae46d92d4fcaddfdbc21bf90920832fb712d6955f1fd", func := "loop.example/softwareradio/laws.FnCheckPasses", spec := "fnCheckPasses", apart := false }
def FnCheckPassesSaid : Prop := fnCheckPassesRow.holds Try.pinned (OpenSpec.ofChange fnCheckPassesSpec)

/-- ITS FALSE NEIGHBOUR: 'it returns false'. Refute it at one input. -/
def fnCheckPassesWrong : ChangeSpec := { name := "fnCheckPasses", fn := fun _ => fun
  | [d] => { results := [.lit (.bool false)], args := [d] }
  | _ => none }
def FnCheckPassesWrongFalsely : Prop := fnCheckPassesRow.holds Try.pinned (OpenSpec.ofChange fnCheckPassesWrong)

/-- 'laws.FnExactDegreeOf': WHATEVER THE INPUT: true; the input reads as it did. -/
def fnExactDegreeOfSpec : ChangeSpec := { name := "fnExactDegreeOf", fn := fun _ => fun
  | [d] => { results := [.lit (.bool true)], args := [d] }
  | _ => none }
def fnExactDegreeOfRow : OpenClaim := { program := "ytlidppncongfjaa", sum := "e2fdf2a6b23dcc694f4fae46d92d4fcaddfdbc21bf90920832fb712d6955f1fd", func := "loop.example/softwareradio/laws.FnExactDegreeOf", spec := "fnExactDegreeOf", apart := false }
def FnExactDegreeOfSaid : Prop := fnExactDegreeOfRow.holds Try.pinned (OpenSpec.ofChange fnExactDegreeOfSpec)

/-- ITS FALSE NEIGHBOUR: 'it returns false'. Refute it at one input. -/
def fnExactDegreeOfWrong : ChangeSpec := { name := "fnExactDegreeOf", fn := fun _ => fun
  | [d] => { results := [.lit (.bool false)], args := [d] }
  | _ => none }
def FnExactDegreeOfWrongFalsely : Prop := fnExactDegreeOfRow.holds Try.pinned (OpenSpec.ofChange fnExactDegreeOfWrong)

/-- 'laws.FnCheckSum': WHATEVER THE INPUT: true; the input reads as it did. -/
def fnCheckSumSpec : ChangeSpec := { name := "fnCheckSum", fn := fun _ => fun
  | [d] => { results := [.lit (.bool true)], args := [d] }
  | _ => none }
def fnCheckSumRow : OpenClaim := { program := "ytlidppncongfjaa", sum := "e2fdf2a6b23dcc694f4fae46d92d4fcaddfdbc21bf90920832fb712d6955f1fd", func := "loop.example/softwareradio/laws.FnCheckSum", spec := "fnCheckSum", apart := false }
def FnCheckSumSaid : Prop := fnCheckSumRow.holds Try.pinned (OpenSpec.ofChange fnCheckSumSpec)

/-- ITS FALSE NEIGHBOUR: 'it returns false'. Refute it at one input. -/
def fnCheckSumWrong : ChangeSpec := { name := "fnCheckSum", fn := fun _ => fun
  | [d] => { results := [.lit (.bool false)], args := [d] }
  | _ => none }
def FnCheckSumWrongFalsely : Prop := fnCheckSumRow.holds Try.pinned (OpenSpec.ofChange fnCheckSumWrong)

/-- 'laws.FnGeneratorValid': WHATEVER THE INPUT: true; the input reads as it did. -/
def fnGeneratorValidSpec : ChangeSpec := { name := "fnGeneratorValid", fn := fun _ => fun
  | [d] => { results := [.lit (.bool true)], args := [d] }
  | _ => none }
def fnGeneratorValidRow : OpenClaim := { program := "ytlidppncongfjaa", sum := "e2fdf2a6b23dcc694f4fae46d92d4fcaddfdbc21bf90920832fb712d6955f1fd", func := "loop.example/softwareradio/laws.FnGeneratorValid", spec := "fnGeneratorValid", apart := false }
def FnGeneratorValidSaid : Prop := fnGeneratorValidRow.holds Try.pinned (OpenSpec.ofChange fnGeneratorValidSpec)

/-- ITS FALSE NEIGHBOUR: 'it returns false'. Refute it at one input. -/
def fnGeneratorValidWrong : ChangeSpec := { name := "fnGeneratorValid", fn := fun _ => fun
  | [d] => { results := [.lit (.bool false)], args := [d] }
  | _ => none }
def FnGeneratorValidWrongFalsely : Prop := fnGeneratorValidRow.holds Try.pinned (OpenSpec.ofChange fnGeneratorValidWrong)

/-- 'laws.FnDegreeOf': WHATEVER THE INPUT: true; the input reads as it did. -/
def fnDegreeOfSpec : ChangeSpec := { name := "fnDegreeOf", fn := fun _ => fun
  | [d] => { results := [.lit (.bool true)], args := [d] }
  | _ => none }
def fnDegreeOfRow : OpenClaim := { program := "ytlidppncongfjaa", sum := "e2fdf2a6b23dcc694f4fae46d92d4fcaddfdbc21bf90920832fb712d6955f1fd", func := "loop.example/softwareradio/laws.FnDegreeOf", spec := "fnDegreeOf", apart := false }
def FnDegreeOfSaid : Prop := fnDegreeOfRow.holds Try.pinned (OpenSpec.ofChange fnDegreeOfSpec)

/-- ITS FALSE NEIGHBOUR: 'it returns false'. Refute it at one input. -/
def fnDegreeOfWrong : ChangeSpec := { name := "fnDegreeOf", fn := fun _ => fun
  | [d] => { results := [.lit (.bool false)], args := [d] }
  | _ => none }
def FnDegreeOfWrongFalsely : Prop := fnDegreeOfRow.holds Try.pinned (OpenSpec.ofChange fnDegreeOfWrong)

/-- 'laws.FnExactCheckPasses': WHATEVER THE INPUT: true; the input reads as it did. -/
def fnExactCheckPassesSpec : ChangeSpec := { name := "fnExactCheckPasses", fn := fun _ => fun
  | [d1, d2] => { results := [.lit (.bool true)], args := [d1, d2] }
  | _ => none }
def fnExactCheckPassesRow : OpenClaim := { program := "ytlidppncongfjaa", sum := "e2fdf2a6b23dcc694f4fae46d92d4fcaddfdbc21bf90920832fb712d6955f1fd", func := "loop.example/softwareradio/laws.FnExactCheckPasses", spec := "fnExactCheckPasses", apart := false }
def FnExactCheckPassesSaid : Prop := fnExactCheckPassesRow.holds Try.pinned (OpenSpec.ofChange fnExactCheckPassesSpec)

/-- ITS FALSE NEIGHBOUR: 'it returns false'. Refute it at one input. -/
def fnExactCheckPassesWrong : ChangeSpec := { name := "fnExactCheckPasses", fn := fun _ => fun
  | [d1, d2] => { results := [.lit (.bool false)], args := [d1, d2] }
  | _ => none }
def FnExactCheckPassesWrongFalsely : Prop := fnExactCheckPassesRow.holds Try.pinned (OpenSpec.ofChange fnExactCheckPassesWrong)

/-- 'laws.FnExactBurstDetected': WHATEVER THE INPUT: true; the input reads as it did. -/
def fnExactBurstDetectedSpec : ChangeSpec := { name := "fnExactBurstDetected", fn := fun _ => fun
  | [d1, d2, d3, d4] => { results := [.lit (.bool true)], args := [d1, d2, d3, d4] }
  | _ => none }
def fnExactBurstDetectedRow : OpenClaim := { program := "ytlidppncongfjaa", sum := "e2fdf2a6b23dcc694f4fae46d92d4fcaddfdbc21bf90920832fb712d6955f1fd", func := "loop.example/softwareradio/laws.FnExactBurstDetected", spec := "fnExactBurstDetected", apart := false }
def FnExactBurstDetectedSaid : Prop := fnExactBurstDetectedRow.holds Try.pinned (OpenSpec.ofChange fnExactBurstDetectedSpec)

/-- ITS FALSE NEIGHBOUR: 'it returns false'. Refute it at one input. -/
def fnExactBurstDetectedWrong : ChangeSpec := { name := "fnExactBurstDetected", fn := fun _ => fun
  | [d1, d2, d3, d4] => { results := [.lit (.bool false)], args := [d1, d2, d3, d4] }
  | _ => none }
def FnExactBurstDetectedWrongFalsely : Prop := fnExactBurstDetectedRow.holds Try.pinned (OpenSpec.ofChange fnExactBurstDetectedWrong)

/-- 'laws.FnExactCheckBits': WHATEVER THE INPUT: true; the input reads as it did. -/
def fnExactCheckBitsSpec : ChangeSpec := { name := "fnExactCheckBits", fn := fun _ => fun
  | [d1, d2] => { results := [.lit (.bool true)], args := [d1, d2] }
  | _ => none }
def fnExactCheckBitsRow : OpenClaim := { program := "ytlidppncongfjaa", sum := "e2fdf2a6b23dcc694f4fae46d92d4fcaddfdbc21bf90920832fb712d6955f1fd", func := "loop.example/softwareradio/laws.FnExactCheckBits", spec := "fnExactCheckBits", apart := false }
def FnExactCheckBitsSaid : Prop := fnExactCheckBitsRow.holds Try.pinned (OpenSpec.ofChange fnExactCheckBitsSpec)

/-- ITS FALSE NEIGHBOUR: 'it returns false'. Refute it at one input. -/
def fnExactCheckBitsWrong : ChangeSpec := { name := "fnExactCheckBits", fn := fun _ => fun
  | [d1, d2] => { results := [.lit (.bool false)], args := [d1, d2] }
  | _ => none }
def FnExactCheckBitsWrongFalsely : Prop := fnExactCheckBitsRow.holds Try.pinned (OpenSpec.ofChange fnExactCheckBitsWrong)

/-- 'laws.FnExactCheckAppend': WHATEVER THE INPUT: true; the input reads as it did. -/
def fnExactCheckAppendSpec : ChangeSpec := { name := "fnExactCheckAppend", fn := fun _ => fun
  | [d1, d2] => { results := [.lit (.bool true)], args := [d1, d2] }
  | _ => none }
def fnExactCheckAppendRow : OpenClaim := { program := "ytlidppncongfjaa", sum := "e2fdf2a6b23dcc694f4fae46d92d4fcaddfdbc21bf90920832fb712d6955f1fd", func := "loop.example/softwareradio/laws.FnExactCheckAppend", spec := "fnExactCheckAppend", apart := false }
def FnExactCheckAppendSaid : Prop := fnExactCheckAppendRow.holds Try.pinned (OpenSpec.ofChange fnExactCheckAppendSpec)

/-- ITS FALSE NEIGHBOUR: 'it returns false'. Refute it at one input. -/
def fnExactCheckAppendWrong : ChangeSpec := { name := "fnExactCheckAppend", fn := fun _ => fun
  | [d1, d2] => { results := [.lit (.bool false)], args := [d1, d2] }
  | _ => none }
def FnExactCheckAppendWrongFalsely : Prop := fnExactCheckAppendRow.holds Try.pinned (OpenSpec.ofChange fnExactCheckAppendWrong)

/-- 'laws.FnCheckShift': WHATEVER THE INPUT: true; the input reads as it did. -/
def fnCheckShiftSpec : ChangeSpec := { name := "fnCheckShift", fn := fun _ => fun
  | [d] => { results := [.lit (.bool true)], args := [d] }
  | _ => none }
def fnCheckShiftRow : OpenClaim := { program := "ytlidppncongfjaa", sum := "e2fdf2a6b23dcc694f4fae46d92d4fcaddfdbc21bf90920832fb712d6955f1fd", func := "loop.example/softwareradio/laws.FnCheckShift", spec := "fnCheckShift", apart := false }
def FnCheckShiftSaid : Prop := fnCheckShiftRow.holds Try.pinned (OpenSpec.ofChange fnCheckShiftSpec)

/-- ITS FALSE NEIGHBOUR: 'it returns false'. Refute it at one input. -/
def fnCheckShiftWrong : ChangeSpec := { name := "fnCheckShift", fn := fun _ => fun
  | [d] => { results := [.lit (.bool false)], args := [d] }
  | _ => none }
def FnCheckShiftWrongFalsely : Prop := fnCheckShiftRow.holds Try.pinned (OpenSpec.ofChange fnCheckShiftWrong)

/-- 'laws.FnCheckBits': WHATEVER THE INPUT: true; the input reads as it did. -/
def fnCheckBitsSpec : ChangeSpec := { name := "fnCheckBits", fn := fun _ => fun
  | [d] => { results := [.lit (.bool true)], args := [d] }
  | _ => none }
def fnCheckBitsRow : OpenClaim := { program := "ytlidppncongfjaa", sum := "e2fdf2a6b23dcc694f4fae46d92d4fcaddfdbc21bf90920832fb712d6955f1fd", func := "loop.example/softwareradio/laws.FnCheckBits", spec := "fnCheckBits", apart := false }
def FnCheckBitsSaid : Prop := fnCheckBitsRow.holds Try.pinned (OpenSpec.ofChange fnCheckBitsSpec)

/-- ITS FALSE NEIGHBOUR: 'it returns false'. Refute it at one input. -/
def fnCheckBitsWrong : ChangeSpec := { name := "fnCheckBits", fn := fun _ => fun
  | [d] => { results := [.lit (.bool false)], args := [d] }
  | _ => none }
def FnCheckBitsWrongFalsely : Prop := fnCheckBitsRow.holds Try.pinned (OpenSpec.ofChange fnCheckBitsWrong)

/-- 'laws.FnCheckAppend': WHATEVER THE INPUT: true; the input reads as it did. -/
def fnCheckAppendSpec : ChangeSpec := { name := "fnCheckAppend", fn := fun _ => fun
  | [d1, d2] => { results := [.lit (.bool true)], args := [d1, d2] }
  | _ => none }
def fnCheckAppendRow : OpenClaim := { program := "ytlidppncongfjaa", sum := "e2fdf2a6b23dcc694f4fae46d92d4fcaddfdbc21bf90920832fb712d6955f1fd", func := "loop.example/softwareradio/laws.FnCheckAppend", spec := "fnCheckAppend", apart := false }
def FnCheckAppendSaid : Prop := fnCheckAppendRow.holds Try.pinned (OpenSpec.ofChange fnCheckAppendSpec)

/-- ITS FALSE NEIGHBOUR: 'it returns false'. Refute it at one input. -/
def fnCheckAppendWrong : ChangeSpec := { name := "fnCheckAppend", fn := fun _ => fun
  | [d1, d2] => { results := [.lit (.bool false)], args := [d1, d2] }
  | _ => none }
def FnCheckAppendWrongFalsely : Prop := fnCheckAppendRow.holds Try.pinned (OpenSpec.ofChange fnCheckAppendWrong)

/-- 'laws.FnBurstDetected': WHATEVER THE INPUT: true; the input reads as it did. -/
def fnBurstDetectedSpec : ChangeSpec := { name := "fnBurstDetected", fn := fun _ => fun
  | [d] => { results := [.lit (.bool true)], args := [d] }
  | _ => none }
def fnBurstDetectedRow : OpenClaim := { program := "ytlidppncongfjaa", sum := "e2fdf2a6b23dcc694f4fae46d92d4fcaddfdbc21bf90920832fb712d6955f1fd", func := "loop.example/softwareradio/laws.FnBurstDetected", spec := "fnBurstDetected", apart := false }
def FnBurstDetectedSaid : Prop := fnBurstDetectedRow.holds Try.pinned (OpenSpec.ofChange fnBurstDetectedSpec)

/-- ITS FALSE NEIGHBOUR: 'it returns false'. Refute it at one input. -/
def fnBurstDetectedWrong : ChangeSpec := { name := "fnBurstDetected", fn := fun _ => fun
  | [d] => { results := [.lit (.bool false)], args := [d] }
  | _ => none }
def FnBurstDetectedWrongFalsely : Prop := fnBurstDetectedRow.holds Try.pinned (OpenSpec.ofChange fnBurstDetectedWrong)

/- THE SECOND FORM. 'bulk': how many values and letters a reading holds, each counted each time it is reached (what is shared counts as often as it is met; a slice's spare places count too). A statement '..UptoSaid' is the law's where the arguments, and the package variables that the reading takes, are together of bulk at most 1048576: NARROWER than '..Said'. Prove '..Said' where nothing that the law and all that it calls make is longer than what came in: it says more and counts as full. Else prove '..UptoSaid'. A law counts once. -/
mutual
def uptoBulk {H : Type} : DataW H → Nat
  | .lit (.string bytes) => bytes.length + 1
  | .lit _ => 1
  | .nil => 1
  | .ptr d => uptoBulk d + 1
  | .slice elems spare => uptoBulkAll elems + uptoBulkAll spare + 1
  | .agg parts => uptoBulkAll parts + 1
  | .iface _ d => uptoBulk d + 1
  | .map entries => uptoBulkEntries entries + 1
  | .held _ => 1
def uptoBulkAll {H : Type} : List (DataW H) → Nat
  | [] => 0
  | d :: r => uptoBulk d + uptoBulkAll r
def uptoBulkEntries {H : Type} : List (Lit × DataW H) → Nat
  | [] => 0
  | x :: r => uptoBulkEntry x + uptoBulkEntries r
def uptoBulkEntry {H : Type} : Lit × DataW H → Nat
  | (.string bytes, d) => bytes.length + uptoBulk d + 1
  | (_, d) => uptoBulk d + 1
 end
def uptoSmall : (H : Type) → List (DataW H) → Bool := fun _ ds => decide (uptoBulkAll ds ≤ 1048576)
def OpenSpec.upto (s : _root_.Go.ChangeSpec) : _root_.Go.OpenSpec := { _root_.Go.OpenSpec.ofChange s with cond := some uptoSmall }

/-- 'laws.FnExactGeneratorValid', WHERE WHAT IT READS IS OF BULK AT MOST 1048576: true; the input reads as it did. -/
def fnExactGeneratorValidUptoRow : OpenClaim := { program := "ytlidppncongfjaa", sum := "e2fdf2a6b23dcc694f4fae46d92d4fcaddfdbc21bf90920832fb712d6955f1fd", func := "loop.example/softwareradio/laws.FnExactGeneratorValid", spec := "fnExactGeneratorValid", apart := false, narrowed := true }
def FnExactGeneratorValidUptoSaid : Prop := fnExactGeneratorValidUptoRow.holds Try.pinned (OpenSpec.upto fnExactGeneratorValidSpec)

/-- 'laws.FnCheckPasses', WHERE WHAT IT READS IS OF BULK AT MOST 1048576: true; the input reads as it did. -/
def fnCheckPassesUptoRow : OpenClaim := { program := "ytlidppncongfjaa", sum := "e2fdf2a6b23dcc694f4fae46d92d4fcaddfdbc21bf90920832fb712d6955f1fd", func := "loop.example/softwareradio/laws.FnCheckPasses", spec := "fnCheckPasses", apart := false, narrowed := true }
def FnCheckPassesUptoSaid : Prop := fnCheckPassesUptoRow.holds Try.pinned (OpenSpec.upto fnCheckPassesSpec)

/-- 'laws.FnExactDegreeOf', WHERE WHAT IT READS IS OF BULK AT MOST 1048576: true; the input reads as it did. -/
def fnExactDegreeOfUptoRow : OpenClaim := { program := "ytlidppncongfjaa", sum := "e2fdf2a6b23dcc694f4fae46d92d4fcaddfdbc21bf90920832fb712d6955f1fd", func := "loop.example/softwareradio/laws.FnExactDegreeOf", spec := "fnExactDegreeOf", apart := false, narrowed := true }
def FnExactDegreeOfUptoSaid : Prop := fnExactDegreeOfUptoRow.holds Try.pinned (OpenSpec.upto fnExactDegreeOfSpec)

/-- 'laws.FnCheckSum', WHERE WHAT IT READS IS OF BULK AT MOST 1048576: true; the input reads as it did. -/
def fnCheckSumUptoRow : OpenClaim := { program := "ytlidppncongfjaa", sum := "e2fdf2a6b23dcc694f4fae46d92d4fcaddfdbc21bf90920832fb712d6955f1fd", func := "loop.example/softwareradio/laws.FnCheckSum", spec := "fnCheckSum", apart := false, narrowed := true }
def FnCheckSumUptoSaid : Prop := fnCheckSumUptoRow.holds Try.pinned (OpenSpec.upto fnCheckSumSpec)

/-- 'laws.FnGeneratorValid', WHERE WHAT IT READS IS OF BULK AT MOST 1048576: true; the input reads as it did. -/
def fnGeneratorValidUptoRow : OpenClaim := { program := "ytlidppncongfjaa", sum := "e2fdf2a6b23dcc694f4fae46d92d4fcaddfdbc21bf90920832fb712d6955f1fd", func := "loop.example/softwareradio/laws.FnGeneratorValid", spec := "fnGeneratorValid", apart := false, narrowed := true }
def FnGeneratorValidUptoSaid : Prop := fnGeneratorValidUptoRow.holds Try.pinned (OpenSpec.upto fnGeneratorValidSpec)

/-- 'laws.FnDegreeOf', WHERE WHAT IT READS IS OF BULK AT MOST 1048576: true; the input reads as it did. -/
def fnDegreeOfUptoRow : OpenClaim := { program := "ytlidppncongfjaa", sum := "e2fdf2a6b23dcc694f4fae46d92d4fcaddfdbc21bf90920832fb712d6955f1fd", func := "loop.example/softwareradio/laws.FnDegreeOf", spec := "fnDegreeOf", apart := false, narrowed := true }
def FnDegreeOfUptoSaid : Prop := fnDegreeOfUptoRow.holds Try.pinned (OpenSpec.upto fnDegreeOfSpec)

/-- 'laws.FnExactCheckPasses', WHERE WHAT IT READS IS OF BULK AT MOST 1048576: true; the input reads as it did. -/
def fnExactCheckPassesUptoRow : OpenClaim := { program := "ytlidppncongfjaa", sum := "e2fdf2a6b23dcc694f4fae46d92d4fcaddfdbc21bf90920832fb712d6955f1fd", func := "loop.example/softwareradio/laws.FnExactCheckPasses", spec := "fnExactCheckPasses", apart := false, narrowed := true }
def FnExactCheckPassesUptoSaid : Prop := fnExactCheckPassesUptoRow.holds Try.pinned (OpenSpec.upto fnExactCheckPassesSpec)

/-- 'laws.FnExactBurstDetected', WHERE WHAT IT READS IS OF BULK AT MOST 1048576: true; the input reads as it did. -/
def fnExactBurstDetectedUptoRow : OpenClaim := { program := "ytlidppncongfjaa", sum := "e2fdf2a6b23dcc694f4fae46d92d4fcaddfdbc21bf90920832fb712d6955f1fd", func := "loop.example/softwareradio/laws.FnExactBurstDetected", spec := "fnExactBurstDetected", apart := false, narrowed := true }
def FnExactBurstDetectedUptoSaid : Prop := fnExactBurstDetectedUptoRow.holds Try.pinned (OpenSpec.upto fnExactBurstDetectedSpec)

/-- 'laws.FnExactCheckBits', WHERE WHAT IT READS IS OF BULK AT MOST 1048576: true; the input reads as it did. -/
def fnExactCheckBitsUptoRow : OpenClaim := { program := "ytlidppncongfjaa", sum := "e2fdf2a6b23dcc694f4fae46d92d4fcaddfdbc21bf90920832fb712d6955f1fd", func := "loop.example/softwareradio/laws.FnExactCheckBits", spec := "fnExactCheckBits", apart := false, narrowed := true }
def FnExactCheckBitsUptoSaid : Prop := fnExactCheckBitsUptoRow.holds Try.pinned (OpenSpec.upto fnExactCheckBitsSpec)

/-- 'laws.FnExactCheckAppend', WHERE WHAT IT READS IS OF BULK AT MOST 1048576: true; the input reads as it did. -/
def fnExactCheckAppendUptoRow : OpenClaim := { program := "ytlidppncongfjaa", sum := "e2fdf2a6b23dcc694f4fae46d92d4fcaddfdbc21bf90920832fb712d6955f1fd", func := "loop.example/softwareradio/laws.FnExactCheckAppend", spec := "fnExactCheckAppend", apart := false, narrowed := true }
def FnExactCheckAppendUptoSaid : Prop := fnExactCheckAppendUptoRow.holds Try.pinned (OpenSpec.upto fnExactCheckAppendSpec)

/-- 'laws.FnCheckShift', WHERE WHAT IT READS IS OF BULK AT MOST 1048576: true; the input reads as it did. -/
def fnCheckShiftUptoRow : OpenClaim := { program := "ytlidppncongfjaa", sum := "e2fdf2a6b23dcc694f4fae46d92d4fcaddfdbc21bf90920832fb712d6955f1fd", func := "loop.example/softwareradio/laws.FnCheckShift", spec := "fnCheckShift", apart := false, narrowed := true }
def FnCheckShiftUptoSaid : Prop := fnCheckShiftUptoRow.holds Try.pinned (OpenSpec.upto fnCheckShiftSpec)

/-- 'laws.FnCheckBits', WHERE WHAT IT READS IS OF BULK AT MOST 1048576: true; the input reads as it did. -/
def fnCheckBitsUptoRow : OpenClaim := { program := "ytlidppncongfjaa", sum := "e2fdf2a6b23dcc694f4fae46d92d4fcaddfdbc21bf90920832fb712d6955f1fd", func := "loop.example/softwareradio/laws.FnCheckBits", spec := "fnCheckBits", apart := false, narrowed := true }
def FnCheckBitsUptoSaid : Prop := fnCheckBitsUptoRow.holds Try.pinned (OpenSpec.upto fnCheckBitsSpec)

/-- 'laws.FnCheckAppend', WHERE WHAT IT READS IS OF BULK AT MOST 1048576: true; the input reads as it did. -/
def fnCheckAppendUptoRow : OpenClaim := { program := "ytlidppncongfjaa", sum := "e2fdf2a6b23dcc694f4fae46d92d4fcaddfdbc21bf90920832fb712d6955f1fd", func := "loop.example/softwareradio/laws.FnCheckAppend", spec := "fnCheckAppend", apart := false, narrowed := true }
def FnCheckAppendUptoSaid : Prop := fnCheckAppendUptoRow.holds Try.pinned (OpenSpec.upto fnCheckAppendSpec)

/-- 'laws.FnBurstDetected', WHERE WHAT IT READS IS OF BULK AT MOST 1048576: true; the input reads as it did. -/
def fnBurstDetectedUptoRow : OpenClaim := { program := "ytlidppncongfjaa", sum := "e2fdf2a6b23dcc694f4fae46d92d4fcaddfdbc21bf90920832fb712d6955f1fd", func := "loop.example/softwareradio/laws.FnBurstDetected", spec := "fnBurstDetected", apart := false, narrowed := true }
def FnBurstDetectedUptoSaid : Prop := fnBurstDetectedUptoRow.holds Try.pinned (OpenSpec.upto fnBurstDetectedSpec)

end Rows
end Go.Proofs.Ytlidppncongfjaa
