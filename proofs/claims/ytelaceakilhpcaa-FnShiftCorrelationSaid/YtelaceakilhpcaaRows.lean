/-
  No cell of these rows narrows 'for every input' (looked for: loops, veiled, ifaces, maps, wideKeys, modest, calm, conditions, laid).
  DERIVED. THE GIVEN ROWS OF THIS SEAT. 10 by the template 'for every input the law returns true; each argument reads behind the call as it read before'; 0 by the template 'total and deterministic' (their statements: YtelaceakilhpcaaTotals.lean).
  GIVEN WITH THE SEED: the statements are not yours to turn. If you find one false, say at which input.
  Laid BY PROGRAM, IN A SANDBOX (cutbox-rows.mjs): the forced cells as the released guide's own fill.sh prints them over the translation 6033186f6b9037e5… (all of the seat's roots in one cut). By AI agents, Wed Nov 11 2026. No macro, syntax, notation, axiom, sorry.
-/
import Derived.Test.YtelaceakilhpcaaChecked
import GoSem.Claim
import GoSem.ClaimJoined
import GoSem.ClaimMapViews
import Derived.JoinedTies
import Derived.KernelRfl
namespace Go.Proofs.Ytelaceakilhpcaa
/- THE CELL 'sum', in the pinned program and in every row, IS THE sha256 OF THE DUMP (.gsa) THAT YtelaceakilhpcaaProg.lean LOADS. Nothing in Lean hashes anything: it is a label: what it is worth is what the hold of that sum in a sandbox is worth. -/
noncomputable def Try.pinned : Pinned := { name := "ytelaceakilhpcaa", sum := "6033186f6b9037e57c363cfb1d19784a61ebc1b4535711a17905140f18eb6438", checked := Try.checked }
namespace Rows
def none {H : Type} : Left H := { results := [], args := [] }

/-- 'laws.FnExactShiftPeriod': WHATEVER THE INPUT: true; the input reads as it did. -/
def fnExactShiftPeriodSpec : ChangeSpec := { name := "fnExactShiftPeriod", fn := fun _ => fun
  | [d1, d2] => { results := [.lit (.bool true)], args := [d1, d2] }
  | _ => none }
def fnExactShiftPeriodRow : OpenClaim := { program := "ytelaceakilhpcaa", sum := "6033186f6b9037e57c363cfb1d19784a61ebc1b4535711a17905140f18eb6438", func := "loop.example/softwareradio/laws.FnExactShiftPeriod", spec := "fnExactShiftPeriod", apart := false }
def FnExactShiftPeriodSaid : Prop := fnExactShiftPeriodRow.holds Try.pinned (OpenSpec.ofChange fnExactShiftPeriodSpec)

/-- ITS FALSE NEIGHBOUR: 'it returns false'. Refute it at one input. -/
def fnExactShiftPeriodWrong : ChangeSpec := { name := "fnExactShiftPeriod", fn := fun _ => fun
  | [d1, d2] => { results := [.lit (.bool false)], args := [d1, d2] }
  | _ => none }
def FnExactShiftPeriodWrongFalsely : Prop := fnExactShiftPeriodRow.holds Try.pinned (OpenSpec.ofChange fnExactShiftPeriodWrong)

/-- 'laws.FnExactShiftBits': WHATEVER THE INPUT: true; the input reads as it did. -/
def fnExactShiftBitsSpec : ChangeSpec := { name := "fnExactShiftBits", fn := fun _ => fun
  | [d1, d2, d3] => { results := [.lit (.bool true)], args := [d1, d2, d3] }
  | _ => none }
def fnExactShiftBitsRow : OpenClaim := { program := "ytelaceakilhpcaa", sum := "6033186f6b9037e57c363cfb1d19784a61ebc1b4535711a17905140f18eb6438", func := "loop.example/softwareradio/laws.FnExactShiftBits", spec := "fnExactShiftBits", unfollowed := true, recurses := true, apart := false }
def FnExactShiftBitsSaid : Prop := fnExactShiftBitsRow.holds Try.pinned (OpenSpec.ofChange fnExactShiftBitsSpec)

/-- ITS FALSE NEIGHBOUR: 'it returns false'. Refute it at one input. -/
def fnExactShiftBitsWrong : ChangeSpec := { name := "fnExactShiftBits", fn := fun _ => fun
  | [d1, d2, d3] => { results := [.lit (.bool false)], args := [d1, d2, d3] }
  | _ => none }
def FnExactShiftBitsWrongFalsely : Prop := fnExactShiftBitsRow.holds Try.pinned (OpenSpec.ofChange fnExactShiftBitsWrong)

/-- 'laws.FnShiftBalance': WHATEVER THE INPUT: true; the input reads as it did. -/
def fnShiftBalanceSpec : ChangeSpec := { name := "fnShiftBalance", fn := fun _ => fun
  | [d] => { results := [.lit (.bool true)], args := [d] }
  | _ => none }
def fnShiftBalanceRow : OpenClaim := { program := "ytelaceakilhpcaa", sum := "6033186f6b9037e57c363cfb1d19784a61ebc1b4535711a17905140f18eb6438", func := "loop.example/softwareradio/laws.FnShiftBalance", spec := "fnShiftBalance", unfollowed := true, recurses := true, apart := false }
def FnShiftBalanceSaid : Prop := fnShiftBalanceRow.holds Try.pinned (OpenSpec.ofChange fnShiftBalanceSpec)

/-- ITS FALSE NEIGHBOUR: 'it returns false'. Refute it at one input. -/
def fnShiftBalanceWrong : ChangeSpec := { name := "fnShiftBalance", fn := fun _ => fun
  | [d] => { results := [.lit (.bool false)], args := [d] }
  | _ => none }
def FnShiftBalanceWrongFalsely : Prop := fnShiftBalanceRow.holds Try.pinned (OpenSpec.ofChange fnShiftBalanceWrong)

/-- 'laws.FnShiftRecurrence': WHATEVER THE INPUT: true; the input reads as it did. -/
def fnShiftRecurrenceSpec : ChangeSpec := { name := "fnShiftRecurrence", fn := fun _ => fun
  | [d] => { results := [.lit (.bool true)], args := [d] }
  | _ => none }
def fnShiftRecurrenceRow : OpenClaim := { program := "ytelaceakilhpcaa", sum := "6033186f6b9037e57c363cfb1d19784a61ebc1b4535711a17905140f18eb6438", func := "loop.example/softwareradio/laws.FnShiftRecurrence", spec := "fnShiftRecurrence", unfollowed := true, recurses := true, apart := false }
def FnShiftRecurrenceSaid : Prop := fnShiftRecurrenceRow.holds Try.pinned (OpenSpec.ofChange fnShiftRecurrenceSpec)

/-- ITS FALSE NEIGHBOUR: 'it returns false'. Refute it at one input. -/
def fnShiftRecurrenceWrong : ChangeSpec := { name := "fnShiftRecurrence", fn := fun _ => fun
  | [d] => { results := [.lit (.bool false)], args := [d] }
  | _ => none }
def FnShiftRecurrenceWrongFalsely : Prop := fnShiftRecurrenceRow.holds Try.pinned (OpenSpec.ofChange fnShiftRecurrenceWrong)

/-- 'laws.FnShiftPeriod': WHATEVER THE INPUT: true; the input reads as it did. -/
def fnShiftPeriodSpec : ChangeSpec := { name := "fnShiftPeriod", fn := fun _ => fun
  | [d] => { results := [.lit (.bool true)], args := [d] }
  | _ => none }
def fnShiftPeriodRow : OpenClaim := { program := "ytelaceakilhpcaa", sum := "6033186f6b9037e57c363cfb1d19784a61ebc1b4535711a17905140f18eb6438", func := "loop.example/softwareradio/laws.FnShiftPeriod", spec := "fnShiftPeriod", apart := false }
def FnShiftPeriodSaid : Prop := fnShiftPeriodRow.holds Try.pinned (OpenSpec.ofChange fnShiftPeriodSpec)

/-- ITS FALSE NEIGHBOUR: 'it returns false'. Refute it at one input. -/
def fnShiftPeriodWrong : ChangeSpec := { name := "fnShiftPeriod", fn := fun _ => fun
  | [d] => { results := [.lit (.bool false)], args := [d] }
  | _ => none }
def FnShiftPeriodWrongFalsely : Prop := fnShiftPeriodRow.holds Try.pinned (OpenSpec.ofChange fnShiftPeriodWrong)

/-- 'laws.FnShiftCorrelation': WHATEVER THE INPUT: true; the input reads as it did. -/
def fnShiftCorrelationSpec : ChangeSpec := { name := "fnShiftCorrelation", fn := fun _ => fun
  | [d] => { results := [.lit (.bool true)], args := [d] }
  | _ => none }
def fnShiftCorrelationRow : OpenClaim := { program := "ytelaceakilhpcaa", sum := "6033186f6b9037e57c363cfb1d19784a61ebc1b4535711a17905140f18eb6438", func := "loop.example/softwareradio/laws.FnShiftCorrelation", spec := "fnShiftCorrelation", unfollowed := true, recurses := true, apart := false }
def FnShiftCorrelationSaid : Prop := fnShiftCorrelationRow.holds Try.pinned (OpenSpec.ofChange fnShiftCorrelationSpec)

/-- ITS FALSE NEIGHBOUR: 'it returns false'. Refute it at one input. -/
def fnShiftCorrelationWrong : ChangeSpec := { name := "fnShiftCorrelation", fn := fun _ => fun
  | [d] => { results := [.lit (.bool false)], args := [d] }
  | _ => none }
def FnShiftCorrelationWrongFalsely : Prop := fnShiftCorrelationRow.holds Try.pinned (OpenSpec.ofChange fnShiftCorrelationWrong)

/-- 'laws.FnExactScrambleBits': WHATEVER THE INPUT: true; the input reads as it did. -/
def fnExactScrambleBitsSpec : ChangeSpec := { name := "fnExactScrambleBits", fn := fun _ => fun
  | [d1, d2, d3] => { results := [.lit (.bool true)], args := [d1, d2, d3] }
  | _ => none }
def fnExactScrambleBitsRow : OpenClaim := { program := "ytelaceakilhpcaa", sum := "6033186f6b9037e57c363cfb1d19784a61ebc1b4535711a17905140f18eb6438", func := "loop.example/softwareradio/laws.FnExactScrambleBits", spec := "fnExactScrambleBits", unfollowed := true, recurses := true, apart := false }
def FnExactScrambleBitsSaid : Prop := fnExactScrambleBitsRow.holds Try.pinned (OpenSpec.ofChange fnExactScrambleBitsSpec)

/-- ITS FALSE NEIGHBOUR: 'it returns false'. Refute it at one input. -/
def fnExactScrambleBitsWrong : ChangeSpec := { name := "fnExactScrambleBits", fn := fun _ => fun
  | [d1, d2, d3] => { results := [.lit (.bool false)], args := [d1, d2, d3] }
  | _ => none }
def FnExactScrambleBitsWrongFalsely : Prop := fnExactScrambleBitsRow.holds Try.pinned (OpenSpec.ofChange fnExactScrambleBitsWrong)

/-- 'laws.FnScrambledStream': WHATEVER THE INPUT: true; the input reads as it did. -/
def fnScrambledStreamSpec : ChangeSpec := { name := "fnScrambledStream", fn := fun _ => fun
  | [d] => { results := [.lit (.bool true)], args := [d] }
  | _ => none }
def fnScrambledStreamRow : OpenClaim := { program := "ytelaceakilhpcaa", sum := "6033186f6b9037e57c363cfb1d19784a61ebc1b4535711a17905140f18eb6438", func := "loop.example/softwareradio/laws.FnScrambledStream", spec := "fnScrambledStream", unfollowed := true, recurses := true, apart := false }
def FnScrambledStreamSaid : Prop := fnScrambledStreamRow.holds Try.pinned (OpenSpec.ofChange fnScrambledStreamSpec)

/-- ITS FALSE NEIGHBOUR: 'it returns false'. Refute it at one input. -/
def fnScrambledStreamWrong : ChangeSpec := { name := "fnScrambledStream", fn := fun _ => fun
  | [d] => { results := [.lit (.bool false)], args := [d] }
  | _ => none }
def FnScrambledStreamWrongFalsely : Prop := fnScrambledStreamRow.holds Try.pinned (OpenSpec.ofChange fnScrambledStreamWrong)

/-- 'laws.FnShiftBits': WHATEVER THE INPUT: true; the input reads as it did. -/
def fnShiftBitsSpec : ChangeSpec := { name := "fnShiftBits", fn := fun _ => fun
  | [d] => { results := [.lit (.bool true)], args := [d] }
  | _ => none }
def fnShiftBitsRow : OpenClaim := { program := "ytelaceakilhpcaa", sum := "6033186f6b9037e57c363cfb1d19784a61ebc1b4535711a17905140f18eb6438", func := "loop.example/softwareradio/laws.FnShiftBits", spec := "fnShiftBits", unfollowed := true, recurses := true, apart := false }
def FnShiftBitsSaid : Prop := fnShiftBitsRow.holds Try.pinned (OpenSpec.ofChange fnShiftBitsSpec)

/-- ITS FALSE NEIGHBOUR: 'it returns false'. Refute it at one input. -/
def fnShiftBitsWrong : ChangeSpec := { name := "fnShiftBits", fn := fun _ => fun
  | [d] => { results := [.lit (.bool false)], args := [d] }
  | _ => none }
def FnShiftBitsWrongFalsely : Prop := fnShiftBitsRow.holds Try.pinned (OpenSpec.ofChange fnShiftBitsWrong)

/-- 'laws.FnScrambleBits': WHATEVER THE INPUT: true; the input reads as it did. -/
def fnScrambleBitsSpec : ChangeSpec := { name := "fnScrambleBits", fn := fun _ => fun
  | [d] => { results := [.lit (.bool true)], args := [d] }
  | _ => none }
def fnScrambleBitsRow : OpenClaim := { program := "ytelaceakilhpcaa", sum := "6033186f6b9037e57c363cfb1d19784a61ebc1b4535711a17905140f18eb6438", func := "loop.example/softwareradio/laws.FnScrambleBits", spec := "fnScrambleBits", unfollowed := true, recurses := true, apart := false }
def FnScrambleBitsSaid : Prop := fnScrambleBitsRow.holds Try.pinned (OpenSpec.ofChange fnScrambleBitsSpec)

/-- ITS FALSE NEIGHBOUR: 'it returns false'. Refute it at one input. -/
def fnScrambleBitsWrong : ChangeSpec := { name := "fnScrambleBits", fn := fun _ => fun
  | [d] => { results := [.lit (.bool false)], args := [d] }
  | _ => none }
def FnScrambleBitsWrongFalsely : Prop := fnScrambleBitsRow.holds Try.pinned (OpenSpec.ofChange fnScrambleBitsWrong)

/- THE SECOND FORM. 'bulk': how many values and letters a reading holds, each counted each time it is reached (what is shared counts as often as it is met; a slice's spare places count too). A statement '..UptoSaid' is the law's where the arguments, and the package variables that the reading takes, are together of bulk at most 1048576: NARROWER than '..Said'. Prove '..Said' where nothing that the law and all that it calls make is longer than what came in: it says more and counts as full. Else prove '..UptoSaid'. A law counts once. -/
mutual
def uptoBulk {H : Type} : DataW H → Nat
  | .lit (.string bytes) => bytes.length + 1
  | .lit _ => 1
  | .nil => 1
  | .ptr d => uptoBulk d + 1
  | .slice elems spare => uptoBulkAll elems + uptoBulkAll spare + 1
  | .agg parts => uptoBulkAll parts + 1
  | .iface _ d => uptoBulk d + 1
  | .map entries => uptoBulkEntries entries + 1
  | .held _ => 1
def uptoBulkAll {H : Type} : List (DataW H) → Nat
  | [] => 0
  | d :: r => uptoBulk d + uptoBulkAll r
def uptoBulkEntries {H : Type} : List (Lit × DataW H) → Nat
  | [] => 0
  | x :: r => uptoBulkEntry x + uptoBulkEntries r
def uptoBulkEntry {H : Type} : Lit × DataW H → Nat
  | (.string bytes, d) => bytes.length + uptoBulk d + 1
  | (_, d) => uptoBulk d + 1
 end
def uptoSmall : (H : Type) → List (DataW H) → Bool := fun _ ds => decide (uptoBulkAll ds ≤ 1048576)
def OpenSpec.upto (s : _root_.Go.ChangeSpec) : _root_.Go.OpenSpec := { _root_.Go.OpenSpec.ofChange s with cond := some uptoSmall }

/-- 'laws.FnExactShiftPeriod', WHERE WHAT IT READS IS OF BULK AT MOST 1048576: true; the input reads as it did. -/
def fnExactShiftPeriodUptoRow : OpenClaim := { program := "ytelaceakilhpcaa", sum := "6033186f6b9037e57c363cfb1d19784a61ebc1b4535711a17905140f18eb6438", func := "loop.example/softwareradio/laws.FnExactShiftPeriod", spec := "fnExactShiftPeriod", apart := false, narrowed := true }
def FnExactShiftPeriodUptoSaid : Prop := fnExactShiftPeriodUptoRow.holds Try.pinned (OpenSpec.upto fnExactShiftPeriodSpec)

/-- 'laws.FnExactShiftBits', WHERE WHAT IT READS IS OF BULK AT MOST 1048576: true; the input reads as it did. -/
def fnExactShiftBitsUptoRow : OpenClaim := { program := "ytelaceakilhpcaa", sum := "6033186f6b9037e57c363cfb1d19784a61ebc1b4535711a17905140f18eb6438", func := "loop.example/softwareradio/laws.FnExactShiftBits", spec := "fnExactShiftBits", unfollowed := true, recurses := true, apart := false, narrowed := true }
def FnExactShiftBitsUptoSaid : Prop := fnExactShiftBitsUptoRow.holds Try.pinned (OpenSpec.upto fnExactShiftBitsSpec)

/-- 'laws.FnShiftBalance', WHERE WHAT IT READS IS OF BULK AT MOST 1048576: true; the input reads as it did. -/
def fnShiftBalanceUptoRow : OpenClaim := { program := "ytelaceakilhpcaa", sum := "6033186f6b9037e57c363cfb1d19784a61ebc1b4535711a17905140f18eb6438", func := "loop.example/softwareradio/laws.FnShiftBalance", spec := "fnShiftBalance", unfollowed := true, recurses := true, apart := false, narrowed := true }
def FnShiftBalanceUptoSaid : Prop := fnShiftBalanceUptoRow.holds Try.pinned (OpenSpec.upto fnShiftBalanceSpec)

/-- 'laws.FnShiftRecurrence', WHERE WHAT IT READS IS OF BULK AT MOST 1048576: true; the input reads as it did. -/
def fnShiftRecurrenceUptoRow : OpenClaim := { program := "ytelaceakilhpcaa", sum := "6033186f6b9037e57c363cfb1d19784a61ebc1b4535711a17905140f18eb6438", func := "loop.example/softwareradio/laws.FnShiftRecurrence", spec := "fnShiftRecurrence", unfollowed := true, recurses := true, apart := false, narrowed := true }
def FnShiftRecurrenceUptoSaid : Prop := fnShiftRecurrenceUptoRow.holds Try.pinned (OpenSpec.upto fnShiftRecurrenceSpec)

/-- 'laws.FnShiftPeriod', WHERE WHAT IT READS IS OF BULK AT MOST 1048576: true; the input reads as it did. -/
def fnShiftPeriodUptoRow : OpenClaim := { program := "ytelaceakilhpcaa", sum := "6033186f6b9037e57c363cfb1d19784a61ebc1b4535711a17905140f18eb6438", func := "loop.example/softwareradio/laws.FnShiftPeriod", spec := "fnShiftPeriod", apart := false, narrowed := true }
def FnShiftPeriodUptoSaid : Prop := fnShiftPeriodUptoRow.holds Try.pinned (OpenSpec.upto fnShiftPeriodSpec)

/-- 'laws.FnShiftCorrelation', WHERE WHAT IT READS IS OF BULK AT MOST 1048576: true; the input reads as it did. -/
def fnShiftCorrelationUptoRow : OpenClaim := { program := "ytelaceakilhpcaa", sum := "6033186f6b9037e57c363cfb1d19784a61ebc1b4535711a17905140f18eb6438", func := "loop.example/softwareradio/laws.FnShiftCorrelation", spec := "fnShiftCorrelation", unfollowed := true, recurses := true, apart := false, narrowed := true }
def FnShiftCorrelationUptoSaid : Prop := fnShiftCorrelationUptoRow.holds Try.pinned (OpenSpec.upto fnShiftCorrelationSpec)

/-- 'laws.FnExactScrambleBits', WHERE WHAT IT READS IS OF BULK AT MOST 1048576: true; the input reads as it did. -/
def fnExactScrambleBitsUptoRow : OpenClaim := { program := "ytelaceakilhpcaa", sum := "6033186f6b9037e57c363cfb1d19784a61ebc1b4535711a17905140f18eb6438", func := "loop.example/softwareradio/laws.FnExactScrambleBits", spec := "fnExactScrambleBits", unfollowed := true, recurses := true, apart := false, narrowed := true }
def FnExactScrambleBitsUptoSaid : Prop := fnExactScrambleBitsUptoRow.holds Try.pinned (OpenSpec.upto fnExactScrambleBitsSpec)

/-- 'laws.FnScrambledStream', WHERE WHAT IT READS IS OF BULK AT MOST 1048576: true; the input reads as it did. -/
def fnScrambledStreamUptoRow : OpenClaim := { program := "ytelaceakilhpcaa", sum := "6033186f6b9037e57c363cfb1d19784a61ebc1b4535711a17905140f18eb6438", func := "loop.example/softwareradio/laws.FnScrambledStream", spec := "fnScrambledStream", unfollowed := true, recurses := true, apart := false, narrowed := true }
def FnScrambledStreamUptoSaid : Prop := fnScrambledStreamUptoRow.holds Try.pinned (OpenSpec.upto fnScrambledStreamSpec)

/-- 'laws.FnShiftBits', WHERE WHAT IT READS IS OF BULK AT MOST 1048576: true; the input reads as it did. -/
def fnShiftBitsUptoRow : OpenClaim := { program := "ytelaceakilhpcaa", sum := "6033186f6b9037e57c363cfb1d19784a61ebc1b4535711a17905140f18eb6438", func := "loop.example/softwareradio/laws.FnShiftBits", spec := "fnShiftBits", unfollowed := true, recurses := true, apart := false, narrowed := true }
def FnShiftBitsUptoSaid : Prop := fnShiftBitsUptoRow.holds Try.pinned (OpenSpec.upto fnShiftBitsSpec)

/-- 'laws.FnScrambleBits', WHERE WHAT IT READS IS OF BULK AT MOST 1048576: true; the input reads as it did. -/
def fnScrambleBitsUptoRow : OpenClaim := { program := "ytelaceakilhpcaa", sum := "6033186f6b9037e57c363cfb1d19784a61ebc1b4535711a17905140f18eb6438", func := "loop.example/softwareradio/laws.FnScrambleBits", spec := "fnScrambleBits", unfollowed := true, recurses := true, apart := false, narrowed := true }
def FnScrambleBitsUptoSaid : Prop := fnScrambleBitsUptoRow.holds Try.pinned (OpenSpec.upto fnScrambleBitsSpec)

end Rows
end Go.Proofs.Ytelaceakilhpcaa
