/-
  Walks of exact laws: the program and the reference agree. Written by a program (exact.py) over the contracts.
-/
import Derived.Test.YtlidppncongfjaaChk
namespace Go.Proofs.Ytlidppncongfjaa
open Go.RowKit

set_option maxHeartbeats 1000000 in
set_option linter.unusedVariables false in
theorem walk_FnExactGeneratorValid (w : World) (a0 : Int) (wa0 : (Lit.int .i64 a0).wf = true) :
    Calls Try.prog 3 #[.int .i64 a0] w fun e w' => e = .returned (.bool true) ∧ Below w.heap.size w w' := by
  have HB : Hid (Below w.heap.size w w) := Below.refl _ _
  go_enter Try.func3, Try.ntmps3
  go_wp2_with fail
  refine (specGeneratorValid_any a0 _).mono ?_
  rintro e w1 ⟨rfl, rfl⟩
  go_wp2_with fail
  refine (GeneratorValid_any a0 _ wa0).mono ?_
  rintro e w1 ⟨rfl, rfl⟩
  have hb1 : (((genB a0) : Bool) != (genB a0)) = false := by simp
  go_wp2
  go_ret
  exact ⟨rfl, HB.out⟩
set_option maxHeartbeats 1000000 in
set_option linter.unusedVariables false in
theorem walk_FnExactDegreeOf (w : World) (a0 : Int) (wa0 : (Lit.int .i64 a0).wf = true) :
    Calls Try.prog 5 #[.int .i64 a0] w fun e w' => e = .returned (.bool true) ∧ Below w.heap.size w w' := by
  have HB : Hid (Below w.heap.size w w) := Below.refl _ _
  go_enter Try.func5, Try.ntmps5
  go_wp2_with fail
  refine (specDegreeOf_any a0 _).mono ?_
  rintro e w1 ⟨rfl, rfl⟩
  go_wp2_with fail
  refine (DegreeOf_any a0 _ wa0).mono ?_
  rintro e w1 ⟨rfl, rfl⟩
  have hb1 : (((degI a0) : Int) != (degI a0)) = false := by simp
  go_wp2
  go_ret
  exact ⟨rfl, HB.out⟩
end Go.Proofs.Ytlidppncongfjaa
