/-
  Walks of the exact laws of the field: the program and the reference agree. Written by a program (exact.py) over the contracts.
-/
import Derived.Test.YtjcdinafghafcaaField2
namespace Go.Proofs.Ytjcdinafghafcaa
open Go.RowKit

set_option maxHeartbeats 1000000 in
set_option linter.unusedVariables false in
theorem walk_FnExactFieldAdd (w : World) (a0 : Int) (wa0 : (Lit.int .i64 a0).wf = true) (a1 : Int) (wa1 : (Lit.int .i64 a1).wf = true) :
    Calls Try.prog 4 #[.int .i64 a0, .int .i64 a1] w fun e w' => e = .returned (.bool true) ∧ Below w.heap.size w w' := by
  have HB : Hid (Below w.heap.size w w) := Below.refl _ _
  go_enter Try.func4, Try.ntmps4
  go_wp2_with fail
  refine (specFieldAdd_any a0 a1 _).mono ?_
  rintro e w1 ⟨rfl, rfl⟩
  go_wp2_with fail
  refine (FieldAdd_any a0 a1 _).mono ?_
  rintro e w1 ⟨rfl, rfl⟩
  have hb1 : (((fAdd a0 a1) : Int) != (fAdd a0 a1)) = false := by simp
  go_wp2
  go_ret
  exact ⟨rfl, HB.out⟩
end Go.Proofs.Ytjcdinafghafcaa
