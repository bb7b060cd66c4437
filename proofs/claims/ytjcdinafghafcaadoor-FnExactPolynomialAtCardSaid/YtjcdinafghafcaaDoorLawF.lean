/-
  Walks of the exact laws of the field: the program and the reference agree. Written by a program (exact.py) over the contracts.
-/
import Derived.Test.YtjcdinafghafcaaDoorField2
namespace Go.Proofs.YtjcdinafghafcaaDoor
open Go.RowKit

set_option maxHeartbeats 1000000 in
set_option linter.unusedVariables false in
theorem walk_FnExactFieldMul (w : World) (hT : Tabs w) (a0 : Int) (wa0 : (Lit.int .i64 a0).wf = true) (a1 : Int) (wa1 : (Lit.int .i64 a1).wf = true) :
    Calls Tryd.prog 4 #[.int .i64 a0, .int .i64 a1] w fun e w' => e = .returned (.bool true) ∧ Below w.heap.size w w' := by
  have HB : Hid (Below w.heap.size w w) := Below.refl _ _
  go_enter Tryd.func4, Tryd.ntmps4
  go_wp2_with fail
  refine (specFieldMul_any a0 a1 _).mono ?_
  rintro e w1 ⟨rfl, rfl⟩
  go_wp2_with fail
  refine (FieldMul_any a0 a1 _ (hT.below HB.out)).mono ?_
  rintro e w1 ⟨rfl, hq⟩
  have HQ := Lib.hid hq
  clear hq
  have s1 : w.heap.size ≤ w1.heap.size := (HQ.out.below 0).size
  have HB1 := Lib.hid (below_quiet HB.out HQ.out)
  clear HB HQ
  have HB := HB1
  clear HB1
  have hb1 : (((fMul a0 a1) : Int) != (fMul a0 a1)) = false := by simp
  go_wp2
  go_ret
  exact ⟨rfl, HB.out⟩
set_option maxHeartbeats 1000000 in
set_option linter.unusedVariables false in
theorem walk_FnExactFieldInverse (w : World) (hT : Tabs w) (a0 : Int) (wa0 : (Lit.int .i64 a0).wf = true) :
    Calls Tryd.prog 3 #[.int .i64 a0] w fun e w' => e = .returned (.bool true) ∧ Below w.heap.size w w' := by
  have HB : Hid (Below w.heap.size w w) := Below.refl _ _
  go_enter Tryd.func3, Tryd.ntmps3
  go_wp2_with fail
  refine (specFieldInverse_any a0 _).mono ?_
  rintro e w1 ⟨rfl, rfl⟩
  go_wp2_with fail
  refine (FieldInverse_any a0 _ (hT.below HB.out)).mono ?_
  rintro e w1 ⟨rfl, hq⟩
  have HQ := Lib.hid hq
  clear hq
  have s1 : w.heap.size ≤ w1.heap.size := (HQ.out.below 0).size
  have HB1 := Lib.hid (below_quiet HB.out HQ.out)
  clear HB HQ
  have HB := HB1
  clear HB1
  have hb1 : (((fInv a0) : Int) != (fInv a0)) = false := by simp
  go_wp2
  go_ret
  exact ⟨rfl, HB.out⟩
set_option maxHeartbeats 1000000 in
set_option linter.unusedVariables false in
theorem walk_FnExactFieldPower (w : World) (hT : Tabs w) (a0 : Int) (wa0 : (Lit.int .i64 a0).wf = true) (a1 : Int) (wa1 : (Lit.int .i64 a1).wf = true) :
    Calls Tryd.prog 5 #[.int .i64 a0, .int .i64 a1] w fun e w' => e = .returned (.bool true) ∧ Below w.heap.size w w' := by
  have HB : Hid (Below w.heap.size w w) := Below.refl _ _
  go_enter Tryd.func5, Tryd.ntmps5
  go_wp2_with fail
  refine (specFieldPower_any a0 a1 _).mono ?_
  rintro e w1 ⟨rfl, rfl⟩
  go_wp2_with fail
  refine (FieldPower_any a0 a1 _ (hT.below HB.out)).mono ?_
  rintro e w1 ⟨rfl, hq⟩
  have HQ := Lib.hid hq
  clear hq
  have s1 : w.heap.size ≤ w1.heap.size := (HQ.out.below 0).size
  have HB1 := Lib.hid (below_quiet HB.out HQ.out)
  clear HB HQ
  have HB := HB1
  clear HB1
  have hb1 : (((fPow a0 a1) : Int) != (fPow a0 a1)) = false := by simp
  go_wp2
  go_ret
  exact ⟨rfl, HB.out⟩
set_option maxHeartbeats 1000000 in
set_option linter.unusedVariables false in
theorem walk_FnExactPolynomialAt (w : World) (hT : Tabs w) (v0 : Value) (z0 : List Int) (ra0 : RowK .i64 w v0 z0) (hw0 : ∀ n ∈ z0, (Lit.int .i64 n).wf = true) (a1 : Int) (wa1 : (Lit.int .i64 a1).wf = true) :
    Calls Tryd.prog 7 #[v0, .int .i64 a1] w fun e w' => e = .returned (.bool true) ∧ Below w.heap.size w w' := by
  obtain ⟨aa0, cc0, rfl⟩ := ra0.form
  by_cases hlen0 : 1048576 < z0.length
  · go_enter Tryd.func7, Tryd.ntmps7
    go_wp2
    go_ret
    exact ⟨rfl, Below.refl _ _⟩
  have HB : Hid (Below w.heap.size w w) := Below.refl _ _
  go_enter Tryd.func7, Tryd.ntmps7
  go_wp2_with fail
  refine (toIntS_r z0 _ _ (ra0.belowAll HB.out) (by omega)).mono ?_
  rintro e w1 ⟨r1, rfl, hown, hbel⟩
  have s1 : w.heap.size ≤ w1.heap.size := hbel.size
  have HB1 := Lib.hid (below_step HB.out hbel)
  have HE := Lib.hid hbel
  clear hbel
  clear HB HE
  have HB := HB1
  clear HB1
  have O2 := hown
  have lt3 := hown.lt
  clear hown
  go_wp2_with fail
  refine (specPolynomialAt_any z0 a1 _ _ (row_of_own O2)).mono ?_
  rintro e w2 ⟨rfl, hq⟩
  have HQ := Lib.hid hq
  clear hq
  have s2 : w1.heap.size ≤ w2.heap.size := (HQ.out.below 0).size
  have HB2 := Lib.hid (below_quiet HB.out HQ.out)
  have O5 := O2.quiet HQ.out
  clear O2
  clear HB HQ
  have HB := HB2
  clear HB2
  go_wp2_with fail
  refine (toIntS_r z0 _ _ (ra0.belowAll HB.out) (by omega)).mono ?_
  rintro e w3 ⟨r6, rfl, hown, hbel⟩
  have s3 : w2.heap.size ≤ w3.heap.size := hbel.size
  have HB3 := Lib.hid (below_step HB.out hbel)
  have HE := Lib.hid hbel
  clear hbel
  have O7 := O5.belowAll HE.out
  clear O5
  clear HB HE
  have HB := HB3
  clear HB3
  have O8 := hown
  have lt9 := hown.lt
  clear hown
  go_wp2_with fail
  refine (PolynomialAt_any z0 a1 _ _ (hT.below HB.out) (row_of_own O8)).mono ?_
  rintro e w4 ⟨rfl, hq⟩
  have HQ := Lib.hid hq
  clear hq
  have s4 : w3.heap.size ≤ w4.heap.size := (HQ.out.below 0).size
  have HB4 := Lib.hid (below_quiet HB.out HQ.out)
  have O11 := O7.quiet HQ.out
  clear O7
  have O12 := O8.quiet HQ.out
  clear O8
  clear HB HQ
  have HB := HB4
  clear HB4
  have hb1 : (((fPoly z0 a1) : Int) != (fPoly z0 a1)) = false := by simp
  go_wp2_with fail
  refine (toIntS_r z0 _ _ (ra0.belowAll HB.out) (by omega)).mono ?_
  rintro e w5 ⟨r13, rfl, hown, hbel⟩
  have s5 : w4.heap.size ≤ w5.heap.size := hbel.size
  have HB5 := Lib.hid (below_step HB.out hbel)
  have HE := Lib.hid hbel
  clear hbel
  have O14 := O11.belowAll HE.out
  clear O11
  have O15 := O12.belowAll HE.out
  clear O12
  clear HB HE
  have HB := HB5
  clear HB5
  have O16 := hown
  have lt17 := hown.lt
  clear hown
  go_wp2_with fail
  refine (eqIntS_any z0 z0 _ _ _ (row_of_own O15) (row_of_own O16)).mono ?_
  rintro e w6 ⟨rfl, hq⟩
  have HQ := Lib.hid hq
  clear hq
  have s6 : w5.heap.size ≤ w6.heap.size := (HQ.out.below 0).size
  have HB6 := Lib.hid (below_quiet HB.out HQ.out)
  have O19 := O14.quiet HQ.out
  clear O14
  have O20 := O15.quiet HQ.out
  clear O15
  have O21 := O16.quiet HQ.out
  clear O16
  clear HB HQ
  have HB := HB6
  clear HB6
  have hb2 : (z0 == z0) = true := by simp
  go_wp2
  go_ret
  exact ⟨rfl, HB.out⟩
end Go.Proofs.YtjcdinafghafcaaDoor
