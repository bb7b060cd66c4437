/-
  Walks of exact laws: the program and the reference agree. Written by a program (exact.py) over the contracts.
-/
import Derived.Test.YthljgookoboieaaSyn
namespace Go.Proofs.Ythljgookoboieaa
open Go.RowKit

set_option maxHeartbeats 1000000 in
set_option linter.unusedVariables false in
theorem walk_FnExactSyndromeOf (w : World) (v0 : Value) (z0 : List Int) (ra0 : RowK .i64 w v0 z0) (hw0 : ∀ n ∈ z0, (Lit.int .i64 n).wf = true) :
    Calls Try.prog 3 #[v0] w fun e w' => e = .returned (.bool true) ∧ Below w.heap.size w w' := by
  obtain ⟨aa0, cc0, rfl⟩ := ra0.form
  by_cases hlen0 : 1048576 < z0.length
  · go_enter Try.func3, Try.ntmps3
    go_wp2
    go_ret
    exact ⟨rfl, Below.refl _ _⟩
  have HB : Hid (Below w.heap.size w w) := Below.refl _ _
  go_enter Try.func3, Try.ntmps3
  go_wp2_with fail
  refine (toIntS_r z0 _ _ (ra0.belowAll HB.out) (by omega)).mono ?_
  rintro e w1 ⟨r1, rfl, hown, hbel⟩
  have s1 : w.heap.size ≤ w1.heap.size := hbel.size
  have HB1 := Lib.hid (below_step HB.out hbel)
  have HE := Lib.hid hbel
  clear hbel
  clear HB HE
  have HB := HB1
  clear HB1
  have O2 := hown
  have lt3 := hown.lt
  clear hown
  go_wp2_with fail
  refine (specSyndromeOf_any z0 _ _ (row_of_own O2)).mono ?_
  rintro e w2 ⟨rfl, rfl⟩
  go_wp2_with fail
  refine (toIntS_r z0 _ _ (ra0.belowAll HB.out) (by omega)).mono ?_
  rintro e w2 ⟨r5, rfl, hown, hbel⟩
  have s2 : w1.heap.size ≤ w2.heap.size := hbel.size
  have HB2 := Lib.hid (below_step HB.out hbel)
  have HE := Lib.hid hbel
  clear hbel
  have O6 := O2.belowAll HE.out
  clear O2
  clear HB HE
  have HB := HB2
  clear HB2
  have O7 := hown
  have lt8 := hown.lt
  clear hown
  go_wp2_with fail
  refine (SyndromeOf_any z0 _ _ (row_of_own O7)).mono ?_
  rintro e w3 ⟨rfl, rfl⟩
  have hb1 : (((synI z0) : Int) != (synI z0)) = false := by simp
  go_wp2_with fail
  refine (toIntS_r z0 _ _ (ra0.belowAll HB.out) (by omega)).mono ?_
  rintro e w3 ⟨r10, rfl, hown, hbel⟩
  have s3 : w2.heap.size ≤ w3.heap.size := hbel.size
  have HB3 := Lib.hid (below_step HB.out hbel)
  have HE := Lib.hid hbel
  clear hbel
  have O11 := O6.belowAll HE.out
  clear O6
  have O12 := O7.belowAll HE.out
  clear O7
  clear HB HE
  have HB := HB3
  clear HB3
  have O13 := hown
  have lt14 := hown.lt
  clear hown
  go_wp2_with fail
  refine (eqIntS_any z0 z0 _ _ _ (row_of_own O12) (row_of_own O13)).mono ?_
  rintro e w4 ⟨rfl, hq⟩
  have HQ := Lib.hid hq
  clear hq
  have s4 : w3.heap.size ≤ w4.heap.size := (HQ.out.below 0).size
  have HB4 := Lib.hid (below_quiet HB.out HQ.out)
  have O16 := O11.quiet HQ.out
  clear O11
  have O17 := O12.quiet HQ.out
  clear O12
  have O18 := O13.quiet HQ.out
  clear O13
  clear HB HQ
  have HB := HB4
  clear HB4
  have hb2 : (z0 == z0) = true := by simp
  go_wp2
  go_ret
  exact ⟨rfl, HB.out⟩
end Go.Proofs.Ythljgookoboieaa
