/-
  Walks of exact laws: the program and the reference agree. Written by a program (exact.py) over the contracts.
-/
import Derived.Test.YtjcdinafghafcaaWord
namespace Go.Proofs.Ytjcdinafghafcaa
open Go.RowKit

set_option maxHeartbeats 1000000 in
set_option linter.unusedVariables false in
theorem walk_FnExactWordDistance (w : World) (v0 : Value) (z0 : List Int) (ra0 : RowK .i64 w v0 z0) (hw0 : ∀ n ∈ z0, (Lit.int .i64 n).wf = true) (v1 : Value) (z1 : List Int) (ra1 : RowK .i64 w v1 z1) (hw1 : ∀ n ∈ z1, (Lit.int .i64 n).wf = true) :
    Calls Try.prog 5 #[v0, v1] w fun e w' => e = .returned (.bool true) ∧ Below w.heap.size w w' := by
  obtain ⟨aa0, cc0, rfl⟩ := ra0.form
  obtain ⟨aa1, cc1, rfl⟩ := ra1.form
  by_cases hlen0 : 1048576 < z0.length
  · go_enter Try.func5, Try.ntmps5
    go_wp2
    go_ret
    exact ⟨rfl, Below.refl _ _⟩
  by_cases hlen1 : 1048576 < z1.length
  · go_enter Try.func5, Try.ntmps5
    go_wp2
    go_ret
    exact ⟨rfl, Below.refl _ _⟩
  have HB : Hid (Below w.heap.size w w) := Below.refl _ _
  go_enter Try.func5, Try.ntmps5
  go_wp2_with fail
  refine (toIntS_r z0 _ _ (ra0.belowAll HB.out) (by omega)).mono ?_
  rintro e w1 ⟨r1, rfl, hown, hbel⟩
  have s1 : w.heap.size ≤ w1.heap.size := hbel.size
  have HB1 := Lib.hid (below_step HB.out hbel)
  have HE := Lib.hid hbel
  clear hbel
  clear HB HE
  have HB := HB1
  clear HB1
  have O2 := hown
  have lt3 := hown.lt
  clear hown
  go_wp2_with fail
  refine (toIntS_r z1 _ _ (ra1.belowAll HB.out) (by omega)).mono ?_
  rintro e w2 ⟨r5, rfl, hown, hbel⟩
  have s2 : w1.heap.size ≤ w2.heap.size := hbel.size
  have HB2 := Lib.hid (below_step HB.out hbel)
  have HE := Lib.hid hbel
  clear hbel
  have O6 := O2.belowAll HE.out
  clear O2
  clear HB HE
  have HB := HB2
  clear HB2
  have O7 := hown
  have lt8 := hown.lt
  clear hown
  go_wp2_with fail
  refine (specWordDistance_any z0 z1 _ _ _ (row_of_own O6) (row_of_own O7)).mono ?_
  rintro e w3 ⟨rfl, hq⟩
  have HQ := Lib.hid hq
  clear hq
  have s3 : w2.heap.size ≤ w3.heap.size := (HQ.out.below 0).size
  have HB3 := Lib.hid (below_quiet HB.out HQ.out)
  have O10 := O6.quiet HQ.out
  clear O6
  have O11 := O7.quiet HQ.out
  clear O7
  clear HB HQ
  have HB := HB3
  clear HB3
  go_wp2_with fail
  refine (toIntS_r z0 _ _ (ra0.belowAll HB.out) (by omega)).mono ?_
  rintro e w4 ⟨r12, rfl, hown, hbel⟩
  have s4 : w3.heap.size ≤ w4.heap.size := hbel.size
  have HB4 := Lib.hid (below_step HB.out hbel)
  have HE := Lib.hid hbel
  clear hbel
  have O13 := O10.belowAll HE.out
  clear O10
  have O14 := O11.belowAll HE.out
  clear O11
  clear HB HE
  have HB := HB4
  clear HB4
  have O15 := hown
  have lt16 := hown.lt
  clear hown
  go_wp2_with fail
  refine (toIntS_r z1 _ _ (ra1.belowAll HB.out) (by omega)).mono ?_
  rintro e w5 ⟨r18, rfl, hown, hbel⟩
  have s5 : w4.heap.size ≤ w5.heap.size := hbel.size
  have HB5 := Lib.hid (below_step HB.out hbel)
  have HE := Lib.hid hbel
  clear hbel
  have O19 := O13.belowAll HE.out
  clear O13
  have O20 := O14.belowAll HE.out
  clear O14
  have O21 := O15.belowAll HE.out
  clear O15
  clear HB HE
  have HB := HB5
  clear HB5
  have O22 := hown
  have lt23 := hown.lt
  clear hown
  go_wp2_with fail
  refine (WordDistance_any z0 z1 _ _ _ (row_of_own O21) (row_of_own O22)).mono ?_
  rintro e w6 ⟨rfl, hq⟩
  have HQ := Lib.hid hq
  clear hq
  have s6 : w5.heap.size ≤ w6.heap.size := (HQ.out.below 0).size
  have HB6 := Lib.hid (below_quiet HB.out HQ.out)
  have O25 := O19.quiet HQ.out
  clear O19
  have O26 := O20.quiet HQ.out
  clear O20
  have O27 := O21.quiet HQ.out
  clear O21
  have O28 := O22.quiet HQ.out
  clear O22
  clear HB HQ
  have HB := HB6
  clear HB6
  have hb1 : (((wordD z0 z1) : Int) != (wordD z0 z1)) = false := by simp
  go_wp2_with fail
  refine (toIntS_r z0 _ _ (ra0.belowAll HB.out) (by omega)).mono ?_
  rintro e w7 ⟨r29, rfl, hown, hbel⟩
  have s7 : w6.heap.size ≤ w7.heap.size := hbel.size
  have HB7 := Lib.hid (below_step HB.out hbel)
  have HE := Lib.hid hbel
  clear hbel
  have O30 := O25.belowAll HE.out
  clear O25
  have O31 := O26.belowAll HE.out
  clear O26
  have O32 := O27.belowAll HE.out
  clear O27
  have O33 := O28.belowAll HE.out
  clear O28
  clear HB HE
  have HB := HB7
  clear HB7
  have O34 := hown
  have lt35 := hown.lt
  clear hown
  go_wp2_with fail
  refine (eqIntS_any z0 z0 _ _ _ (row_of_own O32) (row_of_own O34)).mono ?_
  rintro e w8 ⟨rfl, hq⟩
  have HQ := Lib.hid hq
  clear hq
  have s8 : w7.heap.size ≤ w8.heap.size := (HQ.out.below 0).size
  have HB8 := Lib.hid (below_quiet HB.out HQ.out)
  have O37 := O30.quiet HQ.out
  clear O30
  have O38 := O31.quiet HQ.out
  clear O31
  have O39 := O32.quiet HQ.out
  clear O32
  have O40 := O33.quiet HQ.out
  clear O33
  have O41 := O34.quiet HQ.out
  clear O34
  clear HB HQ
  have HB := HB8
  clear HB8
  have hb2 : (z0 == z0) = true := by simp
  go_wp2_with fail
  refine (toIntS_r z1 _ _ (ra1.belowAll HB.out) (by omega)).mono ?_
  rintro e w9 ⟨r42, rfl, hown, hbel⟩
  have s9 : w8.heap.size ≤ w9.heap.size := hbel.size
  have HB9 := Lib.hid (below_step HB.out hbel)
  have HE := Lib.hid hbel
  clear hbel
  have O43 := O37.belowAll HE.out
  clear O37
  have O44 := O38.belowAll HE.out
  clear O38
  have O45 := O39.belowAll HE.out
  clear O39
  have O46 := O40.belowAll HE.out
  clear O40
  have O47 := O41.belowAll HE.out
  clear O41
  clear HB HE
  have HB := HB9
  clear HB9
  have O48 := hown
  have lt49 := hown.lt
  clear hown
  go_wp2_with fail
  refine (eqIntS_any z1 z1 _ _ _ (row_of_own O46) (row_of_own O48)).mono ?_
  rintro e w10 ⟨rfl, hq⟩
  have HQ := Lib.hid hq
  clear hq
  have s10 : w9.heap.size ≤ w10.heap.size := (HQ.out.below 0).size
  have HB10 := Lib.hid (below_quiet HB.out HQ.out)
  have O51 := O43.quiet HQ.out
  clear O43
  have O52 := O44.quiet HQ.out
  clear O44
  have O53 := O45.quiet HQ.out
  clear O45
  have O54 := O46.quiet HQ.out
  clear O46
  have O55 := O47.quiet HQ.out
  clear O47
  have O56 := O48.quiet HQ.out
  clear O48
  clear HB HQ
  have HB := HB10
  clear HB10
  have hb3 : (z1 == z1) = true := by simp
  go_wp2
  go_ret
  exact ⟨rfl, HB.out⟩
end Go.Proofs.Ytjcdinafghafcaa
