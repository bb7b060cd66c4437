/-
  Walks of the exact laws over lists of bits: the program and the reference agree, arguments and results stay apart. Written by a program (exact.py) over the contracts.
-/
import Derived.Test.YtjlocicelnndhaaDraw2
namespace Go.Proofs.Ytjlocicelnndhaa
open Go.RowKit

set_option maxHeartbeats 1000000 in
set_option linter.unusedVariables false in
theorem walk_FnExactBitsValid (w : World) (v0 : Value) (z0 : List Int) (ra0 : RowK .i64 w v0 z0) (hw0 : ∀ n ∈ z0, (Lit.int .i64 n).wf = true) :
    Calls Try.prog 3 #[v0] w fun e w' => e = .returned (.bool true) ∧ Below w.heap.size w w' := by
  obtain ⟨aa0, cc0, rfl⟩ := ra0.form
  by_cases hlen0 : 1048576 < z0.length
  · go_enter Try.func3, Try.ntmps3
    go_wp2
    go_ret
    exact ⟨rfl, Below.refl _ _⟩
  have HB : Hid (Below w.heap.size w w) := Below.refl _ _
  go_enter Try.func3, Try.ntmps3
  go_wp2_with fail
  refine (toIntS_r z0 _ _ (ra0.belowAll HB.out) (by omega)).mono ?_
  rintro e w1 ⟨r1, rfl, hown, hbel⟩
  have s1 : w.heap.size ≤ w1.heap.size := hbel.size
  have HB1 := Lib.hid (below_step HB.out hbel)
  have HE := Lib.hid hbel
  clear hbel
  clear HB HE
  have HB := HB1
  clear HB1
  have O2 := hown
  have lt3 := hown.lt
  clear hown
  go_wp2_with fail
  refine (specBitsValid_any z0 _ _ (row_of_own O2)).mono ?_
  rintro e w2 ⟨rfl, rfl⟩
  go_wp2_with fail
  refine (toIntS_r z0 _ _ (ra0.belowAll HB.out) (by omega)).mono ?_
  rintro e w2 ⟨r5, rfl, hown, hbel⟩
  have s2 : w1.heap.size ≤ w2.heap.size := hbel.size
  have HB2 := Lib.hid (below_step HB.out hbel)
  have HE := Lib.hid hbel
  clear hbel
  have O6 := O2.belowAll HE.out
  clear O2
  clear HB HE
  have HB := HB2
  clear HB2
  have O7 := hown
  have lt8 := hown.lt
  clear hown
  go_wp2_with fail
  refine (BitsValid_any z0 _ _ (row_of_own O7)).mono ?_
  rintro e w3 ⟨rfl, rfl⟩
  have hb1 : (((validB z0) : Bool) != (validB z0)) = false := by simp
  go_wp2_with fail
  refine (toIntS_r z0 _ _ (ra0.belowAll HB.out) (by omega)).mono ?_
  rintro e w3 ⟨r10, rfl, hown, hbel⟩
  have s3 : w2.heap.size ≤ w3.heap.size := hbel.size
  have HB3 := Lib.hid (below_step HB.out hbel)
  have HE := Lib.hid hbel
  clear hbel
  have O11 := O6.belowAll HE.out
  clear O6
  have O12 := O7.belowAll HE.out
  clear O7
  clear HB HE
  have HB := HB3
  clear HB3
  have O13 := hown
  have lt14 := hown.lt
  clear hown
  go_wp2_with fail
  refine (eqIntS_any z0 z0 _ _ _ (row_of_own O12) (row_of_own O13)).mono ?_
  rintro e w4 ⟨rfl, hq⟩
  have HQ := Lib.hid hq
  clear hq
  have s4 : w3.heap.size ≤ w4.heap.size := (HQ.out.below 0).size
  have HB4 := Lib.hid (below_quiet HB.out HQ.out)
  have O16 := O11.quiet HQ.out
  clear O11
  have O17 := O12.quiet HQ.out
  clear O12
  have O18 := O13.quiet HQ.out
  clear O13
  clear HB HQ
  have HB := HB4
  clear HB4
  have hb2 : (z0 == z0) = true := by simp
  go_wp2
  go_ret
  exact ⟨rfl, HB.out⟩
set_option maxHeartbeats 1000000 in
set_option linter.unusedVariables false in
theorem walk_FnExactHammingDistance (w : World) (v0 : Value) (z0 : List Int) (ra0 : RowK .i64 w v0 z0) (hw0 : ∀ n ∈ z0, (Lit.int .i64 n).wf = true) (v1 : Value) (z1 : List Int) (ra1 : RowK .i64 w v1 z1) (hw1 : ∀ n ∈ z1, (Lit.int .i64 n).wf = true) :
    Calls Try.prog 4 #[v0, v1] w fun e w' => e = .returned (.bool true) ∧ Below w.heap.size w w' := by
  obtain ⟨aa0, cc0, rfl⟩ := ra0.form
  obtain ⟨aa1, cc1, rfl⟩ := ra1.form
  by_cases hlen0 : 1048576 < z0.length
  · go_enter Try.func4, Try.ntmps4
    go_wp2
    go_ret
    exact ⟨rfl, Below.refl _ _⟩
  by_cases hlen1 : 1048576 < z1.length
  · go_enter Try.func4, Try.ntmps4
    go_wp2
    go_ret
    exact ⟨rfl, Below.refl _ _⟩
  have HB : Hid (Below w.heap.size w w) := Below.refl _ _
  go_enter Try.func4, Try.ntmps4
  go_wp2_with fail
  refine (toIntS_r z0 _ _ (ra0.belowAll HB.out) (by omega)).mono ?_
  rintro e w1 ⟨r1, rfl, hown, hbel⟩
  have s1 : w.heap.size ≤ w1.heap.size := hbel.size
  have HB1 := Lib.hid (below_step HB.out hbel)
  have HE := Lib.hid hbel
  clear hbel
  clear HB HE
  have HB := HB1
  clear HB1
  have O2 := hown
  have lt3 := hown.lt
  clear hown
  go_wp2_with fail
  refine (toIntS_r z1 _ _ (ra1.belowAll HB.out) (by omega)).mono ?_
  rintro e w2 ⟨r5, rfl, hown, hbel⟩
  have s2 : w1.heap.size ≤ w2.heap.size := hbel.size
  have HB2 := Lib.hid (below_step HB.out hbel)
  have HE := Lib.hid hbel
  clear hbel
  have O6 := O2.belowAll HE.out
  clear O2
  clear HB HE
  have HB := HB2
  clear HB2
  have O7 := hown
  have lt8 := hown.lt
  clear hown
  go_wp2_with fail
  refine (specHammingDistance_any z0 z1 _ _ _ (row_of_own O6) (row_of_own O7)).mono ?_
  rintro e w3 ⟨rfl, hq⟩
  have HQ := Lib.hid hq
  clear hq
  have s3 : w2.heap.size ≤ w3.heap.size := (HQ.out.below 0).size
  have HB3 := Lib.hid (below_quiet HB.out HQ.out)
  have O10 := O6.quiet HQ.out
  clear O6
  have O11 := O7.quiet HQ.out
  clear O7
  clear HB HQ
  have HB := HB3
  clear HB3
  go_wp2_with fail
  refine (toIntS_r z0 _ _ (ra0.belowAll HB.out) (by omega)).mono ?_
  rintro e w4 ⟨r12, rfl, hown, hbel⟩
  have s4 : w3.heap.size ≤ w4.heap.size := hbel.size
  have HB4 := Lib.hid (below_step HB.out hbel)
  have HE := Lib.hid hbel
  clear hbel
  have O13 := O10.belowAll HE.out
  clear O10
  have O14 := O11.belowAll HE.out
  clear O11
  clear HB HE
  have HB := HB4
  clear HB4
  have O15 := hown
  have lt16 := hown.lt
  clear hown
  go_wp2_with fail
  refine (toIntS_r z1 _ _ (ra1.belowAll HB.out) (by omega)).mono ?_
  rintro e w5 ⟨r18, rfl, hown, hbel⟩
  have s5 : w4.heap.size ≤ w5.heap.size := hbel.size
  have HB5 := Lib.hid (below_step HB.out hbel)
  have HE := Lib.hid hbel
  clear hbel
  have O19 := O13.belowAll HE.out
  clear O13
  have O20 := O14.belowAll HE.out
  clear O14
  have O21 := O15.belowAll HE.out
  clear O15
  clear HB HE
  have HB := HB5
  clear HB5
  have O22 := hown
  have lt23 := hown.lt
  clear hown
  go_wp2_with fail
  refine (HammingDistance_any z0 z1 _ _ _ (row_of_own O21) (row_of_own O22)).mono ?_
  rintro e w6 ⟨rfl, hq⟩
  have HQ := Lib.hid hq
  clear hq
  have s6 : w5.heap.size ≤ w6.heap.size := (HQ.out.below 0).size
  have HB6 := Lib.hid (below_quiet HB.out HQ.out)
  have O25 := O19.quiet HQ.out
  clear O19
  have O26 := O20.quiet HQ.out
  clear O20
  have O27 := O21.quiet HQ.out
  clear O21
  have O28 := O22.quiet HQ.out
  clear O22
  clear HB HQ
  have HB := HB6
  clear HB6
  have hb1 : (((hamD z0 z1) : Int) != (hamD z0 z1)) = false := by simp
  go_wp2_with fail
  refine (toIntS_r z0 _ _ (ra0.belowAll HB.out) (by omega)).mono ?_
  rintro e w7 ⟨r29, rfl, hown, hbel⟩
  have s7 : w6.heap.size ≤ w7.heap.size := hbel.size
  have HB7 := Lib.hid (below_step HB.out hbel)
  have HE := Lib.hid hbel
  clear hbel
  have O30 := O25.belowAll HE.out
  clear O25
  have O31 := O26.belowAll HE.out
  clear O26
  have O32 := O27.belowAll HE.out
  clear O27
  have O33 := O28.belowAll HE.out
  clear O28
  clear HB HE
  have HB := HB7
  clear HB7
  have O34 := hown
  have lt35 := hown.lt
  clear hown
  go_wp2_with fail
  refine (eqIntS_any z0 z0 _ _ _ (row_of_own O32) (row_of_own O34)).mono ?_
  rintro e w8 ⟨rfl, hq⟩
  have HQ := Lib.hid hq
  clear hq
  have s8 : w7.heap.size ≤ w8.heap.size := (HQ.out.below 0).size
  have HB8 := Lib.hid (below_quiet HB.out HQ.out)
  have O37 := O30.quiet HQ.out
  clear O30
  have O38 := O31.quiet HQ.out
  clear O31
  have O39 := O32.quiet HQ.out
  clear O32
  have O40 := O33.quiet HQ.out
  clear O33
  have O41 := O34.quiet HQ.out
  clear O34
  clear HB HQ
  have HB := HB8
  clear HB8
  have hb2 : (z0 == z0) = true := by simp
  go_wp2_with fail
  refine (toIntS_r z1 _ _ (ra1.belowAll HB.out) (by omega)).mono ?_
  rintro e w9 ⟨r42, rfl, hown, hbel⟩
  have s9 : w8.heap.size ≤ w9.heap.size := hbel.size
  have HB9 := Lib.hid (below_step HB.out hbel)
  have HE := Lib.hid hbel
  clear hbel
  have O43 := O37.belowAll HE.out
  clear O37
  have O44 := O38.belowAll HE.out
  clear O38
  have O45 := O39.belowAll HE.out
  clear O39
  have O46 := O40.belowAll HE.out
  clear O40
  have O47 := O41.belowAll HE.out
  clear O41
  clear HB HE
  have HB := HB9
  clear HB9
  have O48 := hown
  have lt49 := hown.lt
  clear hown
  go_wp2_with fail
  refine (eqIntS_any z1 z1 _ _ _ (row_of_own O46) (row_of_own O48)).mono ?_
  rintro e w10 ⟨rfl, hq⟩
  have HQ := Lib.hid hq
  clear hq
  have s10 : w9.heap.size ≤ w10.heap.size := (HQ.out.below 0).size
  have HB10 := Lib.hid (below_quiet HB.out HQ.out)
  have O51 := O43.quiet HQ.out
  clear O43
  have O52 := O44.quiet HQ.out
  clear O44
  have O53 := O45.quiet HQ.out
  clear O45
  have O54 := O46.quiet HQ.out
  clear O46
  have O55 := O47.quiet HQ.out
  clear O47
  have O56 := O48.quiet HQ.out
  clear O48
  clear HB HQ
  have HB := HB10
  clear HB10
  have hb3 : (z1 == z1) = true := by simp
  go_wp2
  go_ret
  exact ⟨rfl, HB.out⟩
set_option maxHeartbeats 1000000 in
set_option linter.unusedVariables false in
theorem walk_FnExactAddBits (w : World) (v0 : Value) (z0 : List Int) (ra0 : RowK .i64 w v0 z0) (hw0 : ∀ n ∈ z0, (Lit.int .i64 n).wf = true) (v1 : Value) (z1 : List Int) (ra1 : RowK .i64 w v1 z1) (hw1 : ∀ n ∈ z1, (Lit.int .i64 n).wf = true) :
    Calls Try.prog 6 #[v0, v1] w fun e w' => e = .returned (.bool true) ∧ Below w.heap.size w w' := by
  obtain ⟨aa0, cc0, rfl⟩ := ra0.form
  obtain ⟨aa1, cc1, rfl⟩ := ra1.form
  by_cases hlen0 : 1048576 < z0.length
  · go_enter Try.func6, Try.ntmps6
    go_wp2
    go_ret
    exact ⟨rfl, Below.refl _ _⟩
  by_cases hlen1 : 1048576 < z1.length
  · go_enter Try.func6, Try.ntmps6
    go_wp2
    go_ret
    exact ⟨rfl, Below.refl _ _⟩
  have HB : Hid (Below w.heap.size w w) := Below.refl _ _
  go_enter Try.func6, Try.ntmps6
  go_wp2_with fail
  refine (toIntS_r z0 _ _ (ra0.belowAll HB.out) (by omega)).mono ?_
  rintro e w1 ⟨r1, rfl, hown, hbel⟩
  have s1 : w.heap.size ≤ w1.heap.size := hbel.size
  have HB1 := Lib.hid (below_step HB.out hbel)
  have HE := Lib.hid hbel
  clear hbel
  clear HB HE
  have HB := HB1
  clear HB1
  have O2 := hown
  have lt3 := hown.lt
  clear hown
  go_wp2_with fail
  refine (toIntS_r z1 _ _ (ra1.belowAll HB.out) (by omega)).mono ?_
  rintro e w2 ⟨r5, rfl, hown, hbel⟩
  have s2 : w1.heap.size ≤ w2.heap.size := hbel.size
  have HB2 := Lib.hid (below_step HB.out hbel)
  have HE := Lib.hid hbel
  clear hbel
  have O6 := O2.belowAll HE.out
  clear O2
  clear HB HE
  have HB := HB2
  clear HB2
  have O7 := hown
  have lt8 := hown.lt
  clear hown
  go_wp2_with fail
  refine (specAddBits_any z0 z1 _ _ _ (row_of_own O6) (row_of_own O7)).mono ?_
  rintro e w3 ⟨r10, rfl, hown, hbel⟩
  have s3 : w2.heap.size ≤ w3.heap.size := hbel.size
  have HB3 := Lib.hid (below_step HB.out hbel)
  have HE := Lib.hid hbel
  clear hbel
  have O11 := O6.belowAll HE.out
  clear O6
  have O12 := O7.belowAll HE.out
  clear O7
  clear HB HE
  have HB := HB3
  clear HB3
  have O13 := hown
  have lt14 := hown.lt
  clear hown
  go_wp2_with fail
  refine (toIntS_r z0 _ _ (ra0.belowAll HB.out) (by omega)).mono ?_
  rintro e w4 ⟨r16, rfl, hown, hbel⟩
  have s4 : w3.heap.size ≤ w4.heap.size := hbel.size
  have HB4 := Lib.hid (below_step HB.out hbel)
  have HE := Lib.hid hbel
  clear hbel
  have O17 := O11.belowAll HE.out
  clear O11
  have O18 := O12.belowAll HE.out
  clear O12
  have O19 := O13.belowAll HE.out
  clear O13
  clear HB HE
  have HB := HB4
  clear HB4
  have O20 := hown
  have lt21 := hown.lt
  clear hown
  go_wp2_with fail
  refine (toIntS_r z1 _ _ (ra1.belowAll HB.out) (by omega)).mono ?_
  rintro e w5 ⟨r23, rfl, hown, hbel⟩
  have s5 : w4.heap.size ≤ w5.heap.size := hbel.size
  have HB5 := Lib.hid (below_step HB.out hbel)
  have HE := Lib.hid hbel
  clear hbel
  have O24 := O17.belowAll HE.out
  clear O17
  have O25 := O18.belowAll HE.out
  clear O18
  have O26 := O19.belowAll HE.out
  clear O19
  have O27 := O20.belowAll HE.out
  clear O20
  clear HB HE
  have HB := HB5
  clear HB5
  have O28 := hown
  have lt29 := hown.lt
  clear hown
  go_wp2_with fail
  refine (AddBits_any z0 z1 _ _ _ (row_of_own O27) (row_of_own O28)).mono ?_
  rintro e w6 ⟨r31, rfl, hown, hbel⟩
  have s6 : w5.heap.size ≤ w6.heap.size := hbel.size
  have HB6 := Lib.hid (below_step HB.out hbel)
  have HE := Lib.hid hbel
  clear hbel
  have O32 := O24.belowAll HE.out
  clear O24
  have O33 := O25.belowAll HE.out
  clear O25
  have O34 := O26.belowAll HE.out
  clear O26
  have O35 := O27.belowAll HE.out
  clear O27
  have O36 := O28.belowAll HE.out
  clear O28
  clear HB HE
  have HB := HB6
  clear HB6
  have O37 := hown
  have lt38 := hown.lt
  clear hown
  go_wp2_with fail
  refine (eqIntS_any (addL z0 z1) (addL z0 z1) _ _ _ (row_of_own O37) (row_of_own O34)).mono ?_
  rintro e w7 ⟨rfl, hq⟩
  have HQ := Lib.hid hq
  clear hq
  have s7 : w6.heap.size ≤ w7.heap.size := (HQ.out.below 0).size
  have HB7 := Lib.hid (below_quiet HB.out HQ.out)
  have O40 := O32.quiet HQ.out
  clear O32
  have O41 := O33.quiet HQ.out
  clear O33
  have O42 := O34.quiet HQ.out
  clear O34
  have O43 := O35.quiet HQ.out
  clear O35
  have O44 := O36.quiet HQ.out
  clear O36
  have O45 := O37.quiet HQ.out
  clear O37
  clear HB HQ
  have HB := HB7
  clear HB7
  have hb1 : ((addL z0 z1) == (addL z0 z1)) = true := by simp
  go_wp2_with fail
  refine (toIntS_r z0 _ _ (ra0.belowAll HB.out) (by omega)).mono ?_
  rintro e w8 ⟨r46, rfl, hown, hbel⟩
  have s8 : w7.heap.size ≤ w8.heap.size := hbel.size
  have HB8 := Lib.hid (below_step HB.out hbel)
  have HE := Lib.hid hbel
  clear hbel
  have O47 := O40.belowAll HE.out
  clear O40
  have O48 := O41.belowAll HE.out
  clear O41
  have O49 := O42.belowAll HE.out
  clear O42
  have O50 := O43.belowAll HE.out
  clear O43
  have O51 := O44.belowAll HE.out
  clear O44
  have O52 := O45.belowAll HE.out
  clear O45
  clear HB HE
  have HB := HB8
  clear HB8
  have O53 := hown
  have lt54 := hown.lt
  clear hown
  go_wp2_with fail
  refine (eqIntS_any z0 z0 _ _ _ (row_of_own O50) (row_of_own O53)).mono ?_
  rintro e w9 ⟨rfl, hq⟩
  have HQ := Lib.hid hq
  clear hq
  have s9 : w8.heap.size ≤ w9.heap.size := (HQ.out.below 0).size
  have HB9 := Lib.hid (below_quiet HB.out HQ.out)
  have O56 := O47.quiet HQ.out
  clear O47
  have O57 := O48.quiet HQ.out
  clear O48
  have O58 := O49.quiet HQ.out
  clear O49
  have O59 := O50.quiet HQ.out
  clear O50
  have O60 := O51.quiet HQ.out
  clear O51
  have O61 := O52.quiet HQ.out
  clear O52
  have O62 := O53.quiet HQ.out
  clear O53
  clear HB HQ
  have HB := HB9
  clear HB9
  have hb2 : (z0 == z0) = true := by simp
  go_wp2_with fail
  refine (toIntS_r z1 _ _ (ra1.belowAll HB.out) (by omega)).mono ?_
  rintro e w10 ⟨r63, rfl, hown, hbel⟩
  have s10 : w9.heap.size ≤ w10.heap.size := hbel.size
  have HB10 := Lib.hid (below_step HB.out hbel)
  have HE := Lib.hid hbel
  clear hbel
  have O64 := O56.belowAll HE.out
  clear O56
  have O65 := O57.belowAll HE.out
  clear O57
  have O66 := O58.belowAll HE.out
  clear O58
  have O67 := O59.belowAll HE.out
  clear O59
  have O68 := O60.belowAll HE.out
  clear O60
  have O69 := O61.belowAll HE.out
  clear O61
  have O70 := O62.belowAll HE.out
  clear O62
  clear HB HE
  have HB := HB10
  clear HB10
  have O71 := hown
  have lt72 := hown.lt
  clear hown
  go_wp2_with fail
  refine (eqIntS_any z1 z1 _ _ _ (row_of_own O68) (row_of_own O71)).mono ?_
  rintro e w11 ⟨rfl, hq⟩
  have HQ := Lib.hid hq
  clear hq
  have s11 : w10.heap.size ≤ w11.heap.size := (HQ.out.below 0).size
  have HB11 := Lib.hid (below_quiet HB.out HQ.out)
  have O74 := O64.quiet HQ.out
  clear O64
  have O75 := O65.quiet HQ.out
  clear O65
  have O76 := O66.quiet HQ.out
  clear O66
  have O77 := O67.quiet HQ.out
  clear O67
  have O78 := O68.quiet HQ.out
  clear O68
  have O79 := O69.quiet HQ.out
  clear O69
  have O80 := O70.quiet HQ.out
  clear O70
  have O81 := O71.quiet HQ.out
  clear O71
  clear HB HQ
  have HB := HB11
  clear HB11
  have hb3 : (z1 == z1) = true := by simp
  have hz : (z0).length ≤ 1000000000 := by omega
  go_wp2_with fail
  refine (markIntS_any z0 _ _ _ _ O77 (by omega) (by omega) hz).mono ?_
  rintro e w12 ⟨rfl, hown, hg⟩
  have s12 : w11.heap.size ≤ w12.heap.size := hg.size
  have HG := Lib.hid hg
  clear hg
  have HB12 := Lib.hid (below_mark HB.out HG.out (fun j e => by have := (lt21 j e).1; omega))
  have O82 := O74.kept HG.out (apart_of lt3 lt21 (by omega))
  clear O74
  have O83 := O75.kept HG.out (apart_of lt8 lt21 (by omega))
  clear O75
  have O84 := O76.kept HG.out (apart_of lt14 lt21 (by omega))
  clear O76
  have O85 := O78.kept HG.out (apart_of lt29 lt21 (by omega))
  clear O78
  have O86 := O79.kept HG.out (apart_of lt38 lt21 (by omega))
  clear O79
  have O87 := O80.kept HG.out (apart_of lt54 lt21 (by omega))
  clear O80
  have O88 := O81.kept HG.out (apart_of lt72 lt21 (by omega))
  clear O81
  clear HB HG hz
  have HB := HB12
  clear HB12
  have O89 := hown
  clear hown O77
  have hz : (z1).length ≤ 1000000000 := by omega
  go_wp2_with fail
  refine (markIntS_any z1 _ _ _ _ O85 (by omega) (by omega) hz).mono ?_
  rintro e w13 ⟨rfl, hown, hg⟩
  have s13 : w12.heap.size ≤ w13.heap.size := hg.size
  have HG := Lib.hid hg
  clear hg
  have HB13 := Lib.hid (below_mark HB.out HG.out (fun j e => by have := (lt29 j e).1; omega))
  have O90 := O82.kept HG.out (apart_of lt3 lt29 (by omega))
  clear O82
  have O91 := O83.kept HG.out (apart_of lt8 lt29 (by omega))
  clear O83
  have O92 := O84.kept HG.out (apart_of lt14 lt29 (by omega))
  clear O84
  have O93 := O89.kept HG.out (apart_of lt21 lt29 (by omega))
  clear O89
  have O94 := O86.kept HG.out (apart_of lt38 lt29 (by omega))
  clear O86
  have O95 := O87.kept HG.out (apart_of lt54 lt29 (by omega))
  clear O87
  have O96 := O88.kept HG.out (apart_of lt72 lt29 (by omega))
  clear O88
  clear HB HG hz
  have HB := HB13
  clear HB13
  have O97 := hown
  clear hown O85
  have hb4 : decide ((1 + ((z0).length : Int) + ((z1).length : Int) : Int) < 0) = false := by rw [decide_eq_false_iff_not]; omega
  go_wp2_with fail
  refine (eqIntS_any (addL z0 z1) (addL z0 z1) _ _ _ (row_of_own O94) (row_of_own O92)).mono ?_
  rintro e w14 ⟨rfl, hq⟩
  have HQ := Lib.hid hq
  clear hq
  have s14 : w13.heap.size ≤ w14.heap.size := (HQ.out.below 0).size
  have HB14 := Lib.hid (below_quiet HB.out HQ.out)
  have O98 := O90.quiet HQ.out
  clear O90
  have O99 := O91.quiet HQ.out
  clear O91
  have O100 := O92.quiet HQ.out
  clear O92
  have O101 := O93.quiet HQ.out
  clear O93
  have O102 := O97.quiet HQ.out
  clear O97
  have O103 := O94.quiet HQ.out
  clear O94
  have O104 := O95.quiet HQ.out
  clear O95
  have O105 := O96.quiet HQ.out
  clear O96
  clear HB HQ
  have HB := HB14
  clear HB14
  have hb5 : ((addL z0 z1) == (addL z0 z1)) = true := by simp
  have hz : ((addL z0 z1)).length ≤ 1000000000 := by have := addL_len z0 z1; omega
  go_wp2_with fail
  refine (markIntS_any (addL z0 z1) _ _ _ _ O103 (by omega) (by omega) hz).mono ?_
  rintro e w15 ⟨rfl, hown, hg⟩
  have s15 : w14.heap.size ≤ w15.heap.size := hg.size
  have HG := Lib.hid hg
  clear hg
  have HB15 := Lib.hid (below_mark HB.out HG.out (fun j e => by have := (lt38 j e).1; omega))
  have O106 := O98.kept HG.out (apart_of lt3 lt38 (by omega))
  clear O98
  have O107 := O99.kept HG.out (apart_of lt8 lt38 (by omega))
  clear O99
  have O108 := O100.kept HG.out (apart_of lt14 lt38 (by omega))
  clear O100
  have O109 := O101.kept HG.out (apart_of lt21 lt38 (by omega))
  clear O101
  have O110 := O102.kept HG.out (apart_of lt29 lt38 (by omega))
  clear O102
  have O111 := O104.kept HG.out (apart_of lt54 lt38 (by omega))
  clear O104
  have O112 := O105.kept HG.out (apart_of lt72 lt38 (by omega))
  clear O105
  clear HB HG hz
  have HB := HB15
  clear HB15
  have O113 := hown
  clear hown O103
  have hz : ((addL z0 z1)).length ≤ 1000000000 := by have := addL_len z0 z1; omega
  go_wp2_with fail
  refine (heldIntS_any ((addL z0 z1)).length _ _ _ (row_of_own O113) (by omega) (by omega) hz).mono ?_
  rintro e w16 ⟨rfl, hq⟩
  have HQ := Lib.hid hq
  clear hq hz
  have s16 : w15.heap.size ≤ w16.heap.size := (HQ.out.below 0).size
  have HB16 := Lib.hid (below_quiet HB.out HQ.out)
  have O114 := O106.quiet HQ.out
  clear O106
  have O115 := O107.quiet HQ.out
  clear O107
  have O116 := O108.quiet HQ.out
  clear O108
  have O117 := O109.quiet HQ.out
  clear O109
  have O118 := O110.quiet HQ.out
  clear O110
  have O119 := O113.quiet HQ.out
  clear O113
  have O120 := O111.quiet HQ.out
  clear O111
  have O121 := O112.quiet HQ.out
  clear O112
  clear HB HQ
  have HB := HB16
  clear HB16
  have hb6 : decide ((1 + (((addL z0 z1)).length : Int) : Int) < 0) = false := by rw [decide_eq_false_iff_not]; omega
  have hb7 : ((1 + (((addL z0 z1)).length : Int) : Int) != 1 + (((addL z0 z1)).length : Int)) = false := by simp
  go_wp2_with fail
  refine (toIntS_r z0 _ _ (ra0.belowAll HB.out) (by omega)).mono ?_
  rintro e w17 ⟨r122, rfl, hown, hbel⟩
  have s17 : w16.heap.size ≤ w17.heap.size := hbel.size
  have HB17 := Lib.hid (below_step HB.out hbel)
  have HE := Lib.hid hbel
  clear hbel
  have O123 := O114.belowAll HE.out
  clear O114
  have O124 := O115.belowAll HE.out
  clear O115
  have O125 := O116.belowAll HE.out
  clear O116
  have O126 := O117.belowAll HE.out
  clear O117
  have O127 := O118.belowAll HE.out
  clear O118
  have O128 := O119.belowAll HE.out
  clear O119
  have O129 := O120.belowAll HE.out
  clear O120
  have O130 := O121.belowAll HE.out
  clear O121
  clear HB HE
  have HB := HB17
  clear HB17
  have O131 := hown
  have lt132 := hown.lt
  clear hown
  go_wp2_with fail
  refine (toIntS_r z1 _ _ (ra1.belowAll HB.out) (by omega)).mono ?_
  rintro e w18 ⟨r134, rfl, hown, hbel⟩
  have s18 : w17.heap.size ≤ w18.heap.size := hbel.size
  have HB18 := Lib.hid (below_step HB.out hbel)
  have HE := Lib.hid hbel
  clear hbel
  have O135 := O123.belowAll HE.out
  clear O123
  have O136 := O124.belowAll HE.out
  clear O124
  have O137 := O125.belowAll HE.out
  clear O125
  have O138 := O126.belowAll HE.out
  clear O126
  have O139 := O127.belowAll HE.out
  clear O127
  have O140 := O128.belowAll HE.out
  clear O128
  have O141 := O129.belowAll HE.out
  clear O129
  have O142 := O130.belowAll HE.out
  clear O130
  have O143 := O131.belowAll HE.out
  clear O131
  clear HB HE
  have HB := HB18
  clear HB18
  have O144 := hown
  have lt145 := hown.lt
  clear hown
  go_wp2_with fail
  refine (AddBits_any z0 z1 _ _ _ (row_of_own O143) (row_of_own O144)).mono ?_
  rintro e w19 ⟨r147, rfl, hown, hbel⟩
  have s19 : w18.heap.size ≤ w19.heap.size := hbel.size
  have HB19 := Lib.hid (below_step HB.out hbel)
  have HE := Lib.hid hbel
  clear hbel
  have O148 := O135.belowAll HE.out
  clear O135
  have O149 := O136.belowAll HE.out
  clear O136
  have O150 := O137.belowAll HE.out
  clear O137
  have O151 := O138.belowAll HE.out
  clear O138
  have O152 := O139.belowAll HE.out
  clear O139
  have O153 := O140.belowAll HE.out
  clear O140
  have O154 := O141.belowAll HE.out
  clear O141
  have O155 := O142.belowAll HE.out
  clear O142
  have O156 := O143.belowAll HE.out
  clear O143
  have O157 := O144.belowAll HE.out
  clear O144
  clear HB HE
  have HB := HB19
  clear HB19
  have O158 := hown
  have lt159 := hown.lt
  clear hown
  go_wp2_with fail
  refine (eqIntS_any (addL z0 z1) (addL z0 z1) _ _ _ (row_of_own O158) (row_of_own O150)).mono ?_
  rintro e w20 ⟨rfl, hq⟩
  have HQ := Lib.hid hq
  clear hq
  have s20 : w19.heap.size ≤ w20.heap.size := (HQ.out.below 0).size
  have HB20 := Lib.hid (below_quiet HB.out HQ.out)
  have O161 := O148.quiet HQ.out
  clear O148
  have O162 := O149.quiet HQ.out
  clear O149
  have O163 := O150.quiet HQ.out
  clear O150
  have O164 := O151.quiet HQ.out
  clear O151
  have O165 := O152.quiet HQ.out
  clear O152
  have O166 := O153.quiet HQ.out
  clear O153
  have O167 := O154.quiet HQ.out
  clear O154
  have O168 := O155.quiet HQ.out
  clear O155
  have O169 := O156.quiet HQ.out
  clear O156
  have O170 := O157.quiet HQ.out
  clear O157
  have O171 := O158.quiet HQ.out
  clear O158
  clear HB HQ
  have HB := HB20
  clear HB20
  have hb8 : ((addL z0 z1) == (addL z0 z1)) = true := by simp
  have hz : ((addL z0 z1)).length ≤ 1000000000 := by have := addL_len z0 z1; omega
  go_wp2_with fail
  refine (heldIntS_any ((addL z0 z1)).length _ _ _ (row_of_own O166) (by omega) (by omega) hz).mono ?_
  rintro e w21 ⟨rfl, hq⟩
  have HQ := Lib.hid hq
  clear hq hz
  have s21 : w20.heap.size ≤ w21.heap.size := (HQ.out.below 0).size
  have HB21 := Lib.hid (below_quiet HB.out HQ.out)
  have O172 := O161.quiet HQ.out
  clear O161
  have O173 := O162.quiet HQ.out
  clear O162
  have O174 := O163.quiet HQ.out
  clear O163
  have O175 := O164.quiet HQ.out
  clear O164
  have O176 := O165.quiet HQ.out
  clear O165
  have O177 := O166.quiet HQ.out
  clear O166
  have O178 := O167.quiet HQ.out
  clear O167
  have O179 := O168.quiet HQ.out
  clear O168
  have O180 := O169.quiet HQ.out
  clear O169
  have O181 := O170.quiet HQ.out
  clear O170
  have O182 := O171.quiet HQ.out
  clear O171
  clear HB HQ
  have HB := HB21
  clear HB21
  have hb9 : decide ((1 + (((addL z0 z1)).length : Int) : Int) < 0) = false := by rw [decide_eq_false_iff_not]; omega
  have hb10 : ((1 + (((addL z0 z1)).length : Int) : Int) != 1 + (((addL z0 z1)).length : Int)) = false := by simp
  go_wp2
  go_ret
  exact ⟨rfl, HB.out⟩
end Go.Proofs.Ytjlocicelnndhaa
