/-
  Walks of exact laws: the program and the reference agree. Written by a program (exact.py) over the contracts.
-/
import Derived.Test.YthljgookoboieaaDoorLaidB
import Derived.Test.YthljgookoboieaaDoorEnc7
import Derived.Test.YthljgookoboieaaDoorEnc8
namespace Go.Proofs.YthljgookoboieaaDoor
open Go.RowKit

set_option maxHeartbeats 1000000 in
set_option linter.unusedVariables false in
theorem walk_FnExactEncodeNibble (w : World) (hT : Tabs w) (v0 : Value) (z0 : List Int) (ra0 : RowK .i64 w v0 z0) (hw0 : ∀ n ∈ z0, (Lit.int .i64 n).wf = true) :
    Calls Tryd.prog 3 #[v0] w fun e w' => e = .returned (.bool true) ∧ Below w.heap.size w w' := by
  obtain ⟨aa0, cc0, rfl⟩ := ra0.form
  by_cases hlen0 : 1048576 < z0.length
  · go_enter Tryd.func3, Tryd.ntmps3
    go_wp2
    go_ret
    exact ⟨rfl, Below.refl _ _⟩
  have HB : Hid (Below w.heap.size w w) := Below.refl _ _
  go_enter Tryd.func3, Tryd.ntmps3
  go_wp2_with fail
  refine (toIntS_r z0 _ _ (ra0.belowAll HB.out) (by omega)).mono ?_
  rintro e w1 ⟨r1, rfl, hown, hbel⟩
  have s1 : w.heap.size ≤ w1.heap.size := hbel.size
  have HB1 := Lib.hid (below_step HB.out hbel)
  have HE := Lib.hid hbel
  clear hbel
  clear HB HE
  have HB := HB1
  clear HB1
  have O2 := hown
  have lt3 := hown.lt
  clear hown
  go_wp2_with fail
  refine (specEncodeNibble_any z0 _ _ (row_of_own O2)).mono ?_
  rintro e w2 ⟨r5, rfl, hown, hbel⟩
  have s2 : w1.heap.size ≤ w2.heap.size := hbel.size
  have HB2 := Lib.hid (below_step HB.out hbel)
  have HE := Lib.hid hbel
  clear hbel
  have O6 := O2.belowAll HE.out
  clear O2
  clear HB HE
  have HB := HB2
  clear HB2
  have O7 := hown
  have lt8 := hown.lt
  clear hown
  go_wp2_with fail
  refine (toIntS_r z0 _ _ (ra0.belowAll HB.out) (by omega)).mono ?_
  rintro e w3 ⟨r10, rfl, hown, hbel⟩
  have s3 : w2.heap.size ≤ w3.heap.size := hbel.size
  have HB3 := Lib.hid (below_step HB.out hbel)
  have HE := Lib.hid hbel
  clear hbel
  have O11 := O6.belowAll HE.out
  clear O6
  have O12 := O7.belowAll HE.out
  clear O7
  clear HB HE
  have HB := HB3
  clear HB3
  have O13 := hown
  have lt14 := hown.lt
  clear hown
  go_wp2_with fail
  refine (EncodeNibble_any z0 _ _ (hT.below HB.out) (row_of_own O13)).mono ?_
  rintro e w4 ⟨r16, rfl, hown, hbel⟩
  have s4 : w3.heap.size ≤ w4.heap.size := hbel.size
  have HB4 := Lib.hid (below_step HB.out hbel)
  have HE := Lib.hid hbel
  clear hbel
  have O17 := O11.belowAll HE.out
  clear O11
  have O18 := O12.belowAll HE.out
  clear O12
  have O19 := O13.belowAll HE.out
  clear O13
  clear HB HE
  have HB := HB4
  clear HB4
  have O20 := hown
  have lt21 := hown.lt
  clear hown
  go_wp2_with fail
  refine (eqIntS_any (encN z0) (encN z0) _ _ _ (row_of_own O20) (row_of_own O18)).mono ?_
  rintro e w5 ⟨rfl, hq⟩
  have HQ := Lib.hid hq
  clear hq
  have s5 : w4.heap.size ≤ w5.heap.size := (HQ.out.below 0).size
  have HB5 := Lib.hid (below_quiet HB.out HQ.out)
  have O23 := O17.quiet HQ.out
  clear O17
  have O24 := O18.quiet HQ.out
  clear O18
  have O25 := O19.quiet HQ.out
  clear O19
  have O26 := O20.quiet HQ.out
  clear O20
  clear HB HQ
  have HB := HB5
  clear HB5
  have hb1 : ((encN z0) == (encN z0)) = true := by simp
  go_wp2_with fail
  refine (toIntS_r z0 _ _ (ra0.belowAll HB.out) (by omega)).mono ?_
  rintro e w6 ⟨r27, rfl, hown, hbel⟩
  have s6 : w5.heap.size ≤ w6.heap.size := hbel.size
  have HB6 := Lib.hid (below_step HB.out hbel)
  have HE := Lib.hid hbel
  clear hbel
  have O28 := O23.belowAll HE.out
  clear O23
  have O29 := O24.belowAll HE.out
  clear O24
  have O30 := O25.belowAll HE.out
  clear O25
  have O31 := O26.belowAll HE.out
  clear O26
  clear HB HE
  have HB := HB6
  clear HB6
  have O32 := hown
  have lt33 := hown.lt
  clear hown
  go_wp2_with fail
  refine (eqIntS_any z0 z0 _ _ _ (row_of_own O30) (row_of_own O32)).mono ?_
  rintro e w7 ⟨rfl, hq⟩
  have HQ := Lib.hid hq
  clear hq
  have s7 : w6.heap.size ≤ w7.heap.size := (HQ.out.below 0).size
  have HB7 := Lib.hid (below_quiet HB.out HQ.out)
  have O35 := O28.quiet HQ.out
  clear O28
  have O36 := O29.quiet HQ.out
  clear O29
  have O37 := O30.quiet HQ.out
  clear O30
  have O38 := O31.quiet HQ.out
  clear O31
  have O39 := O32.quiet HQ.out
  clear O32
  clear HB HQ
  have HB := HB7
  clear HB7
  have hb2 : (z0 == z0) = true := by simp
  have hz : (z0).length ≤ 1000000000 := by omega
  go_wp2_with fail
  refine (markIntS_any z0 _ _ _ _ O37 (by omega) (by omega) hz).mono ?_
  rintro e w8 ⟨rfl, hown, hg⟩
  have s8 : w7.heap.size ≤ w8.heap.size := hg.size
  have HG := Lib.hid hg
  clear hg
  have HB8 := Lib.hid (below_mark HB.out HG.out (fun j e => by have := (lt14 j e).1; omega))
  have O40 := O35.kept HG.out (apart_of lt3 lt14 (by omega))
  clear O35
  have O41 := O36.kept HG.out (apart_of lt8 lt14 (by omega))
  clear O36
  have O42 := O38.kept HG.out (apart_of lt21 lt14 (by omega))
  clear O38
  have O43 := O39.kept HG.out (apart_of lt33 lt14 (by omega))
  clear O39
  clear HB HG hz
  have HB := HB8
  clear HB8
  have O44 := hown
  clear hown O37
  have hb3 : decide ((1 + ((z0).length : Int) : Int) < 0) = false := by rw [decide_eq_false_iff_not]; omega
  go_wp2_with fail
  refine (eqIntS_any (encN z0) (encN z0) _ _ _ (row_of_own O42) (row_of_own O41)).mono ?_
  rintro e w9 ⟨rfl, hq⟩
  have HQ := Lib.hid hq
  clear hq
  have s9 : w8.heap.size ≤ w9.heap.size := (HQ.out.below 0).size
  have HB9 := Lib.hid (below_quiet HB.out HQ.out)
  have O45 := O40.quiet HQ.out
  clear O40
  have O46 := O41.quiet HQ.out
  clear O41
  have O47 := O44.quiet HQ.out
  clear O44
  have O48 := O42.quiet HQ.out
  clear O42
  have O49 := O43.quiet HQ.out
  clear O43
  clear HB HQ
  have HB := HB9
  clear HB9
  have hb4 : ((encN z0) == (encN z0)) = true := by simp
  have hz : ((encN z0)).length ≤ 1000000000 := by have := encN_len z0; omega
  go_wp2_with fail
  refine (markIntS_any (encN z0) _ _ _ _ O48 (by omega) (by omega) hz).mono ?_
  rintro e w10 ⟨rfl, hown, hg⟩
  have s10 : w9.heap.size ≤ w10.heap.size := hg.size
  have HG := Lib.hid hg
  clear hg
  have HB10 := Lib.hid (below_mark HB.out HG.out (fun j e => by have := (lt21 j e).1; omega))
  have O50 := O45.kept HG.out (apart_of lt3 lt21 (by omega))
  clear O45
  have O51 := O46.kept HG.out (apart_of lt8 lt21 (by omega))
  clear O46
  have O52 := O47.kept HG.out (apart_of lt14 lt21 (by omega))
  clear O47
  have O53 := O49.kept HG.out (apart_of lt33 lt21 (by omega))
  clear O49
  clear HB HG hz
  have HB := HB10
  clear HB10
  have O54 := hown
  clear hown O48
  have hz : ((encN z0)).length ≤ 1000000000 := by have := encN_len z0; omega
  go_wp2_with fail
  refine (heldIntS_any ((encN z0)).length _ _ _ (row_of_own O54) (by omega) (by omega) hz).mono ?_
  rintro e w11 ⟨rfl, hq⟩
  have HQ := Lib.hid hq
  clear hq hz
  have s11 : w10.heap.size ≤ w11.heap.size := (HQ.out.below 0).size
  have HB11 := Lib.hid (below_quiet HB.out HQ.out)
  have O55 := O50.quiet HQ.out
  clear O50
  have O56 := O51.quiet HQ.out
  clear O51
  have O57 := O52.quiet HQ.out
  clear O52
  have O58 := O54.quiet HQ.out
  clear O54
  have O59 := O53.quiet HQ.out
  clear O53
  clear HB HQ
  have HB := HB11
  clear HB11
  have hb5 : decide ((1 + (((encN z0)).length : Int) : Int) < 0) = false := by rw [decide_eq_false_iff_not]; omega
  have hb6 : ((1 + (((encN z0)).length : Int) : Int) != 1 + (((encN z0)).length : Int)) = false := by simp
  go_wp2_with fail
  refine (toIntS_r z0 _ _ (ra0.belowAll HB.out) (by omega)).mono ?_
  rintro e w12 ⟨r60, rfl, hown, hbel⟩
  have s12 : w11.heap.size ≤ w12.heap.size := hbel.size
  have HB12 := Lib.hid (below_step HB.out hbel)
  have HE := Lib.hid hbel
  clear hbel
  have O61 := O55.belowAll HE.out
  clear O55
  have O62 := O56.belowAll HE.out
  clear O56
  have O63 := O57.belowAll HE.out
  clear O57
  have O64 := O58.belowAll HE.out
  clear O58
  have O65 := O59.belowAll HE.out
  clear O59
  clear HB HE
  have HB := HB12
  clear HB12
  have O66 := hown
  have lt67 := hown.lt
  clear hown
  go_wp2_with fail
  refine (EncodeNibble_any z0 _ _ (hT.below HB.out) (row_of_own O66)).mono ?_
  rintro e w13 ⟨r69, rfl, hown, hbel⟩
  have s13 : w12.heap.size ≤ w13.heap.size := hbel.size
  have HB13 := Lib.hid (below_step HB.out hbel)
  have HE := Lib.hid hbel
  clear hbel
  have O70 := O61.belowAll HE.out
  clear O61
  have O71 := O62.belowAll HE.out
  clear O62
  have O72 := O63.belowAll HE.out
  clear O63
  have O73 := O64.belowAll HE.out
  clear O64
  have O74 := O65.belowAll HE.out
  clear O65
  have O75 := O66.belowAll HE.out
  clear O66
  clear HB HE
  have HB := HB13
  clear HB13
  have O76 := hown
  have lt77 := hown.lt
  clear hown
  go_wp2_with fail
  refine (eqIntS_any (encN z0) (encN z0) _ _ _ (row_of_own O76) (row_of_own O71)).mono ?_
  rintro e w14 ⟨rfl, hq⟩
  have HQ := Lib.hid hq
  clear hq
  have s14 : w13.heap.size ≤ w14.heap.size := (HQ.out.below 0).size
  have HB14 := Lib.hid (below_quiet HB.out HQ.out)
  have O79 := O70.quiet HQ.out
  clear O70
  have O80 := O71.quiet HQ.out
  clear O71
  have O81 := O72.quiet HQ.out
  clear O72
  have O82 := O73.quiet HQ.out
  clear O73
  have O83 := O74.quiet HQ.out
  clear O74
  have O84 := O75.quiet HQ.out
  clear O75
  have O85 := O76.quiet HQ.out
  clear O76
  clear HB HQ
  have HB := HB14
  clear HB14
  have hb7 : ((encN z0) == (encN z0)) = true := by simp
  have hz : ((encN z0)).length ≤ 1000000000 := by have := encN_len z0; omega
  go_wp2_with fail
  refine (heldIntS_any ((encN z0)).length _ _ _ (row_of_own O82) (by omega) (by omega) hz).mono ?_
  rintro e w15 ⟨rfl, hq⟩
  have HQ := Lib.hid hq
  clear hq hz
  have s15 : w14.heap.size ≤ w15.heap.size := (HQ.out.below 0).size
  have HB15 := Lib.hid (below_quiet HB.out HQ.out)
  have O86 := O79.quiet HQ.out
  clear O79
  have O87 := O80.quiet HQ.out
  clear O80
  have O88 := O81.quiet HQ.out
  clear O81
  have O89 := O82.quiet HQ.out
  clear O82
  have O90 := O83.quiet HQ.out
  clear O83
  have O91 := O84.quiet HQ.out
  clear O84
  have O92 := O85.quiet HQ.out
  clear O85
  clear HB HQ
  have HB := HB15
  clear HB15
  have hb8 : decide ((1 + (((encN z0)).length : Int) : Int) < 0) = false := by rw [decide_eq_false_iff_not]; omega
  have hb9 : ((1 + (((encN z0)).length : Int) : Int) != 1 + (((encN z0)).length : Int)) = false := by simp
  go_wp2
  go_ret
  exact ⟨rfl, HB.out⟩
set_option maxHeartbeats 1000000 in
set_option linter.unusedVariables false in
theorem walk_FnExactDecodeNibble (w : World) (hT : TabP w) (v0 : Value) (z0 : List Int) (ra0 : RowK .i64 w v0 z0) (hw0 : ∀ n ∈ z0, (Lit.int .i64 n).wf = true) :
    Calls Tryd.prog 5 #[v0] w fun e w' => e = .returned (.bool true) ∧ Below w.heap.size w w' := by
  obtain ⟨aa0, cc0, rfl⟩ := ra0.form
  by_cases hlen0 : 1048576 < z0.length
  · go_enter Tryd.func5, Tryd.ntmps5
    go_wp2
    go_ret
    exact ⟨rfl, Below.refl _ _⟩
  have HB : Hid (Below w.heap.size w w) := Below.refl _ _
  go_enter Tryd.func5, Tryd.ntmps5
  go_wp2_with fail
  refine (toIntS_r z0 _ _ (ra0.belowAll HB.out) (by omega)).mono ?_
  rintro e w1 ⟨r1, rfl, hown, hbel⟩
  have s1 : w.heap.size ≤ w1.heap.size := hbel.size
  have HB1 := Lib.hid (below_step HB.out hbel)
  have HE := Lib.hid hbel
  clear hbel
  clear HB HE
  have HB := HB1
  clear HB1
  have O2 := hown
  have lt3 := hown.lt
  clear hown
  go_wp2_with fail
  refine (specDecodeNibble_any z0 _ _ (row_of_own O2)).mono ?_
  rintro e w2 ⟨r5, rfl, hown, hbel⟩
  have s2 : w1.heap.size ≤ w2.heap.size := hbel.size
  have HB2 := Lib.hid (below_step HB.out hbel)
  have HE := Lib.hid hbel
  clear hbel
  have O6 := O2.belowAll HE.out
  clear O2
  clear HB HE
  have HB := HB2
  clear HB2
  have O7 := hown
  have lt8 := hown.lt
  clear hown
  go_wp2_with fail
  refine (toIntS_r z0 _ _ (ra0.belowAll HB.out) (by omega)).mono ?_
  rintro e w3 ⟨r10, rfl, hown, hbel⟩
  have s3 : w2.heap.size ≤ w3.heap.size := hbel.size
  have HB3 := Lib.hid (below_step HB.out hbel)
  have HE := Lib.hid hbel
  clear hbel
  have O11 := O6.belowAll HE.out
  clear O6
  have O12 := O7.belowAll HE.out
  clear O7
  clear HB HE
  have HB := HB3
  clear HB3
  have O13 := hown
  have lt14 := hown.lt
  clear hown
  go_wp2_with fail
  refine (DecodeNibble_any z0 _ _ (hT.below HB.out).p (row_of_own O13)).mono ?_
  rintro e w4 ⟨r16, rfl, hown, hbel⟩
  have s4 : w3.heap.size ≤ w4.heap.size := hbel.size
  have HB4 := Lib.hid (below_step HB.out hbel)
  have HE := Lib.hid hbel
  clear hbel
  have O17 := O11.belowAll HE.out
  clear O11
  have O18 := O12.belowAll HE.out
  clear O12
  have O19 := O13.belowAll HE.out
  clear O13
  clear HB HE
  have HB := HB4
  clear HB4
  have O20 := hown
  have lt21 := hown.lt
  clear hown
  have hb1 : (((decW z0) : Bool) != (decW z0)) = false := by simp
  go_wp2_with fail
  refine (eqIntS_any (decN z0) (decN z0) _ _ _ (row_of_own O20) (row_of_own O18)).mono ?_
  rintro e w5 ⟨rfl, hq⟩
  have HQ := Lib.hid hq
  clear hq
  have s5 : w4.heap.size ≤ w5.heap.size := (HQ.out.below 0).size
  have HB5 := Lib.hid (below_quiet HB.out HQ.out)
  have O23 := O17.quiet HQ.out
  clear O17
  have O24 := O18.quiet HQ.out
  clear O18
  have O25 := O19.quiet HQ.out
  clear O19
  have O26 := O20.quiet HQ.out
  clear O20
  clear HB HQ
  have HB := HB5
  clear HB5
  have hb2 : ((decN z0) == (decN z0)) = true := by simp
  go_wp2_with fail
  refine (toIntS_r z0 _ _ (ra0.belowAll HB.out) (by omega)).mono ?_
  rintro e w6 ⟨r27, rfl, hown, hbel⟩
  have s6 : w5.heap.size ≤ w6.heap.size := hbel.size
  have HB6 := Lib.hid (below_step HB.out hbel)
  have HE := Lib.hid hbel
  clear hbel
  have O28 := O23.belowAll HE.out
  clear O23
  have O29 := O24.belowAll HE.out
  clear O24
  have O30 := O25.belowAll HE.out
  clear O25
  have O31 := O26.belowAll HE.out
  clear O26
  clear HB HE
  have HB := HB6
  clear HB6
  have O32 := hown
  have lt33 := hown.lt
  clear hown
  go_wp2_with fail
  refine (eqIntS_any z0 z0 _ _ _ (row_of_own O30) (row_of_own O32)).mono ?_
  rintro e w7 ⟨rfl, hq⟩
  have HQ := Lib.hid hq
  clear hq
  have s7 : w6.heap.size ≤ w7.heap.size := (HQ.out.below 0).size
  have HB7 := Lib.hid (below_quiet HB.out HQ.out)
  have O35 := O28.quiet HQ.out
  clear O28
  have O36 := O29.quiet HQ.out
  clear O29
  have O37 := O30.quiet HQ.out
  clear O30
  have O38 := O31.quiet HQ.out
  clear O31
  have O39 := O32.quiet HQ.out
  clear O32
  clear HB HQ
  have HB := HB7
  clear HB7
  have hb3 : (z0 == z0) = true := by simp
  have hz : (z0).length ≤ 1000000000 := by omega
  go_wp2_with fail
  refine (markIntS_any z0 _ _ _ _ O37 (by omega) (by omega) hz).mono ?_
  rintro e w8 ⟨rfl, hown, hg⟩
  have s8 : w7.heap.size ≤ w8.heap.size := hg.size
  have HG := Lib.hid hg
  clear hg
  have HB8 := Lib.hid (below_mark HB.out HG.out (fun j e => by have := (lt14 j e).1; omega))
  have O40 := O35.kept HG.out (apart_of lt3 lt14 (by omega))
  clear O35
  have O41 := O36.kept HG.out (apart_of lt8 lt14 (by omega))
  clear O36
  have O42 := O38.kept HG.out (apart_of lt21 lt14 (by omega))
  clear O38
  have O43 := O39.kept HG.out (apart_of lt33 lt14 (by omega))
  clear O39
  clear HB HG hz
  have HB := HB8
  clear HB8
  have O44 := hown
  clear hown O37
  have hb4 : decide ((1 + ((z0).length : Int) : Int) < 0) = false := by rw [decide_eq_false_iff_not]; omega
  have hb5 : (((decW z0) : Bool) != (decW z0)) = false := by simp
  go_wp2_with fail
  refine (eqIntS_any (decN z0) (decN z0) _ _ _ (row_of_own O42) (row_of_own O41)).mono ?_
  rintro e w9 ⟨rfl, hq⟩
  have HQ := Lib.hid hq
  clear hq
  have s9 : w8.heap.size ≤ w9.heap.size := (HQ.out.below 0).size
  have HB9 := Lib.hid (below_quiet HB.out HQ.out)
  have O45 := O40.quiet HQ.out
  clear O40
  have O46 := O41.quiet HQ.out
  clear O41
  have O47 := O44.quiet HQ.out
  clear O44
  have O48 := O42.quiet HQ.out
  clear O42
  have O49 := O43.quiet HQ.out
  clear O43
  clear HB HQ
  have HB := HB9
  clear HB9
  have hb6 : ((decN z0) == (decN z0)) = true := by simp
  have hz : ((decN z0)).length ≤ 1000000000 := by have := decN_len z0; omega
  go_wp2_with fail
  refine (markIntS_any (decN z0) _ _ _ _ O48 (by omega) (by omega) hz).mono ?_
  rintro e w10 ⟨rfl, hown, hg⟩
  have s10 : w9.heap.size ≤ w10.heap.size := hg.size
  have HG := Lib.hid hg
  clear hg
  have HB10 := Lib.hid (below_mark HB.out HG.out (fun j e => by have := (lt21 j e).1; omega))
  have O50 := O45.kept HG.out (apart_of lt3 lt21 (by omega))
  clear O45
  have O51 := O46.kept HG.out (apart_of lt8 lt21 (by omega))
  clear O46
  have O52 := O47.kept HG.out (apart_of lt14 lt21 (by omega))
  clear O47
  have O53 := O49.kept HG.out (apart_of lt33 lt21 (by omega))
  clear O49
  clear HB HG hz
  have HB := HB10
  clear HB10
  have O54 := hown
  clear hown O48
  have hz : ((decN z0)).length ≤ 1000000000 := by have := decN_len z0; omega
  go_wp2_with fail
  refine (heldIntS_any ((decN z0)).length _ _ _ (row_of_own O54) (by omega) (by omega) hz).mono ?_
  rintro e w11 ⟨rfl, hq⟩
  have HQ := Lib.hid hq
  clear hq hz
  have s11 : w10.heap.size ≤ w11.heap.size := (HQ.out.below 0).size
  have HB11 := Lib.hid (below_quiet HB.out HQ.out)
  have O55 := O50.quiet HQ.out
  clear O50
  have O56 := O51.quiet HQ.out
  clear O51
  have O57 := O52.quiet HQ.out
  clear O52
  have O58 := O54.quiet HQ.out
  clear O54
  have O59 := O53.quiet HQ.out
  clear O53
  clear HB HQ
  have HB := HB11
  clear HB11
  have hb7 : decide ((1 + (((decN z0)).length : Int) : Int) < 0) = false := by rw [decide_eq_false_iff_not]; omega
  have hb8 : ((1 + (((decN z0)).length : Int) : Int) != 1 + (((decN z0)).length : Int)) = false := by simp
  go_wp2_with fail
  refine (toIntS_r z0 _ _ (ra0.belowAll HB.out) (by omega)).mono ?_
  rintro e w12 ⟨r60, rfl, hown, hbel⟩
  have s12 : w11.heap.size ≤ w12.heap.size := hbel.size
  have HB12 := Lib.hid (below_step HB.out hbel)
  have HE := Lib.hid hbel
  clear hbel
  have O61 := O55.belowAll HE.out
  clear O55
  have O62 := O56.belowAll HE.out
  clear O56
  have O63 := O57.belowAll HE.out
  clear O57
  have O64 := O58.belowAll HE.out
  clear O58
  have O65 := O59.belowAll HE.out
  clear O59
  clear HB HE
  have HB := HB12
  clear HB12
  have O66 := hown
  have lt67 := hown.lt
  clear hown
  go_wp2_with fail
  refine (DecodeNibble_any z0 _ _ (hT.below HB.out).p (row_of_own O66)).mono ?_
  rintro e w13 ⟨r69, rfl, hown, hbel⟩
  have s13 : w12.heap.size ≤ w13.heap.size := hbel.size
  have HB13 := Lib.hid (below_step HB.out hbel)
  have HE := Lib.hid hbel
  clear hbel
  have O70 := O61.belowAll HE.out
  clear O61
  have O71 := O62.belowAll HE.out
  clear O62
  have O72 := O63.belowAll HE.out
  clear O63
  have O73 := O64.belowAll HE.out
  clear O64
  have O74 := O65.belowAll HE.out
  clear O65
  have O75 := O66.belowAll HE.out
  clear O66
  clear HB HE
  have HB := HB13
  clear HB13
  have O76 := hown
  have lt77 := hown.lt
  clear hown
  have hb9 : (((decW z0) : Bool) != (decW z0)) = false := by simp
  go_wp2_with fail
  refine (eqIntS_any (decN z0) (decN z0) _ _ _ (row_of_own O76) (row_of_own O71)).mono ?_
  rintro e w14 ⟨rfl, hq⟩
  have HQ := Lib.hid hq
  clear hq
  have s14 : w13.heap.size ≤ w14.heap.size := (HQ.out.below 0).size
  have HB14 := Lib.hid (below_quiet HB.out HQ.out)
  have O79 := O70.quiet HQ.out
  clear O70
  have O80 := O71.quiet HQ.out
  clear O71
  have O81 := O72.quiet HQ.out
  clear O72
  have O82 := O73.quiet HQ.out
  clear O73
  have O83 := O74.quiet HQ.out
  clear O74
  have O84 := O75.quiet HQ.out
  clear O75
  have O85 := O76.quiet HQ.out
  clear O76
  clear HB HQ
  have HB := HB14
  clear HB14
  have hb10 : ((decN z0) == (decN z0)) = true := by simp
  have hz : ((decN z0)).length ≤ 1000000000 := by have := decN_len z0; omega
  go_wp2_with fail
  refine (heldIntS_any ((decN z0)).length _ _ _ (row_of_own O82) (by omega) (by omega) hz).mono ?_
  rintro e w15 ⟨rfl, hq⟩
  have HQ := Lib.hid hq
  clear hq hz
  have s15 : w14.heap.size ≤ w15.heap.size := (HQ.out.below 0).size
  have HB15 := Lib.hid (below_quiet HB.out HQ.out)
  have O86 := O79.quiet HQ.out
  clear O79
  have O87 := O80.quiet HQ.out
  clear O80
  have O88 := O81.quiet HQ.out
  clear O81
  have O89 := O82.quiet HQ.out
  clear O82
  have O90 := O83.quiet HQ.out
  clear O83
  have O91 := O84.quiet HQ.out
  clear O84
  have O92 := O85.quiet HQ.out
  clear O85
  clear HB HQ
  have HB := HB15
  clear HB15
  have hb11 : decide ((1 + (((decN z0)).length : Int) : Int) < 0) = false := by rw [decide_eq_false_iff_not]; omega
  have hb12 : ((1 + (((decN z0)).length : Int) : Int) != 1 + (((decN z0)).length : Int)) = false := by simp
  go_wp2
  go_ret
  exact ⟨rfl, HB.out⟩
set_option maxHeartbeats 1000000 in
set_option linter.unusedVariables false in
theorem walk_FnExactEncodeBlocks (w : World) (hT : Tabs w) (v0 : Value) (z0 : List Int) (ra0 : RowK .i64 w v0 z0) (hw0 : ∀ n ∈ z0, (Lit.int .i64 n).wf = true) :
    Calls Tryd.prog 4 #[v0] w fun e w' => e = .returned (.bool true) ∧ Below w.heap.size w w' := by
  obtain ⟨aa0, cc0, rfl⟩ := ra0.form
  by_cases hlen0 : 1048576 < z0.length
  · go_enter Tryd.func4, Tryd.ntmps4
    go_wp2
    go_ret
    exact ⟨rfl, Below.refl _ _⟩
  have HB : Hid (Below w.heap.size w w) := Below.refl _ _
  go_enter Tryd.func4, Tryd.ntmps4
  go_wp2_with fail
  refine (toIntS_r z0 _ _ (ra0.belowAll HB.out) (by omega)).mono ?_
  rintro e w1 ⟨r1, rfl, hown, hbel⟩
  have s1 : w.heap.size ≤ w1.heap.size := hbel.size
  have HB1 := Lib.hid (below_step HB.out hbel)
  have HE := Lib.hid hbel
  clear hbel
  clear HB HE
  have HB := HB1
  clear HB1
  have O2 := hown
  have lt3 := hown.lt
  clear hown
  go_wp2_with fail
  refine (specEncodeBlocks_any z0 _ _ (row_of_own O2)).mono ?_
  rintro e w2 ⟨r5, rfl, hown, hbel⟩
  have s2 : w1.heap.size ≤ w2.heap.size := hbel.size
  have HB2 := Lib.hid (below_step HB.out hbel)
  have HE := Lib.hid hbel
  clear hbel
  have O6 := O2.belowAll HE.out
  clear O2
  clear HB HE
  have HB := HB2
  clear HB2
  have O7 := hown
  have lt8 := hown.lt
  clear hown
  go_wp2_with fail
  refine (toIntS_r z0 _ _ (ra0.belowAll HB.out) (by omega)).mono ?_
  rintro e w3 ⟨r10, rfl, hown, hbel⟩
  have s3 : w2.heap.size ≤ w3.heap.size := hbel.size
  have HB3 := Lib.hid (below_step HB.out hbel)
  have HE := Lib.hid hbel
  clear hbel
  have O11 := O6.belowAll HE.out
  clear O6
  have O12 := O7.belowAll HE.out
  clear O7
  clear HB HE
  have HB := HB3
  clear HB3
  have O13 := hown
  have lt14 := hown.lt
  clear hown
  go_wp2_with fail
  refine (EncodeBlocks_any z0 _ _ (hT.below HB.out) (row_of_own O13)).mono ?_
  rintro e w4 ⟨r16, rfl, hown, hbel⟩
  have s4 : w3.heap.size ≤ w4.heap.size := hbel.size
  have HB4 := Lib.hid (below_step HB.out hbel)
  have HE := Lib.hid hbel
  clear hbel
  have O17 := O11.belowAll HE.out
  clear O11
  have O18 := O12.belowAll HE.out
  clear O12
  have O19 := O13.belowAll HE.out
  clear O13
  clear HB HE
  have HB := HB4
  clear HB4
  have O20 := hown
  have lt21 := hown.lt
  clear hown
  go_wp2_with fail
  refine (eqIntS_any (encL z0) (encL z0) _ _ _ (row_of_own O20) (row_of_own O18)).mono ?_
  rintro e w5 ⟨rfl, hq⟩
  have HQ := Lib.hid hq
  clear hq
  have s5 : w4.heap.size ≤ w5.heap.size := (HQ.out.below 0).size
  have HB5 := Lib.hid (below_quiet HB.out HQ.out)
  have O23 := O17.quiet HQ.out
  clear O17
  have O24 := O18.quiet HQ.out
  clear O18
  have O25 := O19.quiet HQ.out
  clear O19
  have O26 := O20.quiet HQ.out
  clear O20
  clear HB HQ
  have HB := HB5
  clear HB5
  have hb1 : ((encL z0) == (encL z0)) = true := by simp
  go_wp2_with fail
  refine (toIntS_r z0 _ _ (ra0.belowAll HB.out) (by omega)).mono ?_
  rintro e w6 ⟨r27, rfl, hown, hbel⟩
  have s6 : w5.heap.size ≤ w6.heap.size := hbel.size
  have HB6 := Lib.hid (below_step HB.out hbel)
  have HE := Lib.hid hbel
  clear hbel
  have O28 := O23.belowAll HE.out
  clear O23
  have O29 := O24.belowAll HE.out
  clear O24
  have O30 := O25.belowAll HE.out
  clear O25
  have O31 := O26.belowAll HE.out
  clear O26
  clear HB HE
  have HB := HB6
  clear HB6
  have O32 := hown
  have lt33 := hown.lt
  clear hown
  go_wp2_with fail
  refine (eqIntS_any z0 z0 _ _ _ (row_of_own O30) (row_of_own O32)).mono ?_
  rintro e w7 ⟨rfl, hq⟩
  have HQ := Lib.hid hq
  clear hq
  have s7 : w6.heap.size ≤ w7.heap.size := (HQ.out.below 0).size
  have HB7 := Lib.hid (below_quiet HB.out HQ.out)
  have O35 := O28.quiet HQ.out
  clear O28
  have O36 := O29.quiet HQ.out
  clear O29
  have O37 := O30.quiet HQ.out
  clear O30
  have O38 := O31.quiet HQ.out
  clear O31
  have O39 := O32.quiet HQ.out
  clear O32
  clear HB HQ
  have HB := HB7
  clear HB7
  have hb2 : (z0 == z0) = true := by simp
  have hz : (z0).length ≤ 1000000000 := by omega
  go_wp2_with fail
  refine (markIntS_any z0 _ _ _ _ O37 (by omega) (by omega) hz).mono ?_
  rintro e w8 ⟨rfl, hown, hg⟩
  have s8 : w7.heap.size ≤ w8.heap.size := hg.size
  have HG := Lib.hid hg
  clear hg
  have HB8 := Lib.hid (below_mark HB.out HG.out (fun j e => by have := (lt14 j e).1; omega))
  have O40 := O35.kept HG.out (apart_of lt3 lt14 (by omega))
  clear O35
  have O41 := O36.kept HG.out (apart_of lt8 lt14 (by omega))
  clear O36
  have O42 := O38.kept HG.out (apart_of lt21 lt14 (by omega))
  clear O38
  have O43 := O39.kept HG.out (apart_of lt33 lt14 (by omega))
  clear O39
  clear HB HG hz
  have HB := HB8
  clear HB8
  have O44 := hown
  clear hown O37
  have hb3 : decide ((1 + ((z0).length : Int) : Int) < 0) = false := by rw [decide_eq_false_iff_not]; omega
  go_wp2_with fail
  refine (eqIntS_any (encL z0) (encL z0) _ _ _ (row_of_own O42) (row_of_own O41)).mono ?_
  rintro e w9 ⟨rfl, hq⟩
  have HQ := Lib.hid hq
  clear hq
  have s9 : w8.heap.size ≤ w9.heap.size := (HQ.out.below 0).size
  have HB9 := Lib.hid (below_quiet HB.out HQ.out)
  have O45 := O40.quiet HQ.out
  clear O40
  have O46 := O41.quiet HQ.out
  clear O41
  have O47 := O44.quiet HQ.out
  clear O44
  have O48 := O42.quiet HQ.out
  clear O42
  have O49 := O43.quiet HQ.out
  clear O43
  clear HB HQ
  have HB := HB9
  clear HB9
  have hb4 : ((encL z0) == (encL z0)) = true := by simp
  have hz : ((encL z0)).length ≤ 1000000000 := by have := encL_len z0; omega
  go_wp2_with fail
  refine (markIntS_any (encL z0) _ _ _ _ O48 (by omega) (by omega) hz).mono ?_
  rintro e w10 ⟨rfl, hown, hg⟩
  have s10 : w9.heap.size ≤ w10.heap.size := hg.size
  have HG := Lib.hid hg
  clear hg
  have HB10 := Lib.hid (below_mark HB.out HG.out (fun j e => by have := (lt21 j e).1; omega))
  have O50 := O45.kept HG.out (apart_of lt3 lt21 (by omega))
  clear O45
  have O51 := O46.kept HG.out (apart_of lt8 lt21 (by omega))
  clear O46
  have O52 := O47.kept HG.out (apart_of lt14 lt21 (by omega))
  clear O47
  have O53 := O49.kept HG.out (apart_of lt33 lt21 (by omega))
  clear O49
  clear HB HG hz
  have HB := HB10
  clear HB10
  have O54 := hown
  clear hown O48
  have hz : ((encL z0)).length ≤ 1000000000 := by have := encL_len z0; omega
  go_wp2_with fail
  refine (heldIntS_any ((encL z0)).length _ _ _ (row_of_own O54) (by omega) (by omega) hz).mono ?_
  rintro e w11 ⟨rfl, hq⟩
  have HQ := Lib.hid hq
  clear hq hz
  have s11 : w10.heap.size ≤ w11.heap.size := (HQ.out.below 0).size
  have HB11 := Lib.hid (below_quiet HB.out HQ.out)
  have O55 := O50.quiet HQ.out
  clear O50
  have O56 := O51.quiet HQ.out
  clear O51
  have O57 := O52.quiet HQ.out
  clear O52
  have O58 := O54.quiet HQ.out
  clear O54
  have O59 := O53.quiet HQ.out
  clear O53
  clear HB HQ
  have HB := HB11
  clear HB11
  have hb5 : decide ((1 + (((encL z0)).length : Int) : Int) < 0) = false := by rw [decide_eq_false_iff_not]; omega
  have hb6 : ((1 + (((encL z0)).length : Int) : Int) != 1 + (((encL z0)).length : Int)) = false := by simp
  go_wp2_with fail
  refine (toIntS_r z0 _ _ (ra0.belowAll HB.out) (by omega)).mono ?_
  rintro e w12 ⟨r60, rfl, hown, hbel⟩
  have s12 : w11.heap.size ≤ w12.heap.size := hbel.size
  have HB12 := Lib.hid (below_step HB.out hbel)
  have HE := Lib.hid hbel
  clear hbel
  have O61 := O55.belowAll HE.out
  clear O55
  have O62 := O56.belowAll HE.out
  clear O56
  have O63 := O57.belowAll HE.out
  clear O57
  have O64 := O58.belowAll HE.out
  clear O58
  have O65 := O59.belowAll HE.out
  clear O59
  clear HB HE
  have HB := HB12
  clear HB12
  have O66 := hown
  have lt67 := hown.lt
  clear hown
  go_wp2_with fail
  refine (EncodeBlocks_any z0 _ _ (hT.below HB.out) (row_of_own O66)).mono ?_
  rintro e w13 ⟨r69, rfl, hown, hbel⟩
  have s13 : w12.heap.size ≤ w13.heap.size := hbel.size
  have HB13 := Lib.hid (below_step HB.out hbel)
  have HE := Lib.hid hbel
  clear hbel
  have O70 := O61.belowAll HE.out
  clear O61
  have O71 := O62.belowAll HE.out
  clear O62
  have O72 := O63.belowAll HE.out
  clear O63
  have O73 := O64.belowAll HE.out
  clear O64
  have O74 := O65.belowAll HE.out
  clear O65
  have O75 := O66.belowAll HE.out
  clear O66
  clear HB HE
  have HB := HB13
  clear HB13
  have O76 := hown
  have lt77 := hown.lt
  clear hown
  go_wp2_with fail
  refine (eqIntS_any (encL z0) (encL z0) _ _ _ (row_of_own O76) (row_of_own O71)).mono ?_
  rintro e w14 ⟨rfl, hq⟩
  have HQ := Lib.hid hq
  clear hq
  have s14 : w13.heap.size ≤ w14.heap.size := (HQ.out.below 0).size
  have HB14 := Lib.hid (below_quiet HB.out HQ.out)
  have O79 := O70.quiet HQ.out
  clear O70
  have O80 := O71.quiet HQ.out
  clear O71
  have O81 := O72.quiet HQ.out
  clear O72
  have O82 := O73.quiet HQ.out
  clear O73
  have O83 := O74.quiet HQ.out
  clear O74
  have O84 := O75.quiet HQ.out
  clear O75
  have O85 := O76.quiet HQ.out
  clear O76
  clear HB HQ
  have HB := HB14
  clear HB14
  have hb7 : ((encL z0) == (encL z0)) = true := by simp
  have hz : ((encL z0)).length ≤ 1000000000 := by have := encL_len z0; omega
  go_wp2_with fail
  refine (heldIntS_any ((encL z0)).length _ _ _ (row_of_own O82) (by omega) (by omega) hz).mono ?_
  rintro e w15 ⟨rfl, hq⟩
  have HQ := Lib.hid hq
  clear hq hz
  have s15 : w14.heap.size ≤ w15.heap.size := (HQ.out.below 0).size
  have HB15 := Lib.hid (below_quiet HB.out HQ.out)
  have O86 := O79.quiet HQ.out
  clear O79
  have O87 := O80.quiet HQ.out
  clear O80
  have O88 := O81.quiet HQ.out
  clear O81
  have O89 := O82.quiet HQ.out
  clear O82
  have O90 := O83.quiet HQ.out
  clear O83
  have O91 := O84.quiet HQ.out
  clear O84
  have O92 := O85.quiet HQ.out
  clear O85
  clear HB HQ
  have HB := HB15
  clear HB15
  have hb8 : decide ((1 + (((encL z0)).length : Int) : Int) < 0) = false := by rw [decide_eq_false_iff_not]; omega
  have hb9 : ((1 + (((encL z0)).length : Int) : Int) != 1 + (((encL z0)).length : Int)) = false := by simp
  go_wp2
  go_ret
  exact ⟨rfl, HB.out⟩
end Go.Proofs.YthljgookoboieaaDoor
