/-
  Walks of laws. Written by a program (laws_block2.py).
-/
import Derived.Test.YthljgookoboieaaDoorLaidB
import Derived.Test.YthljgookoboieaaDoorDrawE
import Derived.Test.YthljgookoboieaaDoorEnc7
import Derived.Test.YthljgookoboieaaDoorEnc8
import Derived.Test.YthljgookoboieaaDoorBlkN
import Derived.Test.YthljgookoboieaaDoorHamM
namespace Go.Proofs.YthljgookoboieaaDoor
open Go.RowKit
set_option maxHeartbeats 2000000 in
set_option linter.unusedVariables false in
theorem walk_FnNibbleLinear (w : World) (hT : Tabs w) (v0 : Value) (z0 : List Int) (ra0 : RowK .u8 w v0 z0) (hw0 : ∀ n ∈ z0, (Lit.int .u8 n).wf = true) (v1 : Value) (z1 : List Int) (ra1 : RowK .u8 w v1 z1) (hw1 : ∀ n ∈ z1, (Lit.int .u8 n).wf = true) :
    Calls Tryd.prog 6 #[v0, v1] w fun e w' => e = .returned (.bool true) ∧ Below w.heap.size w w' := by
  obtain ⟨aa0, cc0, rfl⟩ := ra0.form
  obtain ⟨aa1, cc1, rfl⟩ := ra1.form
  by_cases hlen0 : 1048576 < z0.length
  · go_enter Tryd.func6, Tryd.ntmps6
    go_wp2
    go_ret
    exact ⟨rfl, Below.refl _ _⟩
  by_cases hlen1 : 1048576 < z1.length
  · go_enter Tryd.func6, Tryd.ntmps6
    go_wp2
    go_ret
    exact ⟨rfl, Below.refl _ _⟩
  have HB : Hid (Below w.heap.size w w) := Below.refl _ _
  go_enter Tryd.func6, Tryd.ntmps6
  go_wp2_with fail
  refine (DrawEncodeNibble_any _ _ _ (ra0.belowAll HB.out) hw0).mono ?_
  rintro e w1 ⟨r1, xs, rfl, ho1, hl1, hbel⟩
  have s1 : w.heap.size ≤ w1.heap.size := hbel.size
  have HB1 := Lib.hid (below_step HB.out hbel)
  have HE := Lib.hid hbel
  clear hbel
  clear HB HE
  have HB := HB1
  clear HB1
  have O1 := ho1
  have lt2 := ho1.lt
  clear ho1
  go_wp2_with fail
  refine (DrawEncodeNibble_any _ _ _ (ra1.belowAll HB.out) hw1).mono ?_
  rintro e w2 ⟨r2, ys, rfl, ho2, hl2, hbel⟩
  have s2 : w1.heap.size ≤ w2.heap.size := hbel.size
  have HB2 := Lib.hid (below_step HB.out hbel)
  have HE := Lib.hid hbel
  clear hbel
  have O3 := O1.belowAll HE.out
  clear O1
  clear HB HE
  have HB := HB2
  clear HB2
  have O4 := ho2
  have lt5 := ho2.lt
  clear ho2
  go_wp2_with fail
  refine (EncodeNibble_any xs _ _ (hT.below HB.out) (row_of_own O3)).mono ?_
  rintro e w3 ⟨r6, rfl, hown, hbel⟩
  have s3 : w2.heap.size ≤ w3.heap.size := hbel.size
  have HB3 := Lib.hid (below_step HB.out hbel)
  have HE := Lib.hid hbel
  clear hbel
  have O7 := O3.belowAll HE.out
  clear O3
  have O8 := O4.belowAll HE.out
  clear O4
  clear HB HE
  have HB := HB3
  clear HB3
  have O9 := hown
  have lt10 := hown.lt
  clear hown
  go_wp2_with fail
  refine (EncodeNibble_any ys _ _ (hT.below HB.out) (row_of_own O8)).mono ?_
  rintro e w4 ⟨r11, rfl, hown, hbel⟩
  have s4 : w3.heap.size ≤ w4.heap.size := hbel.size
  have HB4 := Lib.hid (below_step HB.out hbel)
  have HE := Lib.hid hbel
  clear hbel
  have O12 := O7.belowAll HE.out
  clear O7
  have O13 := O8.belowAll HE.out
  clear O8
  have O14 := O9.belowAll HE.out
  clear O9
  clear HB HE
  have HB := HB4
  clear HB4
  have O15 := hown
  have lt16 := hown.lt
  clear hown
  go_wp2_with fail
  refine (specEncodeNibble_any xs _ _ (row_of_own O12)).mono ?_
  rintro e w5 ⟨r17, rfl, hown, hbel⟩
  have s5 : w4.heap.size ≤ w5.heap.size := hbel.size
  have HB5 := Lib.hid (below_step HB.out hbel)
  have HE := Lib.hid hbel
  clear hbel
  have O18 := O12.belowAll HE.out
  clear O12
  have O19 := O13.belowAll HE.out
  clear O13
  have O20 := O14.belowAll HE.out
  clear O14
  have O21 := O15.belowAll HE.out
  clear O15
  clear HB HE
  have HB := HB5
  clear HB5
  have O22 := hown
  have lt23 := hown.lt
  clear hown
  go_wp2_with fail
  refine (sameInts_any (encN xs) (encN xs) _ _ _ (row_of_own O20) (row_of_own O22)).mono ?_
  rintro e w6 ⟨rfl, hq⟩
  have HQ := Lib.hid hq
  clear hq
  have s6 : w5.heap.size ≤ w6.heap.size := (HQ.out.below 0).size
  have HB6 := Lib.hid (below_quiet HB.out HQ.out)
  have O24 := O18.quiet HQ.out
  clear O18
  have O25 := O19.quiet HQ.out
  clear O19
  have O26 := O20.quiet HQ.out
  clear O20
  have O27 := O21.quiet HQ.out
  clear O21
  have O28 := O22.quiet HQ.out
  clear O22
  clear HB HQ
  have HB := HB6
  clear HB6
  have t1 : (encN xs == encN xs) = true := by simp
  obtain ⟨n, hn1⟩ : ∃ k, k = (encN xs).length := ⟨_, rfl⟩
  obtain ⟨a1, c1, hv1⟩ := (row_of_own O26).form
  rw [← hn1] at hv1
  subst hv1
  have HN1 := Lib.hid hn1.symm
  clear hn1
  obtain ⟨m, hn2⟩ : ∃ k, k = (encN ys).length := ⟨_, rfl⟩
  obtain ⟨a2, c2, hv2⟩ := (row_of_own O27).form
  rw [← hn2] at hv2
  subst hv2
  have HN2 := Lib.hid hn2.symm
  clear hn2
  cases hs : (validB xs && xs.length == 4)
  · obtain rfl : n = 0 := by have := HN1.out; rw [encN_none hs] at this; exact this.symm
    go_wp2_with fail
    refine (alive_any _).mono ?_
    rintro e w7 ⟨rfl, hbel⟩
    have s7 : w6.heap.size ≤ w7.heap.size := hbel.size
    have HB7 := Lib.hid (below_step HB.out hbel)
    have HE := Lib.hid hbel
    clear hbel
    have O29 := O24.belowAll HE.out
    clear O24
    have O30 := O25.belowAll HE.out
    clear O25
    have O31 := O26.belowAll HE.out
    clear O26
    have O32 := O27.belowAll HE.out
    clear O27
    have O33 := O28.belowAll HE.out
    clear O28
    clear HB HE
    have HB := HB7
    clear HB7
    go_wp2
    go_ret
    exact ⟨rfl, HB.out⟩
  · cases hs2 : (validB ys && ys.length == 4)
    · obtain rfl : m = 0 := by have := HN2.out; rw [encN_none hs2] at this; exact this.symm
      obtain rfl : n = 7 := by have := HN1.out; rw [encN_is hs] at this; exact this.symm
      go_wp2_with fail
      refine (alive_any _).mono ?_
      rintro e w7 ⟨rfl, hbel⟩
      have s7 : w6.heap.size ≤ w7.heap.size := hbel.size
      have HB7 := Lib.hid (below_step HB.out hbel)
      have HE := Lib.hid hbel
      clear hbel
      have O29 := O24.belowAll HE.out
      clear O24
      have O30 := O25.belowAll HE.out
      clear O25
      have O31 := O26.belowAll HE.out
      clear O26
      have O32 := O27.belowAll HE.out
      clear O27
      have O33 := O28.belowAll HE.out
      clear O28
      clear HB HE
      have HB := HB7
      clear HB7
      go_wp2
      go_ret
      exact ⟨rfl, HB.out⟩
    · obtain rfl : m = 7 := by have := HN2.out; rw [encN_is hs2] at this; exact this.symm
      obtain rfl : n = 7 := by have := HN1.out; rw [encN_is hs] at this; exact this.symm
      have HNL := Lib.hid (nl_law hs hs2)
      clear hs hs2
      go_wp2_with fail
      refine (AddBits_any xs ys _ _ _ (row_of_own O24) (row_of_own O25)).mono ?_
      rintro e w7 ⟨r29, rfl, hown, hbel⟩
      have s7 : w6.heap.size ≤ w7.heap.size := hbel.size
      have HB7 := Lib.hid (below_step HB.out hbel)
      have HE := Lib.hid hbel
      clear hbel
      have O30 := O24.belowAll HE.out
      clear O24
      have O31 := O25.belowAll HE.out
      clear O25
      have O32 := O26.belowAll HE.out
      clear O26
      have O33 := O27.belowAll HE.out
      clear O27
      have O34 := O28.belowAll HE.out
      clear O28
      clear HB HE
      have HB := HB7
      clear HB7
      have O35 := hown
      have lt36 := hown.lt
      clear hown
      go_wp2_with fail
      refine (EncodeNibble_any (addL xs ys) _ _ (hT.below HB.out) (row_of_own O35)).mono ?_
      rintro e w8 ⟨r37, rfl, hown, hbel⟩
      have s8 : w7.heap.size ≤ w8.heap.size := hbel.size
      have HB8 := Lib.hid (below_step HB.out hbel)
      have HE := Lib.hid hbel
      clear hbel
      have O38 := O30.belowAll HE.out
      clear O30
      have O39 := O31.belowAll HE.out
      clear O31
      have O40 := O32.belowAll HE.out
      clear O32
      have O41 := O33.belowAll HE.out
      clear O33
      have O42 := O34.belowAll HE.out
      clear O34
      have O43 := O35.belowAll HE.out
      clear O35
      clear HB HE
      have HB := HB8
      clear HB8
      have O44 := hown
      have lt45 := hown.lt
      clear hown
      go_wp2_with fail
      refine (AddBits_any (encN xs) (encN ys) _ _ _ (row_of_own O40) (row_of_own O41)).mono ?_
      rintro e w9 ⟨r46, rfl, hown, hbel⟩
      have s9 : w8.heap.size ≤ w9.heap.size := hbel.size
      have HB9 := Lib.hid (below_step HB.out hbel)
      have HE := Lib.hid hbel
      clear hbel
      have O47 := O38.belowAll HE.out
      clear O38
      have O48 := O39.belowAll HE.out
      clear O39
      have O49 := O40.belowAll HE.out
      clear O40
      have O50 := O41.belowAll HE.out
      clear O41
      have O51 := O42.belowAll HE.out
      clear O42
      have O52 := O43.belowAll HE.out
      clear O43
      have O53 := O44.belowAll HE.out
      clear O44
      clear HB HE
      have HB := HB9
      clear HB9
      have O54 := hown
      have lt55 := hown.lt
      clear hown
      have hsb : (encN (addL xs ys) == addL (encN xs) (encN ys)) = true := by rw [HNL.out]; simp
      go_wp2_with fail
      refine (sameInts_any (encN (addL xs ys)) (addL (encN xs) (encN ys)) _ _ _ (row_of_own O53) (row_of_own O54)).mono ?_
      rw [hsb]
      rintro e w10 ⟨rfl, hq⟩
      have HQ := Lib.hid hq
      clear hq
      have s10 : w9.heap.size ≤ w10.heap.size := (HQ.out.below 0).size
      have HB10 := Lib.hid (below_quiet HB.out HQ.out)
      have O56 := O47.quiet HQ.out
      clear O47
      have O57 := O48.quiet HQ.out
      clear O48
      have O58 := O49.quiet HQ.out
      clear O49
      have O59 := O50.quiet HQ.out
      clear O50
      have O60 := O51.quiet HQ.out
      clear O51
      have O61 := O52.quiet HQ.out
      clear O52
      have O62 := O53.quiet HQ.out
      clear O53
      have O63 := O54.quiet HQ.out
      clear O54
      clear HB HQ
      have HB := HB10
      clear HB10
      go_wp2
      go_ret
      exact ⟨rfl, HB.out⟩
end Go.Proofs.YthljgookoboieaaDoor
