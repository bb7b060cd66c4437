/-
  Walks of laws. Written by a program (laws_block2.py).
-/
import Derived.Test.YthljgookoboieabDoorLaidB
import Derived.Test.YthljgookoboieabDoorDrawE
import Derived.Test.YthljgookoboieabDoorEnc7
import Derived.Test.YthljgookoboieabDoorEnc8
import Derived.Test.YthljgookoboieabDoorBlkN
import Derived.Test.YthljgookoboieabDoorHamM
namespace Go.Proofs.YthljgookoboieabDoor
open Go.RowKit
set_option maxHeartbeats 2000000 in
set_option linter.unusedVariables false in
theorem walk_FnDecodeNibble (w : World) (hT : Tabs w) (v0 : Value) (z0 : List Int) (ra0 : RowK .u8 w v0 z0) (hw0 : ∀ n ∈ z0, (Lit.int .u8 n).wf = true) :
    Calls Tryd.prog 5 #[v0] w fun e w' => e = .returned (.bool true) ∧ Below w.heap.size w w' := by
  obtain ⟨aa0, cc0, rfl⟩ := ra0.form
  by_cases hlen0 : 1048576 < z0.length
  · go_enter Tryd.func5, Tryd.ntmps5
    go_wp2
    go_ret
    exact ⟨rfl, Below.refl _ _⟩
  have HB : Hid (Below w.heap.size w w) := Below.refl _ _
  go_enter Tryd.func5, Tryd.ntmps5
  go_wp2_with fail
  refine (DrawDecodeNibble_any _ _ _ (ra0.belowAll HB.out) hw0).mono ?_
  rintro e w1 ⟨r1, xs, rfl, ho1, hl1, hbel⟩
  have s1 : w.heap.size ≤ w1.heap.size := hbel.size
  have HB1 := Lib.hid (below_step HB.out hbel)
  have HE := Lib.hid hbel
  clear hbel
  clear HB HE
  have HB := HB1
  clear HB1
  have O1 := ho1
  have lt2 := ho1.lt
  clear ho1
  go_wp2_with fail
  refine (DecodeNibble_any xs _ _ (hT.below HB.out).p (row_of_own O1)).mono ?_
  rintro e w2 ⟨r2, rfl, ho2, hbel⟩
  have s2 : w1.heap.size ≤ w2.heap.size := hbel.size
  have HB2 := Lib.hid (below_step HB.out hbel)
  have HE := Lib.hid hbel
  clear hbel
  have O3 := O1.belowAll HE.out
  clear O1
  clear HB HE
  have HB := HB2
  clear HB2
  have O4 := ho2
  have lt5 := ho2.lt
  clear ho2
  go_wp2_with fail
  refine (specDecodeNibble_any xs _ _ (row_of_own O3)).mono ?_
  rintro e w3 ⟨r3, rfl, ho3, hbel⟩
  have s3 : w2.heap.size ≤ w3.heap.size := hbel.size
  have HB3 := Lib.hid (below_step HB.out hbel)
  have HE := Lib.hid hbel
  clear hbel
  have O6 := O3.belowAll HE.out
  clear O3
  have O7 := O4.belowAll HE.out
  clear O4
  clear HB HE
  have HB := HB3
  clear HB3
  have O8 := ho3
  have lt9 := ho3.lt
  clear ho3
  go_wp2_with fail
  refine (sameInts_any (decN xs) (decN xs) _ _ _ (row_of_own O7) (row_of_own O8)).mono ?_
  rintro e w4 ⟨rfl, hq⟩
  have HQ := Lib.hid hq
  clear hq
  have s4 : w3.heap.size ≤ w4.heap.size := (HQ.out.below 0).size
  have HB4 := Lib.hid (below_quiet HB.out HQ.out)
  have O10 := O6.quiet HQ.out
  clear O6
  have O11 := O7.quiet HQ.out
  clear O7
  have O12 := O8.quiet HQ.out
  clear O8
  clear HB HQ
  have HB := HB4
  clear HB4
  have t1 : (decN xs == decN xs) = true := by simp
  obtain ⟨f, hf⟩ : ∃ f, f = decW xs := ⟨_, rfl⟩
  have HF := Lib.hid hf
  rw [← hf]
  clear hf
  have t1b : (f != f) = false := by simp
  obtain ⟨n, hn1⟩ : ∃ k, k = (decN xs).length := ⟨_, rfl⟩
  obtain ⟨a1, c1, hv1⟩ := (row_of_own O11).form
  rw [← hn1] at hv1
  subst hv1
  have HN1 := Lib.hid hn1.symm
  clear hn1
  cases hs : (validB xs && xs.length == 7)
  · obtain rfl : n = 0 := by have := HN1.out; rw [(decN_none hs).1] at this; exact this.symm
    obtain rfl : f = false := by rw [HF.out, (decN_none hs).2]
    clear hs
    go_wp2_with fail
    refine (alive_any _).mono ?_
    rintro e w5 ⟨rfl, hbel⟩
    have s5 : w4.heap.size ≤ w5.heap.size := hbel.size
    have HB5 := Lib.hid (below_step HB.out hbel)
    have HE := Lib.hid hbel
    clear hbel
    have O13 := O10.belowAll HE.out
    clear O10
    have O14 := O11.belowAll HE.out
    clear O11
    have O15 := O12.belowAll HE.out
    clear O12
    clear HB HE
    have HB := HB5
    clear HB5
    go_wp2
    go_ret
    exact ⟨rfl, HB.out⟩
  · have hdn := dn_law hs
    obtain rfl : n = 4 := by have := HN1.out; omega
    have HD := Lib.hid hdn.1
    clear hs hdn
    go_wp2_with fail
    refine (EncodeNibble_any (decN xs) _ _ (hT.below HB.out) (row_of_own O11)).mono ?_
    rintro e w5 ⟨r13, rfl, hown, hbel⟩
    have s5 : w4.heap.size ≤ w5.heap.size := hbel.size
    have HB5 := Lib.hid (below_step HB.out hbel)
    have HE := Lib.hid hbel
    clear hbel
    have O14 := O10.belowAll HE.out
    clear O10
    have O15 := O11.belowAll HE.out
    clear O11
    have O16 := O12.belowAll HE.out
    clear O12
    clear HB HE
    have HB := HB5
    clear HB5
    have O17 := hown
    have lt18 := hown.lt
    clear hown
    rw [← HF.out] at HD
    cases f
    · have hh : hamD (encN (decN xs)) xs = 0 := by have := HD.out; simpa using this
      go_wp2_with fail
      refine (HammingDistance_any (encN (decN xs)) xs _ _ _ (row_of_own O17) (row_of_own O14)).mono ?_
      rw [hh]
      rintro e w6 ⟨rfl, hq⟩
      have HQ := Lib.hid hq
      clear hq
      have s6 : w5.heap.size ≤ w6.heap.size := (HQ.out.below 0).size
      have HB6 := Lib.hid (below_quiet HB.out HQ.out)
      have O19 := O14.quiet HQ.out
      clear O14
      have O20 := O15.quiet HQ.out
      clear O15
      have O21 := O16.quiet HQ.out
      clear O16
      have O22 := O17.quiet HQ.out
      clear O17
      clear HB HQ
      have HB := HB6
      clear HB6
      go_wp2
      go_ret
      exact ⟨rfl, HB.out⟩
    · have hh : hamD (encN (decN xs)) xs = 1 := by have := HD.out; simpa using this
      go_wp2_with fail
      refine (HammingDistance_any (encN (decN xs)) xs _ _ _ (row_of_own O17) (row_of_own O14)).mono ?_
      rw [hh]
      rintro e w6 ⟨rfl, hq⟩
      have HQ := Lib.hid hq
      clear hq
      have s6 : w5.heap.size ≤ w6.heap.size := (HQ.out.below 0).size
      have HB6 := Lib.hid (below_quiet HB.out HQ.out)
      have O19 := O14.quiet HQ.out
      clear O14
      have O20 := O15.quiet HQ.out
      clear O15
      have O21 := O16.quiet HQ.out
      clear O16
      have O22 := O17.quiet HQ.out
      clear O17
      clear HB HQ
      have HB := HB6
      clear HB6
      go_wp2
      go_ret
      exact ⟨rfl, HB.out⟩
end Go.Proofs.YthljgookoboieabDoor
