/-
  Walks of laws. Written by a program (laws_block2.py).
-/
import Derived.Test.YthljgookoboieabDoorLaidB
import Derived.Test.YthljgookoboieabDoorDrawE
import Derived.Test.YthljgookoboieabDoorEnc7
import Derived.Test.YthljgookoboieabDoorEnc8
import Derived.Test.YthljgookoboieabDoorBlkN
import Derived.Test.YthljgookoboieabDoorHamM
namespace Go.Proofs.YthljgookoboieabDoor
open Go.RowKit
set_option maxHeartbeats 2000000 in
set_option linter.unusedVariables false in
theorem walk_FnDecodeBlocks (w : World) (hT : Tabs w) (v0 : Value) (z0 : List Int) (ra0 : RowK .u8 w v0 z0) (hw0 : ∀ n ∈ z0, (Lit.int .u8 n).wf = true) :
    Calls Tryd.prog 8 #[v0] w fun e w' => e = .returned (.bool true) ∧ Below w.heap.size w w' := by
  obtain ⟨aa0, cc0, rfl⟩ := ra0.form
  by_cases hlen0 : 1048576 < z0.length
  · go_enter Tryd.func8, Tryd.ntmps8
    go_wp2
    go_ret
    exact ⟨rfl, Below.refl _ _⟩
  have HB : Hid (Below w.heap.size w w) := Below.refl _ _
  go_enter Tryd.func8, Tryd.ntmps8
  go_wp2_with fail
  refine (DrawDecodeBlocks_any _ _ _ (ra0.belowAll HB.out) hw0).mono ?_
  rintro e w1 ⟨r1, xs, rfl, ho1, hl1, hbel⟩
  have s1 : w.heap.size ≤ w1.heap.size := hbel.size
  have HB1 := Lib.hid (below_step HB.out hbel)
  have HE := Lib.hid hbel
  clear hbel
  clear HB HE
  have HB := HB1
  clear HB1
  have O1 := ho1
  have lt2 := ho1.lt
  clear ho1
  go_wp2_with fail
  refine (DecodeBlocks_any xs _ _ (hT.below HB.out).p (row_of_own O1)).mono ?_
  rintro e w2 ⟨r2, rfl, ho2, hbel⟩
  have s2 : w1.heap.size ≤ w2.heap.size := hbel.size
  have HB2 := Lib.hid (below_step HB.out hbel)
  have HE := Lib.hid hbel
  clear hbel
  have O3 := O1.belowAll HE.out
  clear O1
  clear HB HE
  have HB := HB2
  clear HB2
  have O4 := ho2
  have lt5 := ho2.lt
  clear ho2
  go_wp2_with fail
  refine (specDecodeBlocks_any xs _ _ (row_of_own O3)).mono ?_
  rintro e w3 ⟨r3, rfl, ho3, hbel⟩
  have s3 : w2.heap.size ≤ w3.heap.size := hbel.size
  have HB3 := Lib.hid (below_step HB.out hbel)
  have HE := Lib.hid hbel
  clear hbel
  have O6 := O3.belowAll HE.out
  clear O3
  have O7 := O4.belowAll HE.out
  clear O4
  clear HB HE
  have HB := HB3
  clear HB3
  have O8 := ho3
  have lt9 := ho3.lt
  clear ho3
  go_wp2_with fail
  refine (sameInts_any (decL xs) (decL xs) _ _ _ (row_of_own O7) (row_of_own O8)).mono ?_
  rintro e w4 ⟨rfl, hq⟩
  have HQ := Lib.hid hq
  clear hq
  have s4 : w3.heap.size ≤ w4.heap.size := (HQ.out.below 0).size
  have HB4 := Lib.hid (below_quiet HB.out HQ.out)
  have O10 := O6.quiet HQ.out
  clear O6
  have O11 := O7.quiet HQ.out
  clear O7
  have O12 := O8.quiet HQ.out
  clear O8
  clear HB HQ
  have HB := HB4
  clear HB4
  have t1 : (decL xs == decL xs) = true := by simp
  have t1b : (badN xs != badN xs) = false := by simp
  obtain ⟨m, hn1⟩ : ∃ k, k = (decL xs).length := ⟨_, rfl⟩
  obtain ⟨a1, c1, hv1⟩ := (row_of_own O11).form
  rw [← hn1] at hv1
  subst hv1
  have HN1 := Lib.hid hn1.symm
  clear hn1
  obtain ⟨n, hn2⟩ : ∃ k, k = (xs).length := ⟨_, rfl⟩
  obtain ⟨a2, c2, hv2⟩ := (row_of_own O10).form
  rw [← hn2] at hv2
  subst hv2
  have HN2 := Lib.hid hn2.symm
  clear hn2
  have hnn : n ≤ 1025 := by have := HN2.out; omega
  have hq : (n : Int).tmod 7 = ((n % 7 : Nat) : Int) := by rw [Int.tmod_eq_emod_of_nonneg (by omega)]; omega
  have hqd : (n : Int).tdiv 7 = ((n / 7 : Nat) : Int) := by rw [Int.tdiv_eq_ediv_of_nonneg (by omega)]; omega
  obtain ⟨q7, hq7⟩ : ∃ q, q = n % 7 := ⟨_, rfl⟩
  rw [← hq7] at hq
  have HOK := Lib.hid (show okD xs = (validB xs && (q7 == 0) && decide (n ≤ 896)) by rw [hq7, ← HN2.out]; rfl)
  have HQ7 := Lib.hid hq7
  clear hq7
  go_wp2_with fail
  refine (isBits_any xs _ _ (row_of_own O10)).mono ?_
  rintro e w5 ⟨rfl, hq⟩
  have HQ := Lib.hid hq
  clear hq
  have s5 : w4.heap.size ≤ w5.heap.size := (HQ.out.below 0).size
  have HB5 := Lib.hid (below_quiet HB.out HQ.out)
  have O13 := O10.quiet HQ.out
  clear O10
  have O14 := O11.quiet HQ.out
  clear O11
  have O15 := O12.quiet HQ.out
  clear O12
  clear HB HQ
  have HB := HB5
  clear HB5
  cases hv : validB xs
  · have hok : okD xs = false := by rw [HOK.out, hv]; rfl
    obtain rfl : m = 0 := by have := HN1.out; rw [show decL xs = [] by simp only [decL, hok]; rfl] at this; exact this.symm
    have hbn : badN xs = 0 := by simp [badN, hok]
    have t4 : (badN xs == 0) = true := by rw [hbn]; rfl
    clear hok
    go_wp2_with fail
    refine (alive_any _).mono ?_
    rintro e w6 ⟨rfl, hbel⟩
    have s6 : w5.heap.size ≤ w6.heap.size := hbel.size
    have HB6 := Lib.hid (below_step HB.out hbel)
    have HE := Lib.hid hbel
    clear hbel
    have O16 := O13.belowAll HE.out
    clear O13
    have O17 := O14.belowAll HE.out
    clear O14
    have O18 := O15.belowAll HE.out
    clear O15
    clear HB HE
    have HB := HB6
    clear HB6
    go_wp2
    go_ret
    exact ⟨rfl, HB.out⟩
  · by_cases hz : q7 = 0
    · subst hz
      by_cases hb9 : n ≤ 896
      · have hok : okD xs = true := by rw [HOK.out, hv, decide_eq_true hb9]; rfl
        have hb9' : (n : Int) ≤ 896 := by omega
        have hlaw := db_law hok
        rw [HN2.out, HN1.out] at hlaw
        have HH := Lib.hid hlaw.1
        have hle : badN xs ≤ ((n / 7 : Nat) : Int) := by have := hlaw.2.1; omega
        have h74 : 7 * m = 4 * n := hlaw.2.2
        have t5 : ((7 : Int) * (m : Int) == 4 * (n : Int)) = true := by rw [beq_iff_eq]; omega
        have t6 : (badN xs == badN xs) = true := by simp
        have t7 : decide (badN xs ≤ ((n / 7 : Nat) : Int)) = true := decide_eq_true hle
        have hm600 : m ≤ 600 := by omega
        clear hlaw hok h74 hb9
        obtain ⟨n7, hn7⟩ : ∃ k, k = n / 7 := ⟨_, rfl⟩
        rw [← hn7] at hqd hle t7
        have hn7b : n7 ≤ 1025 := by omega
        have hwn7 : wrap64 (n7 : Int) = (n7 : Int) := IntWalk.wrap64_in _ ⟨by omega, by omega⟩
        clear hn7
        go_wp2_with fail
        refine (EncodeBlocks_any (decL xs) _ _ (hT.below HB.out) (row_of_own O14)).mono ?_
        rintro e w6 ⟨r16, rfl, hown, hbel⟩
        have s6 : w5.heap.size ≤ w6.heap.size := hbel.size
        have HB6 := Lib.hid (below_step HB.out hbel)
        have HE := Lib.hid hbel
        clear hbel
        have O17 := O13.belowAll HE.out
        clear O13
        have O18 := O14.belowAll HE.out
        clear O14
        have O19 := O15.belowAll HE.out
        clear O15
        clear HB HE
        have HB := HB6
        clear HB6
        have O20 := hown
        have lt21 := hown.lt
        clear hown
        go_wp2_with fail
        refine (HammingDistance_any (encL (decL xs)) xs _ _ _ (row_of_own O20) (row_of_own O17)).mono ?_
        rw [HH.out]
        rintro e w7 ⟨rfl, hq2⟩
        have HQ := Lib.hid hq2
        clear hq2
        have s7 : w6.heap.size ≤ w7.heap.size := (HQ.out.below 0).size
        have HB7 := Lib.hid (below_quiet HB.out HQ.out)
        have O22 := O17.quiet HQ.out
        clear O17
        have O23 := O18.quiet HQ.out
        clear O18
        have O24 := O19.quiet HQ.out
        clear O19
        have O25 := O20.quiet HQ.out
        clear O20
        clear HB HQ
        have HB := HB7
        clear HB7
        go_wp2
        go_ret
        exact ⟨rfl, HB.out⟩
      · have hok : okD xs = false := by rw [HOK.out, decide_eq_false hb9]; simp
        have hb9' : (896 : Int) < (n : Int) := by omega
        clear hb9
        obtain rfl : m = 0 := by have := HN1.out; rw [show decL xs = [] by simp only [decL, hok]; rfl] at this; exact this.symm
        have hbn : badN xs = 0 := by simp [badN, hok]
        have t4 : (badN xs == 0) = true := by rw [hbn]; rfl
        clear hok
        go_wp2_with fail
        refine (alive_any _).mono ?_
        rintro e w6 ⟨rfl, hbel⟩
        have s6 : w5.heap.size ≤ w6.heap.size := hbel.size
        have HB6 := Lib.hid (below_step HB.out hbel)
        have HE := Lib.hid hbel
        clear hbel
        have O16 := O13.belowAll HE.out
        clear O13
        have O17 := O14.belowAll HE.out
        clear O14
        have O18 := O15.belowAll HE.out
        clear O15
        clear HB HE
        have HB := HB6
        clear HB6
        go_wp2
        go_ret
        exact ⟨rfl, HB.out⟩
    · have hok : okD xs = false := by rw [HOK.out]; simp [hz]
      have ht : ((q7 : Int) != 0) = true := by rw [bne_iff_ne]; omega
      have ht2 : ¬ (q7 : Int) = 0 := by omega
      clear hz
      obtain rfl : m = 0 := by have := HN1.out; rw [show decL xs = [] by simp only [decL, hok]; rfl] at this; exact this.symm
      have hbn : badN xs = 0 := by simp [badN, hok]
      have t4 : (badN xs == 0) = true := by rw [hbn]; rfl
      clear hok
      go_wp2_with fail
      refine (alive_any _).mono ?_
      rintro e w6 ⟨rfl, hbel⟩
      have s6 : w5.heap.size ≤ w6.heap.size := hbel.size
      have HB6 := Lib.hid (below_step HB.out hbel)
      have HE := Lib.hid hbel
      clear hbel
      have O16 := O13.belowAll HE.out
      clear O13
      have O17 := O14.belowAll HE.out
      clear O14
      have O18 := O15.belowAll HE.out
      clear O15
      clear HB HE
      have HB := HB6
      clear HB6
      go_wp2
      go_ret
      exact ⟨rfl, HB.out⟩
end Go.Proofs.YthljgookoboieabDoor
