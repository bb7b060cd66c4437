/-
  Walks of laws. Written by a program (laws_shift.py).
-/
import Derived.Test.YtelaceakilhpcaaDrawT
import Derived.Test.YtelaceakilhpcaaHamM
import Derived.Test.YtelaceakilhpcaaScr
namespace Go.Proofs.Ytelaceakilhpcaa
open Go.RowKit
theorem addL_ne {xs ys : List Int} (h : addL xs ys ≠ []) : validB xs = true ∧ validB ys = true ∧ xs.length = ys.length := by
  unfold addL at h
  split at h
  · rename_i h2
    simp only [sameB, Bool.and_eq_true, decide_eq_true_eq] at h2
    exact ⟨h2.1.1, h2.1.2, h2.2⟩
  · exact absurd rfl h

set_option maxHeartbeats 2000000 in
set_option linter.unusedVariables false in
theorem walk_FnShiftPeriod (w : World) (v0 : Value) (z0 : List Int) (ra0 : RowK .u8 w v0 z0) (hw0 : ∀ n ∈ z0, (Lit.int .u8 n).wf = true) :
    Calls Try.prog 7 #[v0] w fun e w' => e = .returned (.bool true) ∧ Below w.heap.size w w' := by
  obtain ⟨aa0, cc0, rfl⟩ := ra0.form
  by_cases hlen0 : 1048576 < z0.length
  · go_enter Try.func7, Try.ntmps7
    go_wp2
    go_ret
    exact ⟨rfl, Below.refl _ _⟩
  have HB : Hid (Below w.heap.size w w) := Below.refl _ _
  go_enter Try.func7, Try.ntmps7
  go_wp2_with fail
  refine (DrawShiftPeriod_any _ _ _ (ra0.belowAll HB.out) hw0).mono ?_
  rintro e w1 ⟨g, s, rfl, hg0, hg1, hs0, hs1, hbel⟩
  have s1 : w.heap.size ≤ w1.heap.size := hbel.size
  have HB1 := Lib.hid (below_step HB.out hbel)
  have HE := Lib.hid hbel
  clear hbel
  clear HB HE
  have HB := HB1
  clear HB1
  have hwf : (Lit.int .i64 g).wf = true := wf_small (by omega) (by omega)
  go_wp2_with fail
  refine (ShiftPeriod_any g s _ hwf).mono ?_
  rintro e w2 ⟨rfl, hbel⟩
  have s2 : w1.heap.size ≤ w2.heap.size := hbel.size
  have HB2 := Lib.hid (below_step HB.out hbel)
  have HE := Lib.hid hbel
  clear hbel
  clear HB HE
  have HB := HB2
  clear HB2
  go_wp2_with fail
  refine (specShiftPeriod_any g s _).mono ?_
  rintro e wx ⟨rfl, rfl⟩
  have t1 : (perI g s != perI g s) = false := by simp
  cases hs : regB g s
  · have hp0 : perI g s = 0 := by simp [perI, hs]
    have t2 : (perI g s == 0) = true := by rw [hp0]; rfl
    cases hg : genB g
    · go_wp2_with fail
      refine (GeneratorValid_any g _ hwf).mono ?_
      rw [hg]
      rintro e wx ⟨rfl, rfl⟩
      go_wp2_with fail
      refine (alive_any _).mono ?_
      rintro e w3 ⟨rfl, hbel⟩
      have s3 : w2.heap.size ≤ w3.heap.size := hbel.size
      have HB3 := Lib.hid (below_step HB.out hbel)
      have HE := Lib.hid hbel
      clear hbel
      clear HB HE
      have HB := HB3
      clear HB3
      go_wp2
      go_ret
      exact ⟨rfl, HB.out⟩
    · by_cases h1 : s < 1
      · go_wp2_with fail
        refine (GeneratorValid_any g _ hwf).mono ?_
        rw [hg]
        rintro e wx ⟨rfl, rfl⟩
        go_wp2_with fail
        refine (alive_any _).mono ?_
        rintro e w3 ⟨rfl, hbel⟩
        have s3 : w2.heap.size ≤ w3.heap.size := hbel.size
        have HB3 := Lib.hid (below_step HB.out hbel)
        have HE := Lib.hid hbel
        clear hbel
        clear HB HE
        have HB := HB3
        clear HB3
        go_wp2
        go_ret
        exact ⟨rfl, HB.out⟩
      · have hpd : (2 : Int) ^ degN g ≤ s := by
          rw [regB, hg, Bool.true_and] at hs
          simp [inB] at hs
          omega
        have hb := deg_bounds hg
        have hDI := Lib.hid (show degI g = (degN g : Int) by simp [degI, hg])
        obtain ⟨d, ed⟩ : ∃ d, d = degN g := ⟨_, rfl⟩
        rw [← ed] at hb hDI hpd
        clear ed
        obtain ⟨_, _, hb3, hb4⟩ := hb
        obtain ⟨p, ep⟩ : ∃ p, p = 2 ^ d := ⟨_, rfl⟩
        have e1 : (2 : Int) ^ d = (p : Int) := by rw [ep]; simp
        have e2 : (2 : Int) ^ (min d 64) = (p : Int) := by rw [Nat.min_eq_left (by omega)]; exact e1
        have hp := pow16 hb4
        rw [← ep] at hp
        have hw1 : wrap64 ((2 : Int) ^ d) = (p : Int) := by rw [e1]; exact IntWalk.wrap64_in _ ⟨by omega, by omega⟩
        have hd64 : (d : Int) ≤ 64 := by omega
        have hpd2 := hpd
        rw [e1] at hpd
        clear ep e1
        have h2 : 1 ≤ s := by omega
        go_wp2_with fail
        refine (GeneratorValid_any g _ hwf).mono ?_
        rw [hg]
        rintro e wx ⟨rfl, rfl⟩
        go_wp2_with (go_at_call 24; refine (DegreeOf_any g _ hwf).mono ?_; rw [hDI.out]; rintro e wx ⟨rfl, rfl⟩)
        refine (alive_any _).mono ?_
        rintro e w3 ⟨rfl, hbel⟩
        have s3 : w2.heap.size ≤ w3.heap.size := hbel.size
        have HB3 := Lib.hid (below_step HB.out hbel)
        have HE := Lib.hid hbel
        clear hbel
        clear HB HE
        have HB := HB3
        clear HB3
        go_wp2
        go_ret
        exact ⟨rfl, HB.out⟩
  · have hpb := per_bounds hs
    have hpd := hpb.2
    have hpos := hpb.1
    have hgv := (reg_parts hs).1
    have hs1p := (reg_parts hs).2.1
    have hb := deg_bounds hgv
    have hDI := Lib.hid (show degI g = (degN g : Int) by simp [degI, hgv])
    obtain ⟨d, ed⟩ : ∃ d, d = degN g := ⟨_, rfl⟩
    rw [← ed] at hb hDI hpd
    clear ed
    obtain ⟨_, _, hb3, hb4⟩ := hb
    obtain ⟨p, ep⟩ : ∃ p, p = 2 ^ d := ⟨_, rfl⟩
    have e1 : (2 : Int) ^ d = (p : Int) := by rw [ep]; simp
    have e2 : (2 : Int) ^ (min d 64) = (p : Int) := by rw [Nat.min_eq_left (by omega)]; exact e1
    have hp := pow16 hb4
    rw [← ep] at hp
    have hw1 : wrap64 ((2 : Int) ^ d) = (p : Int) := by rw [e1]; exact IntWalk.wrap64_in _ ⟨by omega, by omega⟩
    have hd64 : (d : Int) ≤ 64 := by omega
    have hpd2 := hpd
    rw [e1] at hpd
    clear ep e1
    have t2 : (perI g s == 0) = false := by rw [beq_eq_false_iff_ne]; omega
    have t2b : ¬ perI g s = 0 := by omega
    obtain ⟨S, hS⟩ : ∃ S : Nat, (S : Int) = 1 + s % 15 := ⟨(1 + s % 15).toNat, by omega⟩
    have hS1 : 1 ≤ S := by omega
    have hS2 : S < 16 := by omega
    have hq : s.tmod 15 = s % 15 := Int.tmod_eq_emod_of_nonneg (by omega)
    have hS' : 1 + s % 15 = (S : Int) := hS.symm
    have H19 := Lib.hid (per_19 S hS1 hS2)
    clear hS hpb hgv hs
    go_wp2_with (first | (go_at_call 24; refine (DegreeOf_any g _ hwf).mono ?_; rw [hDI.out]; rintro e wx ⟨rfl, rfl⟩) | (go_at_call 14; refine (ShiftPeriod_any 19 (S : Int) _ (by decide)).mono ?_; rw [H19.out]; rintro e wy ⟨rfl, hby⟩; have HBY := Lib.hid (below_step HB.out hby); clear hby))
    go_ret
    exact ⟨rfl, HBY.out⟩
set_option maxHeartbeats 2000000 in
set_option linter.unusedVariables false in
theorem walk_FnScrambledStream (w : World) (v0 : Value) (z0 : List Int) (ra0 : RowK .u8 w v0 z0) (hw0 : ∀ n ∈ z0, (Lit.int .u8 n).wf = true) :
    Calls Try.prog 10 #[v0] w fun e w' => e = .returned (.bool true) ∧ Below w.heap.size w w' := by
  obtain ⟨aa0, cc0, rfl⟩ := ra0.form
  by_cases hlen0 : 1048576 < z0.length
  · go_enter Try.func10, Try.ntmps10
    go_wp2
    go_ret
    exact ⟨rfl, Below.refl _ _⟩
  have HB : Hid (Below w.heap.size w w) := Below.refl _ _
  go_enter Try.func10, Try.ntmps10
  go_wp2_with fail
  refine (DrawAddBits_any _ _ _ (ra0.belowAll HB.out) hw0).mono ?_
  rintro e w1 ⟨r1, r2, xs, ys, rfl, ho1, ho2, hl1, hl2, hbel⟩
  have s1 : w.heap.size ≤ w1.heap.size := hbel.size
  have HB1 := Lib.hid (below_step HB.out hbel)
  have HE := Lib.hid hbel
  clear hbel
  clear HB HE
  have HB := HB1
  clear HB1
  have O1 := ho1
  have lt2 := ho1.lt
  clear ho1
  have O3 := ho2
  have lt4 := ho2.lt
  clear ho2
  go_wp2_with fail
  refine (AddBits_any xs ys _ _ _ (row_of_own O1) (row_of_own O3)).mono ?_
  rintro e w2 ⟨r5, rfl, hown, hbel⟩
  have s2 : w1.heap.size ≤ w2.heap.size := hbel.size
  have HB2 := Lib.hid (below_step HB.out hbel)
  have HE := Lib.hid hbel
  clear hbel
  have O6 := O1.belowAll HE.out
  clear O1
  have O7 := O3.belowAll HE.out
  clear O3
  clear HB HE
  have HB := HB2
  clear HB2
  have O8 := hown
  have lt9 := hown.lt
  clear hown
  go_wp2_with fail
  refine (specAddBits_any xs ys _ _ _ (row_of_own O6) (row_of_own O7)).mono ?_
  rintro e w3 ⟨r10, rfl, hown, hbel⟩
  have s3 : w2.heap.size ≤ w3.heap.size := hbel.size
  have HB3 := Lib.hid (below_step HB.out hbel)
  have HE := Lib.hid hbel
  clear hbel
  have O11 := O6.belowAll HE.out
  clear O6
  have O12 := O7.belowAll HE.out
  clear O7
  have O13 := O8.belowAll HE.out
  clear O8
  clear HB HE
  have HB := HB3
  clear HB3
  have O14 := hown
  have lt15 := hown.lt
  clear hown
  go_wp2_with fail
  refine (sameInts_any (addL xs ys) (addL xs ys) _ _ _ (row_of_own O13) (row_of_own O14)).mono ?_
  rintro e w4 ⟨rfl, hq⟩
  have HQ := Lib.hid hq
  clear hq
  have s4 : w3.heap.size ≤ w4.heap.size := (HQ.out.below 0).size
  have HB4 := Lib.hid (below_quiet HB.out HQ.out)
  have O16 := O11.quiet HQ.out
  clear O11
  have O17 := O12.quiet HQ.out
  clear O12
  have O18 := O13.quiet HQ.out
  clear O13
  have O19 := O14.quiet HQ.out
  clear O14
  clear HB HQ
  have HB := HB4
  clear HB4
  have t1 : (addL xs ys == addL xs ys) = true := by simp
  obtain ⟨n, hn1⟩ : ∃ k, k = (addL xs ys).length := ⟨_, rfl⟩
  obtain ⟨a1, c1, hv1⟩ := (row_of_own O18).form
  rw [← hn1] at hv1
  subst hv1
  have HN1 := Lib.hid hn1.symm
  clear hn1
  by_cases hn0 : n = 0
  · have t2 : ((n : Int) == 0) = true := by rw [hn0]; rfl
    clear hn0
    go_wp2_with fail
    refine (alive_any _).mono ?_
    rintro e w5 ⟨rfl, hbel⟩
    have s5 : w4.heap.size ≤ w5.heap.size := hbel.size
    have HB5 := Lib.hid (below_step HB.out hbel)
    have HE := Lib.hid hbel
    clear hbel
    have O20 := O16.belowAll HE.out
    clear O16
    have O21 := O17.belowAll HE.out
    clear O17
    have O22 := O18.belowAll HE.out
    clear O18
    have O23 := O19.belowAll HE.out
    clear O19
    clear HB HE
    have HB := HB5
    clear HB5
    go_wp2
    go_ret
    exact ⟨rfl, HB.out⟩
  · have t2 : ((n : Int) == 0) = false := by rw [beq_eq_false_iff_ne]; omega
    have t2b : ¬ (n : Int) = 0 := by omega
    have hne : addL xs ys ≠ [] := by intro e; have := HN1.out; rw [e] at this; exact hn0 this.symm
    have hv := addL_ne hne
    have HSS := Lib.hid (scr_stream hv.1 hv.2.1 hv.2.2)
    clear hne hv hn0
    go_wp2_with fail
    refine (ScrambleBits_any (addL xs ys) 19 5 _ _ (row_of_own O18) (by decide)).mono ?_
    rintro e w5 ⟨r20, rfl, hown, hbel⟩
    have s5 : w4.heap.size ≤ w5.heap.size := hbel.size
    have HB5 := Lib.hid (below_step HB.out hbel)
    have HE := Lib.hid hbel
    clear hbel
    have O21 := O16.belowAll HE.out
    clear O16
    have O22 := O17.belowAll HE.out
    clear O17
    have O23 := O18.belowAll HE.out
    clear O18
    have O24 := O19.belowAll HE.out
    clear O19
    clear HB HE
    have HB := HB5
    clear HB5
    have O25 := hown
    have lt26 := hown.lt
    clear hown
    go_wp2_with fail
    refine (ScrambleBits_any xs 19 5 _ _ (row_of_own O21) (by decide)).mono ?_
    rintro e w6 ⟨r27, rfl, hown, hbel⟩
    have s6 : w5.heap.size ≤ w6.heap.size := hbel.size
    have HB6 := Lib.hid (below_step HB.out hbel)
    have HE := Lib.hid hbel
    clear hbel
    have O28 := O21.belowAll HE.out
    clear O21
    have O29 := O22.belowAll HE.out
    clear O22
    have O30 := O23.belowAll HE.out
    clear O23
    have O31 := O24.belowAll HE.out
    clear O24
    have O32 := O25.belowAll HE.out
    clear O25
    clear HB HE
    have HB := HB6
    clear HB6
    have O33 := hown
    have lt34 := hown.lt
    clear hown
    go_wp2_with fail
    refine (AddBits_any (scrL xs 19 5) ys _ _ _ (row_of_own O33) (row_of_own O29)).mono ?_
    rintro e w7 ⟨r35, rfl, hown, hbel⟩
    have s7 : w6.heap.size ≤ w7.heap.size := hbel.size
    have HB7 := Lib.hid (below_step HB.out hbel)
    have HE := Lib.hid hbel
    clear hbel
    have O36 := O28.belowAll HE.out
    clear O28
    have O37 := O29.belowAll HE.out
    clear O29
    have O38 := O30.belowAll HE.out
    clear O30
    have O39 := O31.belowAll HE.out
    clear O31
    have O40 := O32.belowAll HE.out
    clear O32
    have O41 := O33.belowAll HE.out
    clear O33
    clear HB HE
    have HB := HB7
    clear HB7
    have O42 := hown
    have lt43 := hown.lt
    clear hown
    have hsb : (scrL (addL xs ys) 19 5 == addL (scrL xs 19 5) ys) = true := by rw [HSS.out]; simp
    go_wp2_with fail
    refine (sameInts_any (scrL (addL xs ys) 19 5) (addL (scrL xs 19 5) ys) _ _ _ (row_of_own O40) (row_of_own O42)).mono ?_
    rw [hsb]
    rintro e w8 ⟨rfl, hq⟩
    have HQ := Lib.hid hq
    clear hq
    have s8 : w7.heap.size ≤ w8.heap.size := (HQ.out.below 0).size
    have HB8 := Lib.hid (below_quiet HB.out HQ.out)
    have O44 := O36.quiet HQ.out
    clear O36
    have O45 := O37.quiet HQ.out
    clear O37
    have O46 := O38.quiet HQ.out
    clear O38
    have O47 := O39.quiet HQ.out
    clear O39
    have O48 := O40.quiet HQ.out
    clear O40
    have O49 := O41.quiet HQ.out
    clear O41
    have O50 := O42.quiet HQ.out
    clear O42
    clear HB HQ
    have HB := HB8
    clear HB8
    go_wp2
    go_ret
    exact ⟨rfl, HB.out⟩
set_option maxHeartbeats 2000000 in
set_option linter.unusedVariables false in
theorem walk_FnScrambleBits (w : World) (v0 : Value) (z0 : List Int) (ra0 : RowK .u8 w v0 z0) (hw0 : ∀ n ∈ z0, (Lit.int .u8 n).wf = true) :
    Calls Try.prog 12 #[v0] w fun e w' => e = .returned (.bool true) ∧ Below w.heap.size w w' := by
  obtain ⟨aa0, cc0, rfl⟩ := ra0.form
  by_cases hlen0 : 1048576 < z0.length
  · go_enter Try.func12, Try.ntmps12
    go_wp2
    go_ret
    exact ⟨rfl, Below.refl _ _⟩
  have HB : Hid (Below w.heap.size w w) := Below.refl _ _
  go_enter Try.func12, Try.ntmps12
  go_wp2_with fail
  refine (DrawScrambleBits_any _ _ _ (ra0.belowAll HB.out) hw0).mono ?_
  rintro e w1 ⟨r1, xs, g, s, rfl, ho1, hl1, hg0, hg1, hs0, hs1, hbel⟩
  have s1 : w.heap.size ≤ w1.heap.size := hbel.size
  have HB1 := Lib.hid (below_step HB.out hbel)
  have HE := Lib.hid hbel
  clear hbel
  clear HB HE
  have HB := HB1
  clear HB1
  have O1 := ho1
  have lt2 := ho1.lt
  clear ho1
  have hwf : (Lit.int .i64 g).wf = true := wf_small (by omega) (by omega)
  go_wp2_with fail
  refine (ScrambleBits_any xs g s _ _ (row_of_own O1) hwf).mono ?_
  rintro e w2 ⟨r3, rfl, hown, hbel⟩
  have s2 : w1.heap.size ≤ w2.heap.size := hbel.size
  have HB2 := Lib.hid (below_step HB.out hbel)
  have HE := Lib.hid hbel
  clear hbel
  have O4 := O1.belowAll HE.out
  clear O1
  clear HB HE
  have HB := HB2
  clear HB2
  have O5 := hown
  have lt6 := hown.lt
  clear hown
  go_wp2_with fail
  refine (specScrambleBits_any xs g s _ _ (row_of_own O4)).mono ?_
  rintro e w3 ⟨r7, rfl, hown, hbel⟩
  have s3 : w2.heap.size ≤ w3.heap.size := hbel.size
  have HB3 := Lib.hid (below_step HB.out hbel)
  have HE := Lib.hid hbel
  clear hbel
  have O8 := O4.belowAll HE.out
  clear O4
  have O9 := O5.belowAll HE.out
  clear O5
  clear HB HE
  have HB := HB3
  clear HB3
  have O10 := hown
  have lt11 := hown.lt
  clear hown
  go_wp2_with fail
  refine (sameInts_any (scrL xs g s) (scrL xs g s) _ _ _ (row_of_own O9) (row_of_own O10)).mono ?_
  rintro e w4 ⟨rfl, hq⟩
  have HQ := Lib.hid hq
  clear hq
  have s4 : w3.heap.size ≤ w4.heap.size := (HQ.out.below 0).size
  have HB4 := Lib.hid (below_quiet HB.out HQ.out)
  have O12 := O8.quiet HQ.out
  clear O8
  have O13 := O9.quiet HQ.out
  clear O9
  have O14 := O10.quiet HQ.out
  clear O10
  clear HB HQ
  have HB := HB4
  clear HB4
  have t1 : (scrL xs g s == scrL xs g s) = true := by simp
  obtain ⟨n, hn1⟩ : ∃ k, k = (scrL xs g s).length := ⟨_, rfl⟩
  obtain ⟨a1, c1, hv1⟩ := (row_of_own O13).form
  rw [← hn1] at hv1
  subst hv1
  have HN1 := Lib.hid hn1.symm
  clear hn1
  obtain ⟨m, hn2⟩ : ∃ k, k = (xs).length := ⟨_, rfl⟩
  obtain ⟨a2, c2, hv2⟩ := (row_of_own O12).form
  rw [← hn2] at hv2
  subst hv2
  have HN2 := Lib.hid hn2.symm
  clear hn2
  by_cases hn0 : n = 0
  · have t2 : ((n : Int) == 0) = true := by rw [hn0]; rfl
    clear hn0
    go_wp2_with fail
    refine (alive_any _).mono ?_
    rintro e w5 ⟨rfl, hbel⟩
    have s5 : w4.heap.size ≤ w5.heap.size := hbel.size
    have HB5 := Lib.hid (below_step HB.out hbel)
    have HE := Lib.hid hbel
    clear hbel
    have O15 := O12.belowAll HE.out
    clear O12
    have O16 := O13.belowAll HE.out
    clear O13
    have O17 := O14.belowAll HE.out
    clear O14
    clear HB HE
    have HB := HB5
    clear HB5
    go_wp2
    go_ret
    exact ⟨rfl, HB.out⟩
  · have t2 : ((n : Int) == 0) = false := by rw [beq_eq_false_iff_ne]; omega
    have t2b : ¬ (n : Int) = 0 := by omega
    have hok : (validB xs && regB g s) = true := by
      cases h : (validB xs && regB g s)
      · exact absurd (by have := HN1.out; rw [scr_neg h] at this; exact this.symm) hn0
      · rfl
    simp only [Bool.and_eq_true] at hok
    have hm2 : m ≤ 1024 := by have := HN2.out; have := valid_len hok.1; omega
    have HSB := Lib.hid (show (scrL (scrL xs g s) g s == xs) = true by rw [scr_back hok.1 hok.2]; simp)
    have HSZ := Lib.hid (show (scrL (List.replicate m 0) g s == shiftL g s m) = true by rw [scr_zeros hm2 hok.2]; simp)
    clear hn0 hok
    go_wp2_with fail
    refine (ScrambleBits_any (scrL xs g s) g s _ _ (row_of_own O13) hwf).mono ?_
    rintro e w5 ⟨r15, rfl, hown, hbel⟩
    have s5 : w4.heap.size ≤ w5.heap.size := hbel.size
    have HB5 := Lib.hid (below_step HB.out hbel)
    have HE := Lib.hid hbel
    clear hbel
    have O16 := O12.belowAll HE.out
    clear O12
    have O17 := O13.belowAll HE.out
    clear O13
    have O18 := O14.belowAll HE.out
    clear O14
    clear HB HE
    have HB := HB5
    clear HB5
    have O19 := hown
    have lt20 := hown.lt
    clear hown
    go_wp2_with fail
    refine (sameInts_any (scrL (scrL xs g s) g s) xs _ _ _ (row_of_own O19) (row_of_own O16)).mono ?_
    rw [HSB.out]
    rintro e w6 ⟨rfl, hq⟩
    have HQ := Lib.hid hq
    clear hq
    have s6 : w5.heap.size ≤ w6.heap.size := (HQ.out.below 0).size
    have HB6 := Lib.hid (below_quiet HB.out HQ.out)
    have O21 := O16.quiet HQ.out
    clear O16
    have O22 := O17.quiet HQ.out
    clear O17
    have O23 := O18.quiet HQ.out
    clear O18
    have O24 := O19.quiet HQ.out
    clear O19
    clear HB HQ
    have HB := HB6
    clear HB6
    go_wp2_with (at_make; refine wp_make tabI _ rfl _ _ rfl m rfl rfl (by omega) ?_; intro wm hom hbm hsm)
    have HBM := Lib.hid (below_step HB.out hbm)
    clear hbm hsm
    refine (ScrambleBits_any (List.replicate m 0) g s _ _ (row_of_own hom) hwf).mono ?_
    rintro e wn ⟨rn, rfl, hon, hbn⟩
    have HBN := Lib.hid (below_step HBM.out hbn)
    clear hbn hom
    go_wp2_with fail
    refine (ShiftBits_any g s (m : Int) _ hwf).mono ?_
    rintro e wp ⟨rp, rfl, hop, hbp⟩
    have hon2 := hon.belowAll hbp
    have HBP := Lib.hid (below_step HBN.out hbp)
    clear hbp hon
    go_wp2_with fail
    refine (sameInts_any (scrL (List.replicate m 0) g s) (shiftL g s m) _ _ _ (row_of_own hon2) (row_of_own hop)).mono ?_
    rw [HSZ.out]
    rintro e wq ⟨rfl, hbq⟩
    have HBQ := Lib.hid (below_quiet HBP.out hbq)
    go_wp2
    go_ret
    exact ⟨rfl, HBQ.out⟩
end Go.Proofs.Ytelaceakilhpcaa
