/-
  Walks of laws. Written by a program (laws_bits.py).
-/
import Derived.Test.YtjlocicelnndhaaLawB
namespace Go.Proofs.Ytjlocicelnndhaa
open Go.RowKit
set_option maxHeartbeats 1000000 in
set_option linter.unusedVariables false in
theorem walk_FnHammingDistance (w : World) (v0 : Value) (z0 : List Int) (ra0 : RowK .u8 w v0 z0) (hw0 : ∀ n ∈ z0, (Lit.int .u8 n).wf = true) :
    Calls Try.prog 11 #[v0] w fun e w' => e = .returned (.bool true) ∧ Below w.heap.size w w' := by
  obtain ⟨aa0, cc0, rfl⟩ := ra0.form
  by_cases hlen0 : 1048576 < z0.length
  · go_enter Try.func11, Try.ntmps11
    go_wp2
    go_ret
    exact ⟨rfl, Below.refl _ _⟩
  have HB : Hid (Below w.heap.size w w) := Below.refl _ _
  go_enter Try.func11, Try.ntmps11
  go_wp2_with fail
  refine (DrawHammingDistance_any _ _ _ (ra0.belowAll HB.out) hw0).mono ?_
  rintro e w1 ⟨r1, r2, xs, ys, rfl, ho1, ho2, hl1, hl2, hbel⟩
  have s1 : w.heap.size ≤ w1.heap.size := hbel.size
  have HB1 := Lib.hid (below_step HB.out hbel)
  have HE := Lib.hid hbel
  clear hbel
  clear HB HE
  have HB := HB1
  clear HB1
  have O1 := ho1
  have lt2 := ho1.lt
  clear ho1
  have O3 := ho2
  have lt4 := ho2.lt
  clear ho2
  go_wp2_with fail
  refine (HammingDistance_any xs ys _ _ _ (row_of_own O1) (row_of_own O3)).mono ?_
  rintro e w2 ⟨rfl, hq⟩
  have HQ := Lib.hid hq
  clear hq
  have s2 : w1.heap.size ≤ w2.heap.size := (HQ.out.below 0).size
  have HB2 := Lib.hid (below_quiet HB.out HQ.out)
  have O5 := O1.quiet HQ.out
  clear O1
  have O6 := O3.quiet HQ.out
  clear O3
  clear HB HQ
  have HB := HB2
  clear HB2
  go_wp2_with fail
  refine (specHammingDistance_any xs ys _ _ _ (row_of_own O5) (row_of_own O6)).mono ?_
  rintro e w3 ⟨rfl, hq⟩
  have HQ := Lib.hid hq
  clear hq
  have s3 : w2.heap.size ≤ w3.heap.size := (HQ.out.below 0).size
  have HB3 := Lib.hid (below_quiet HB.out HQ.out)
  have O7 := O5.quiet HQ.out
  clear O5
  have O8 := O6.quiet HQ.out
  clear O6
  clear HB HQ
  have HB := HB3
  clear HB3
  have t1 : (hamD xs ys != hamD xs ys) = false := by simp
  go_wp2_with fail
  refine (HammingDistance_any ys xs _ _ _ (row_of_own O8) (row_of_own O7)).mono ?_
  rintro e w4 ⟨rfl, hq⟩
  have HQ := Lib.hid hq
  clear hq
  have s4 : w3.heap.size ≤ w4.heap.size := (HQ.out.below 0).size
  have HB4 := Lib.hid (below_quiet HB.out HQ.out)
  have O9 := O7.quiet HQ.out
  clear O7
  have O10 := O8.quiet HQ.out
  clear O8
  clear HB HQ
  have HB := HB4
  clear HB4
  have t2 : hamD ys xs = hamD xs ys := hamD_comm ys xs
  cases hs : sameB xs ys
  · have t3 := hamD_neg hs
    go_wp2_with fail
    refine (alive_any _).mono ?_
    rintro e w5 ⟨rfl, hbel⟩
    have s5 : w4.heap.size ≤ w5.heap.size := hbel.size
    have HB5 := Lib.hid (below_step HB.out hbel)
    have HE := Lib.hid hbel
    clear hbel
    have O11 := O9.belowAll HE.out
    clear O9
    have O12 := O10.belowAll HE.out
    clear O10
    clear HB HE
    have HB := HB5
    clear HB5
    go_wp2
    go_ret
    exact ⟨rfl, HB.out⟩
  · have t3 : decide (hamD xs ys < 0) = false := by have := (hamD_le hs).1; simp; omega
    have t3b := (hamD_le hs).1
    have HS := Lib.hid hs
    obtain ⟨n, hn1⟩ : ∃ k, k = (xs).length := ⟨_, rfl⟩
    obtain ⟨a1, c1, hv1⟩ := (row_of_own O9).form
    rw [← hn1] at hv1
    subst hv1
    have HN1 := Lib.hid hn1.symm
    clear hn1
    go_wp2_with fail
    refine (AddBits_any xs ys _ _ _ (row_of_own O9) (row_of_own O10)).mono ?_
    rintro e w5 ⟨r11, rfl, hown, hbel⟩
    have s5 : w4.heap.size ≤ w5.heap.size := hbel.size
    have HB5 := Lib.hid (below_step HB.out hbel)
    have HE := Lib.hid hbel
    clear hbel
    have O12 := O9.belowAll HE.out
    clear O9
    have O13 := O10.belowAll HE.out
    clear O10
    clear HB HE
    have HB := HB5
    clear HB5
    have O14 := hown
    have lt15 := hown.lt
    clear hown
    go_wp2_with fail
    refine (sameInts_any xs ys _ _ _ (row_of_own O12) (row_of_own O13)).mono ?_
    rintro e w6 ⟨rfl, hq⟩
    have HQ := Lib.hid hq
    clear hq
    have s6 : w5.heap.size ≤ w6.heap.size := (HQ.out.below 0).size
    have HB6 := Lib.hid (below_quiet HB.out HQ.out)
    have O16 := O12.quiet HQ.out
    clear O12
    have O17 := O13.quiet HQ.out
    clear O13
    have O18 := O14.quiet HQ.out
    clear O14
    clear HB HQ
    have HB := HB6
    clear HB6
    have t4 : ((hamD xs ys == 0) == (xs == ys)) = true := by rw [hamD_zero HS.out]; simp
    have t5 : hamD xs ys ≤ (n : Int) := by have := (hamD_le HS.out).2; rw [HN1.out] at this; exact this
    have hn4 : n ≤ 1000000000 := by have := HN1.out; omega
    clear hs
    go_wp2_with (at_make; refine wp_make tabI _ rfl _ _ rfl n rfl rfl hn4 ?_; intro wm hown hbel hsz)
    have O1 := O18.belowAll hbel
    have HBm := Lib.hid (below_step HB.out hbel)
    go_wp2_with fail
    refine (HammingDistance_any (addL xs ys) (List.replicate n 0) _ _ _ (row_of_own O1) (row_of_own hown)).mono ?_
    rintro e wz ⟨rfl, hq⟩
    have HQ := Lib.hid hq
    clear hq
    have t6 : hamD (addL xs ys) (List.replicate n 0) = hamD xs ys := by have := hamD_sum HS.out; rw [HN1.out] at this; exact this
    go_wp2
    go_ret
    exact ⟨rfl, below_quiet HBm.out HQ.out⟩
set_option maxHeartbeats 1000000 in
set_option linter.unusedVariables false in
theorem walk_FnDistanceTriangle (w : World) (v0 : Value) (z0 : List Int) (ra0 : RowK .u8 w v0 z0) (hw0 : ∀ n ∈ z0, (Lit.int .u8 n).wf = true) :
    Calls Try.prog 8 #[v0] w fun e w' => e = .returned (.bool true) ∧ Below w.heap.size w w' := by
  obtain ⟨aa0, cc0, rfl⟩ := ra0.form
  by_cases hlen0 : 1048576 < z0.length
  · go_enter Try.func8, Try.ntmps8
    go_wp2
    go_ret
    exact ⟨rfl, Below.refl _ _⟩
  have HB : Hid (Below w.heap.size w w) := Below.refl _ _
  go_enter Try.func8, Try.ntmps8
  go_wp2_with fail
  refine (DrawHammingDistance_any _ _ _ (ra0.belowAll HB.out) hw0).mono ?_
  rintro e w1 ⟨r1, r2, xs, ys, rfl, ho1, ho2, hl1, hl2, hbel⟩
  have s1 : w.heap.size ≤ w1.heap.size := hbel.size
  have HB1 := Lib.hid (below_step HB.out hbel)
  have HE := Lib.hid hbel
  clear hbel
  clear HB HE
  have HB := HB1
  clear HB1
  have O1 := ho1
  have lt2 := ho1.lt
  clear ho1
  have O3 := ho2
  have lt4 := ho2.lt
  clear ho2
  go_wp2_with fail
  refine (HammingDistance_any xs ys _ _ _ (row_of_own O1) (row_of_own O3)).mono ?_
  rintro e w2 ⟨rfl, hq⟩
  have HQ := Lib.hid hq
  clear hq
  have s2 : w1.heap.size ≤ w2.heap.size := (HQ.out.below 0).size
  have HB2 := Lib.hid (below_quiet HB.out HQ.out)
  have O5 := O1.quiet HQ.out
  clear O1
  have O6 := O3.quiet HQ.out
  clear O3
  clear HB HQ
  have HB := HB2
  clear HB2
  go_wp2_with fail
  refine (specHammingDistance_any xs ys _ _ _ (row_of_own O5) (row_of_own O6)).mono ?_
  rintro e w3 ⟨rfl, hq⟩
  have HQ := Lib.hid hq
  clear hq
  have s3 : w2.heap.size ≤ w3.heap.size := (HQ.out.below 0).size
  have HB3 := Lib.hid (below_quiet HB.out HQ.out)
  have O7 := O5.quiet HQ.out
  clear O5
  have O8 := O6.quiet HQ.out
  clear O6
  clear HB HQ
  have HB := HB3
  clear HB3
  have t1 : (hamD xs ys != hamD xs ys) = false := by simp
  cases hs : sameB xs ys
  · have t3 := hamD_neg hs
    go_wp2_with fail
    refine (alive_any _).mono ?_
    rintro e w4 ⟨rfl, hbel⟩
    have s4 : w3.heap.size ≤ w4.heap.size := hbel.size
    have HB4 := Lib.hid (below_step HB.out hbel)
    have HE := Lib.hid hbel
    clear hbel
    have O9 := O7.belowAll HE.out
    clear O7
    have O10 := O8.belowAll HE.out
    clear O8
    clear HB HE
    have HB := HB4
    clear HB4
    go_wp2
    go_ret
    exact ⟨rfl, HB.out⟩
  · have t3 : decide (hamD xs ys < 0) = false := by have := (hamD_le hs).1; simp; omega
    have t3b := (hamD_le hs).1
    have HS := Lib.hid hs
    clear hs
    obtain ⟨n, hn1⟩ : ∃ k, k = (xs).length := ⟨_, rfl⟩
    obtain ⟨a1, c1, hv1⟩ := (row_of_own O7).form
    rw [← hn1] at hv1
    subst hv1
    have HN1 := Lib.hid hn1.symm
    clear hn1
    have O1 := O7.belowAll ((Below.refl _ w3).alloc (Nat.le_refl _) (.cells #[] 3))
    have O2 := O8.belowAll ((Below.refl _ w3).alloc (Nat.le_refl _) (.cells #[] 3))
    have hmt := nilSlice w3.heap.size w3 (Nat.le_refl _)
    have hbel : Below w3.heap.size w3 (w3.alloc (.cells #[] 3)) := (Below.refl _ w3).alloc (Nat.le_refl _) _
    have HB2 := Lib.hid (below_step HB.out hbel)
    clear hbel
    have hnn : n ≤ 1000 := by have := HN1.out; omega
    go_wp2_with fail
    go_loopw [6, 7] (fun r i wr => ∃ j : Nat, j ≤ n ∧ i = .int .i64 ((j : Int) - 1) ∧ OwnI w3.heap.size wr r (xs.drop j).reverse ∧ Below w3.heap.size w3 wr) (fun _ i _ => (intOf i + 1).toNat)
    case atStart => exact ⟨n, Nat.le_refl _, rfl, by have := HN1.out; rw [List.drop_eq_nil_of_le (by omega)]; exact hmt, (Below.refl _ w3).alloc (Nat.le_refl _) _⟩
    case round =>
      obtain ⟨j, hj, rfl, hown, hbel⟩ := hrel
      by_cases hj0 : 0 < j
      · obtain ⟨j, rfl⟩ : ∃ i, j = i + 1 := ⟨j - 1, by omega⟩
        have ej : ((j + 1 : Nat) : Int) - 1 = (j : Int) := by omega
        have hlx : j < xs.length := by have := HN1.out; omega
        obtain ⟨_, _, _, _, hcell⟩ := RowK.at (RowK.belowAll (row_of_own O7) hbel)
        obtain ⟨b, off, rfl, hc⟩ := hcell (by omega)
        have hcj := hc j (by omega)
        have HR := Lib.hid (rev_step xs j hlx)
        clear hcell hc
        have hsz := hbel.size
        have hlen : ((xs.drop (j + 1)).reverse).length ≤ 1000 := by simp; omega
        go_wp2_with (at_builtin; refine wp_app1 tabI wr _ (xs.getD j 0) rfl rfl rfl rfl rfl (.tmp 35) (.tmp 40) rfl w3.heap.size u6 ((xs.drop (j + 1)).reverse) rfl 1 rfl hown (by omega) hsz ?_; intro v' w' hown' hgrow hnew)
        have hfin : OwnI w3.heap.size w' v' (xs.drop j).reverse := by rw [HR.out]; simpa [List.getD, hlx] using hown'
        have hfin2 := hbel.trans (below_of_row hgrow hsz (fun k e => (hown.lt k e).1))
        go_roundw
        case rel => first | exact ⟨j, by omega, by go_num, hfin, hfin2⟩ | ((repeat apply Exists.intro); exact ⟨⟨j, by omega, by go_num, hfin, hfin2⟩, rfl⟩)
        case measure => simp [intOf]
      · obtain rfl : j = 0 := by omega
        have hown0 : OwnI w3.heap.size wr u6 xs.reverse := by simpa using hown
        have Oa := O7.belowAll hbel
        have Ob := O8.belowAll hbel
        have HB3 := Lib.hid (below_step HB.out hbel)
        clear hown hbel
        go_wp2_with fail
        refine (HammingDistance_any xs xs.reverse _ _ _ (row_of_own Oa) (row_of_own hown0)).mono ?_
        rintro e wy ⟨rfl, hq⟩
        have HQ := Lib.hid hq
        clear hq
        go_wp2_with fail
        refine (HammingDistance_any xs.reverse ys _ _ _ ((row_of_own hown0).quiet HQ.out) ((row_of_own Ob).quiet HQ.out)).mono ?_
        rintro e wz ⟨rfl, hq⟩
        have HQ2 := Lib.hid hq
        clear hq
        have t6 := hamD_tri HS.out
        have t9 : wrap64 (hamD xs xs.reverse + hamD xs.reverse ys) = hamD xs xs.reverse + hamD xs.reverse ys := by
          have e1 := HN1.out
          have t7 := hamD_ge xs xs.reverse
          have t8 := hamD_ge xs.reverse ys
          rw [List.length_reverse] at t8
          exact IntWalk.wrap64_in _ ⟨by omega, by omega⟩
        clear hlen0
        go_wp2
        go_ret
        exact ⟨ret_bool (by simp), below_quiet (below_quiet HB3.out HQ.out) HQ2.out⟩
set_option maxHeartbeats 1000000 in
set_option linter.unusedVariables false in
theorem walk_FnAddBits (w : World) (v0 : Value) (z0 : List Int) (ra0 : RowK .u8 w v0 z0) (hw0 : ∀ n ∈ z0, (Lit.int .u8 n).wf = true) :
    Calls Try.prog 12 #[v0] w fun e w' => e = .returned (.bool true) ∧ Below w.heap.size w w' := by
  obtain ⟨aa0, cc0, rfl⟩ := ra0.form
  by_cases hlen0 : 1048576 < z0.length
  · go_enter Try.func12, Try.ntmps12
    go_wp2
    go_ret
    exact ⟨rfl, Below.refl _ _⟩
  have HB : Hid (Below w.heap.size w w) := Below.refl _ _
  go_enter Try.func12, Try.ntmps12
  go_wp2_with fail
  refine (DrawAddBits_any _ _ _ (ra0.belowAll HB.out) hw0).mono ?_
  rintro e w1 ⟨r1, r2, xs, ys, rfl, ho1, ho2, hl1, hl2, hbel⟩
  have s1 : w.heap.size ≤ w1.heap.size := hbel.size
  have HB1 := Lib.hid (below_step HB.out hbel)
  have HE := Lib.hid hbel
  clear hbel
  clear HB HE
  have HB := HB1
  clear HB1
  have O1 := ho1
  have lt2 := ho1.lt
  clear ho1
  have O3 := ho2
  have lt4 := ho2.lt
  clear ho2
  go_wp2_with fail
  refine (AddBits_any xs ys _ _ _ (row_of_own O1) (row_of_own O3)).mono ?_
  rintro e w2 ⟨r5, rfl, hown, hbel⟩
  have s2 : w1.heap.size ≤ w2.heap.size := hbel.size
  have HB2 := Lib.hid (below_step HB.out hbel)
  have HE := Lib.hid hbel
  clear hbel
  have O6 := O1.belowAll HE.out
  clear O1
  have O7 := O3.belowAll HE.out
  clear O3
  clear HB HE
  have HB := HB2
  clear HB2
  have O8 := hown
  have lt9 := hown.lt
  clear hown
  go_wp2_with fail
  refine (specAddBits_any xs ys _ _ _ (row_of_own O6) (row_of_own O7)).mono ?_
  rintro e w3 ⟨r10, rfl, hown, hbel⟩
  have s3 : w2.heap.size ≤ w3.heap.size := hbel.size
  have HB3 := Lib.hid (below_step HB.out hbel)
  have HE := Lib.hid hbel
  clear hbel
  have O11 := O6.belowAll HE.out
  clear O6
  have O12 := O7.belowAll HE.out
  clear O7
  have O13 := O8.belowAll HE.out
  clear O8
  clear HB HE
  have HB := HB3
  clear HB3
  have O14 := hown
  have lt15 := hown.lt
  clear hown
  go_wp2_with fail
  refine (sameInts_any (addL xs ys) (addL xs ys) _ _ _ (row_of_own O13) (row_of_own O14)).mono ?_
  rintro e w4 ⟨rfl, hq⟩
  have HQ := Lib.hid hq
  clear hq
  have s4 : w3.heap.size ≤ w4.heap.size := (HQ.out.below 0).size
  have HB4 := Lib.hid (below_quiet HB.out HQ.out)
  have O16 := O11.quiet HQ.out
  clear O11
  have O17 := O12.quiet HQ.out
  clear O12
  have O18 := O13.quiet HQ.out
  clear O13
  have O19 := O14.quiet HQ.out
  clear O14
  clear HB HQ
  have HB := HB4
  clear HB4
  have t1 : (addL xs ys == addL xs ys) = true := by simp
  go_wp2_with fail
  refine (AddBits_any ys xs _ _ _ (row_of_own O17) (row_of_own O16)).mono ?_
  rintro e w5 ⟨r20, rfl, hown, hbel⟩
  have s5 : w4.heap.size ≤ w5.heap.size := hbel.size
  have HB5 := Lib.hid (below_step HB.out hbel)
  have HE := Lib.hid hbel
  clear hbel
  have O21 := O16.belowAll HE.out
  clear O16
  have O22 := O17.belowAll HE.out
  clear O17
  have O23 := O18.belowAll HE.out
  clear O18
  have O24 := O19.belowAll HE.out
  clear O19
  clear HB HE
  have HB := HB5
  clear HB5
  have O25 := hown
  have lt26 := hown.lt
  clear hown
  go_wp2_with fail
  refine (sameInts_any (addL xs ys) (addL ys xs) _ _ _ (row_of_own O23) (row_of_own O25)).mono ?_
  rintro e w6 ⟨rfl, hq⟩
  have HQ := Lib.hid hq
  clear hq
  have s6 : w5.heap.size ≤ w6.heap.size := (HQ.out.below 0).size
  have HB6 := Lib.hid (below_quiet HB.out HQ.out)
  have O27 := O21.quiet HQ.out
  clear O21
  have O28 := O22.quiet HQ.out
  clear O22
  have O29 := O23.quiet HQ.out
  clear O23
  have O30 := O24.quiet HQ.out
  clear O24
  have O31 := O25.quiet HQ.out
  clear O25
  clear HB HQ
  have HB := HB6
  clear HB6
  have t2 : (addL xs ys == addL ys xs) = true := by rw [addL_comm ys xs]; simp
  go_wp2_with fail
  refine (isBits_any xs _ _ (row_of_own O27)).mono ?_
  rintro e w7 ⟨rfl, hq⟩
  have HQ := Lib.hid hq
  clear hq
  have s7 : w6.heap.size ≤ w7.heap.size := (HQ.out.below 0).size
  have HB7 := Lib.hid (below_quiet HB.out HQ.out)
  have O32 := O27.quiet HQ.out
  clear O27
  have O33 := O28.quiet HQ.out
  clear O28
  have O34 := O29.quiet HQ.out
  clear O29
  have O35 := O30.quiet HQ.out
  clear O30
  have O36 := O31.quiet HQ.out
  clear O31
  clear HB HQ
  have HB := HB7
  clear HB7
  cases h1 : validB xs
  · have hs0 : (validB xs && validB ys && decide (xs.length = ys.length)) = false := by simp [h1]
    have HE2 := Lib.hid (show addL xs ys = [] by simp [addL, sameB, hs0])
    obtain ⟨ac, cc, hvc⟩ := (row_of_own O34).form
    rw [HE2.out] at hvc
    simp only [List.length_nil] at hvc
    subst hvc
    clear hs0
    go_wp2_with fail
    refine (alive_any _).mono ?_
    rintro e w8 ⟨rfl, hbel⟩
    have s8 : w7.heap.size ≤ w8.heap.size := hbel.size
    have HB8 := Lib.hid (below_step HB.out hbel)
    have HE := Lib.hid hbel
    clear hbel
    have O37 := O32.belowAll HE.out
    clear O32
    have O38 := O33.belowAll HE.out
    clear O33
    have O39 := O34.belowAll HE.out
    clear O34
    have O40 := O35.belowAll HE.out
    clear O35
    have O41 := O36.belowAll HE.out
    clear O36
    clear HB HE
    have HB := HB8
    clear HB8
    go_wp2
    go_ret
    exact ⟨rfl, HB.out⟩
  · go_wp2_with fail
    refine (isBits_any ys _ _ (row_of_own O33)).mono ?_
    rintro e w8 ⟨rfl, hq⟩
    have HQ := Lib.hid hq
    clear hq
    have s8 : w7.heap.size ≤ w8.heap.size := (HQ.out.below 0).size
    have HB8 := Lib.hid (below_quiet HB.out HQ.out)
    have O37 := O32.quiet HQ.out
    clear O32
    have O38 := O33.quiet HQ.out
    clear O33
    have O39 := O34.quiet HQ.out
    clear O34
    have O40 := O35.quiet HQ.out
    clear O35
    have O41 := O36.quiet HQ.out
    clear O36
    clear HB HQ
    have HB := HB8
    clear HB8
    cases h2 : validB ys
    · have hs0 : (validB xs && validB ys && decide (xs.length = ys.length)) = false := by simp [h2]
      have HE2 := Lib.hid (show addL xs ys = [] by simp [addL, sameB, hs0])
      obtain ⟨ac, cc, hvc⟩ := (row_of_own O39).form
      rw [HE2.out] at hvc
      simp only [List.length_nil] at hvc
      subst hvc
      clear hs0
      go_wp2_with fail
      refine (alive_any _).mono ?_
      rintro e w9 ⟨rfl, hbel⟩
      have s9 : w8.heap.size ≤ w9.heap.size := hbel.size
      have HB9 := Lib.hid (below_step HB.out hbel)
      have HE := Lib.hid hbel
      clear hbel
      have O42 := O37.belowAll HE.out
      clear O37
      have O43 := O38.belowAll HE.out
      clear O38
      have O44 := O39.belowAll HE.out
      clear O39
      have O45 := O40.belowAll HE.out
      clear O40
      have O46 := O41.belowAll HE.out
      clear O41
      clear HB HE
      have HB := HB9
      clear HB9
      go_wp2
      go_ret
      exact ⟨rfl, HB.out⟩
    · obtain ⟨n, hn1⟩ : ∃ k, k = (xs).length := ⟨_, rfl⟩
      obtain ⟨a1, c1, hv1⟩ := (row_of_own O37).form
      rw [← hn1] at hv1
      subst hv1
      have HN1 := Lib.hid hn1.symm
      clear hn1
      obtain ⟨m, hn2⟩ : ∃ k, k = (ys).length := ⟨_, rfl⟩
      obtain ⟨a2, c2, hv2⟩ := (row_of_own O38).form
      rw [← hn2] at hv2
      subst hv2
      have HN2 := Lib.hid hn2.symm
      clear hn2
      by_cases h3 : n = m
      · subst h3
        have HS := Lib.hid (sameB_mk h1 h2 (HN1.out.trans HN2.out.symm))
        have HV := Lib.hid h1
        clear h1 h2
        have t9 : ((n : Int) != (n : Int)) = false := by simp
        have t3 : (addL (addL xs ys) ys == xs) = true := by rw [addL_back HS.out]; simp
        have t4 : (addL xs xs == List.replicate n 0) = true := by rw [addL_self HV.out, HN1.out]; simp
        have hn4 : n ≤ 1000000000 := by have := HN1.out; omega
        have HBR : Below w8.heap.size w8 w8.drew := (show Quiet w8 w8.drew from ⟨1, rfl⟩).below _
        go_wp2_with fail
        go_region_with (first
          | (go_at_call_of 28 r5; refine (AddBits_any (addL xs ys) ys _ _ _ ?_ ?_).mono ?_; exact row_of_own (O39.belowAll HBR); exact row_of_own (O38.belowAll HBR); rintro e wa ⟨ra, rfl, hX, hbx⟩; have HBR := below_step HBR hbx; clear hbx)
          | (go_at_call_of 28 (Value.slice a1 n c1); refine (AddBits_any xs xs _ _ _ ?_ ?_).mono ?_; exact row_of_own (O37.belowAll HBR); exact row_of_own (O37.belowAll HBR); rintro e wa ⟨ra, rfl, hY, hbx⟩; (try have hM := hM.belowAll hbx); have HBR := below_step HBR hbx; clear hbx)
          | (with_reducible refine upon_make tabI _ n hn4 ?_; intro wa hM hbx hsx; (try have hY := hY.belowAll hbx); have HBR := below_step HBR hbx; clear hbx)
          | (go_at_call 37; refine (sameInts_any (addL (addL xs ys) ys) xs _ _ _ (row_of_own hX) (row_of_own (O37.belowAll HBR))).mono ?_; rintro e wa ⟨rfl, hbx⟩; have HBR := below_quiet HBR hbx; clear hbx hX)
          | (go_at_call 37; refine (sameInts_any (addL xs xs) (List.replicate n 0) _ _ _ (row_of_own hY) (row_of_own hM)).mono ?_; rintro e wa ⟨rfl, hbx⟩; have HBR := below_quiet HBR hbx; clear hbx))
        all_goals (go_wp2; go_ret; exact ⟨rfl, below_step HB.out HBR⟩)
      · have hs0 : (validB xs && validB ys && decide (xs.length = ys.length)) = false := by have e1 := HN1.out; have e2 := HN2.out; simp [h1, h2]; omega
        have t9 : ((n : Int) != (m : Int)) = true := by simp; omega
        have HE2 := Lib.hid (show addL xs ys = [] by simp [addL, sameB, hs0])
        obtain ⟨ac, cc, hvc⟩ := (row_of_own O39).form
        rw [HE2.out] at hvc
        simp only [List.length_nil] at hvc
        subst hvc
        clear hs0
        go_wp2_with fail
        refine (alive_any _).mono ?_
        rintro e w9 ⟨rfl, hbel⟩
        have s9 : w8.heap.size ≤ w9.heap.size := hbel.size
        have HB9 := Lib.hid (below_step HB.out hbel)
        have HE := Lib.hid hbel
        clear hbel
        have O42 := O37.belowAll HE.out
        clear O37
        have O43 := O38.belowAll HE.out
        clear O38
        have O44 := O39.belowAll HE.out
        clear O39
        have O45 := O40.belowAll HE.out
        clear O40
        have O46 := O41.belowAll HE.out
        clear O41
        clear HB HE
        have HB := HB9
        clear HB9
        go_wp2
        go_ret
        exact ⟨rfl, HB.out⟩
end Go.Proofs.Ytjlocicelnndhaa
