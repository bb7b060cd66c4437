/-
  Walks of laws. Written by a program (laws_check2.py).
-/
import Derived.Test.YtlidppncongfjaaDrawD
import Derived.Test.YtlidppncongfjaaHamM
namespace Go.Proofs.Ytlidppncongfjaa
open Go.RowKit
theorem any_take (zs : List Int) (k : Nat) (hk : k < zs.length) : (zs.take (k + 1)).any (· == 1) = ((zs.take k).any (· == 1) || (zs.getD k 0 == 1)) := by
  rw [take_succ' zs 0 k hk, List.any_append]; simp
set_option maxHeartbeats 1000000 in
set_option linter.unusedVariables false in
theorem walk_FnCheckSum (w : World) (v0 : Value) (z0 : List Int) (ra0 : RowK .u8 w v0 z0) (hw0 : ∀ n ∈ z0, (Lit.int .u8 n).wf = true) :
    Calls Try.prog 6 #[v0] w fun e w' => e = .returned (.bool true) ∧ Below w.heap.size w w' := by
  obtain ⟨aa0, cc0, rfl⟩ := ra0.form
  by_cases hlen0 : 1048576 < z0.length
  · go_enter Try.func6, Try.ntmps6
    go_wp2
    go_ret
    exact ⟨rfl, Below.refl _ _⟩
  have HB : Hid (Below w.heap.size w w) := Below.refl _ _
  go_enter Try.func6, Try.ntmps6
  go_wp2_with fail
  refine (DrawCheckAppend_any _ _ _ (ra0.belowAll HB.out) hw0).mono ?_
  rintro e w1 ⟨r1, xs, g, rfl, ho1, hl1, hg0, hg1, hbel⟩
  have s1 : w.heap.size ≤ w1.heap.size := hbel.size
  have HB1 := Lib.hid (below_step HB.out hbel)
  have HE := Lib.hid hbel
  clear hbel
  clear HB HE
  have HB := HB1
  clear HB1
  have O1 := ho1
  have lt2 := ho1.lt
  clear ho1
  have hwf : (Lit.int .i64 g).wf = true := wf_small (by omega) (by omega)
  go_wp2_with fail
  refine (CheckAppend_any xs g _ _ (row_of_own O1) hwf).mono ?_
  rintro e w2 ⟨r3, rfl, hown, hbel⟩
  have s2 : w1.heap.size ≤ w2.heap.size := hbel.size
  have HB2 := Lib.hid (below_step HB.out hbel)
  have HE := Lib.hid hbel
  clear hbel
  have O4 := O1.belowAll HE.out
  clear O1
  clear HB HE
  have HB := HB2
  clear HB2
  have O5 := hown
  have lt6 := hown.lt
  clear hown
  go_wp2_with fail
  refine (specCheckAppend_any xs g _ _ (row_of_own O4)).mono ?_
  rintro e w3 ⟨r7, rfl, hown, hbel⟩
  have s3 : w2.heap.size ≤ w3.heap.size := hbel.size
  have HB3 := Lib.hid (below_step HB.out hbel)
  have HE := Lib.hid hbel
  clear hbel
  have O8 := O4.belowAll HE.out
  clear O4
  have O9 := O5.belowAll HE.out
  clear O5
  clear HB HE
  have HB := HB3
  clear HB3
  have O10 := hown
  have lt11 := hown.lt
  clear hown
  go_wp2_with fail
  refine (sameInts_any (appL xs g) (appL xs g) _ _ _ (row_of_own O9) (row_of_own O10)).mono ?_
  rintro e w4 ⟨rfl, hq⟩
  have HQ := Lib.hid hq
  clear hq
  have s4 : w3.heap.size ≤ w4.heap.size := (HQ.out.below 0).size
  have HB4 := Lib.hid (below_quiet HB.out HQ.out)
  have O12 := O8.quiet HQ.out
  clear O8
  have O13 := O9.quiet HQ.out
  clear O9
  have O14 := O10.quiet HQ.out
  clear O10
  clear HB HQ
  have HB := HB4
  clear HB4
  have t1 : (appL xs g == appL xs g) = true := by simp
  have hlx := appL_len xs g
  obtain ⟨n, hn1⟩ : ∃ k, k = (xs).length := ⟨_, rfl⟩
  obtain ⟨a1, c1, hv1⟩ := (row_of_own O12).form
  rw [← hn1] at hv1
  subst hv1
  have HN1 := Lib.hid hn1.symm
  clear hn1
  obtain ⟨m, hn2⟩ : ∃ k, k = (appL xs g).length := ⟨_, rfl⟩
  obtain ⟨a2, c2, hv2⟩ := (row_of_own O13).form
  rw [← hn2] at hv2
  subst hv2
  have HN2 := Lib.hid hn2.symm
  clear hn2
  by_cases hm0 : m = 0
  · have t2 : ((m : Int) == 0) = true := by rw [hm0]; rfl
    clear hm0
    go_wp2_with fail
    refine (alive_any _).mono ?_
    rintro e w5 ⟨rfl, hbel⟩
    have s5 : w4.heap.size ≤ w5.heap.size := hbel.size
    have HB5 := Lib.hid (below_step HB.out hbel)
    have HE := Lib.hid hbel
    clear hbel
    have O15 := O12.belowAll HE.out
    clear O12
    have O16 := O13.belowAll HE.out
    clear O13
    have O17 := O14.belowAll HE.out
    clear O14
    clear HB HE
    have HB := HB5
    clear HB5
    go_wp2
    go_ret
    exact ⟨rfl, HB.out⟩
  · have t2 : ((m : Int) == 0) = false := by rw [beq_eq_false_iff_ne]; omega
    have hne : appL xs g ≠ [] := by intro e; have := HN2.out; rw [e] at this; exact hm0 this.symm
    have hvx := (appL_pos hne).1
    have HS := Lib.hid (pass_sum (ys := xs.reverse) hne (bvalid_rev hvx) (by simp))
    have hnn : n ≤ 1100 := by have := HN1.out; omega
    clear hne hvx hm0
    have hm0 := emptySl w4
    have hb0 : Below w4.heap.size w4 (w4.alloc (.cells #[] 3)) := (Below.refl _ w4).alloc (Nat.le_refl _) _
    go_wp2_with fail
    go_loopw [6, 7] (fun r i wr => ∃ (j : Nat) (y : Int), j ≤ n ∧ i = .int .i64 y ∧ y = (j : Int) - 1 ∧ OwnI w4.heap.size wr r (xs.drop j).reverse ∧ Below w4.heap.size w4 wr) (fun _ i _ => (intOf i + 1).toNat)
    case atStart => exact ⟨n, (n : Int) - 1, Nat.le_refl _, rfl, rfl, by have := HN1.out; rw [List.drop_eq_nil_of_le (by omega)]; exact hm0, hb0⟩
    case round =>
      obtain ⟨j, y, hj, rfl, hy, hown, hbel⟩ := hrel
      by_cases hj0 : 0 < j
      · obtain ⟨j, rfl⟩ : ∃ i, j = i + 1 := ⟨j - 1, by omega⟩
        obtain rfl : y = (j : Int) := by omega
        clear hy
        have hlx : j < xs.length := by have := HN1.out; omega
        obtain ⟨_, _, _, _, hcell⟩ := RowK.at (RowK.belowAll (row_of_own O12) hbel)
        obtain ⟨b, off, rfl, hc⟩ := hcell (by omega)
        have hcj := hc j (by omega)
        have HR := Lib.hid (rev_step xs j hlx)
        clear hcell hc
        have hsz := hbel.size
        have hlen : ((xs.drop (j + 1)).reverse).length ≤ 1200 := by simp; omega
        go_wp2_with (at_builtin; refine wp_app1 tabI wr _ (xs.getD j 0) rfl rfl rfl rfl rfl (.tmp 37) (.tmp 42) rfl w4.heap.size u6 ((xs.drop (j + 1)).reverse) rfl 1 rfl hown (by omega) hsz ?_; intro v' w' hown' hgrow hnew)
        have hfin : OwnI w4.heap.size w' v' (xs.drop j).reverse := by rw [HR.out]; simpa [List.getD, hlx] using hown'
        have hfin2 := hbel.trans (below_of_row hgrow hsz (fun k e => (hown.lt k e).1))
        go_roundw
        case rel => first | exact ⟨j, (j : Int) - 1, by omega, by go_num, rfl, hfin, hfin2⟩ | ((repeat apply Exists.intro); exact ⟨⟨j, (j : Int) - 1, by omega, by go_num, rfl, hfin, hfin2⟩, rfl⟩)
        case measure => simp [intOf]
      · obtain rfl : j = 0 := by omega
        obtain rfl : y = -1 := by omega
        clear hy
        have hownr : OwnI w4.heap.size wr u6 xs.reverse := by simpa using hown
        have HBr := Lib.hid (below_step HB.out hbel)
        have Ox := O13.belowAll hbel
        clear hown hbel
        go_wp2_with fail
        refine (CheckAppend_any xs.reverse g _ _ (row_of_own hownr) hwf).mono ?_
        rintro e wa ⟨ra, rfl, hoa, hba⟩
        have Ox2 := Ox.belowAll hba
        have HBa := Lib.hid (below_step HBr.out hba)
        clear hba Ox hownr
        go_wp2_with fail
        refine (AddBits_any (appL xs g) (appL xs.reverse g) _ _ _ (row_of_own Ox2) (row_of_own hoa)).mono ?_
        rintro e wb ⟨rb, rfl, hob, hbb⟩
        have HBb := Lib.hid (below_step HBa.out hbb)
        clear hbb Ox2 hoa
        go_wp2_with fail
        refine (CheckPasses_any (addL (appL xs g) (appL xs.reverse g)) g _ _ (row_of_own hob) hwf).mono ?_
        rintro e wc ⟨rfl, hbc⟩
        have HBc := Lib.hid (below_step HBb.out hbc)
        have t3 := HS.out
        clear hbc
        go_wp2
        go_ret
        exact ⟨rfl, HBc.out⟩
set_option maxHeartbeats 1000000 in
set_option linter.unusedVariables false in
theorem walk_FnBurstDetected (w : World) (v0 : Value) (z0 : List Int) (ra0 : RowK .u8 w v0 z0) (hw0 : ∀ n ∈ z0, (Lit.int .u8 n).wf = true) :
    Calls Try.prog 16 #[v0] w fun e w' => e = .returned (.bool true) ∧ Below w.heap.size w w' := by
  obtain ⟨aa0, cc0, rfl⟩ := ra0.form
  by_cases hlen0 : 1048576 < z0.length
  · go_enter Try.func16, Try.ntmps16
    go_wp2
    go_ret
    exact ⟨rfl, Below.refl _ _⟩
  have HB : Hid (Below w.heap.size w w) := Below.refl _ _
  go_enter Try.func16, Try.ntmps16
  go_wp2_with fail
  refine (DrawBurstDetected_any _ _ _ (ra0.belowAll HB.out) hw0).mono ?_
  rintro e w1 ⟨r1, r2, xs, ys, g, p, rfl, ho1, ho2, hl1, hl2, hg0, hg1, hp0, hp1, hbel⟩
  have s1 : w.heap.size ≤ w1.heap.size := hbel.size
  have HB1 := Lib.hid (below_step HB.out hbel)
  have HE := Lib.hid hbel
  clear hbel
  clear HB HE
  have HB := HB1
  clear HB1
  have O1 := ho1
  have lt2 := ho1.lt
  clear ho1
  have O3 := ho2
  have lt4 := ho2.lt
  clear ho2
  have hwf : (Lit.int .i64 g).wf = true := wf_small (by omega) (by omega)
  go_wp2_with fail
  refine (BurstDetected_any xs ys g p _ _ _ (row_of_own O1) (row_of_own O3) hwf).mono ?_
  rintro e w2 ⟨rfl, hbel⟩
  have s2 : w1.heap.size ≤ w2.heap.size := hbel.size
  have HB2 := Lib.hid (below_step HB.out hbel)
  have HE := Lib.hid hbel
  clear hbel
  have O5 := O1.belowAll HE.out
  clear O1
  have O6 := O3.belowAll HE.out
  clear O3
  clear HB HE
  have HB := HB2
  clear HB2
  go_wp2_with fail
  refine (specBurstDetected_any xs ys g p _ _ _ (row_of_own O5) (row_of_own O6)).mono ?_
  rintro e w3 ⟨rfl, hbel⟩
  have s3 : w2.heap.size ≤ w3.heap.size := hbel.size
  have HB3 := Lib.hid (below_step HB.out hbel)
  have HE := Lib.hid hbel
  clear hbel
  have O7 := O5.belowAll HE.out
  clear O5
  have O8 := O6.belowAll HE.out
  clear O6
  clear HB HE
  have HB := HB3
  clear HB3
  have t1 : (burstB xs g p ys != burstB xs g p ys) = false := by simp
  obtain ⟨n, hn1⟩ : ∃ k, k = (xs).length := ⟨_, rfl⟩
  obtain ⟨a1, c1, hv1⟩ := (row_of_own O7).form
  rw [← hn1] at hv1
  subst hv1
  have HN1 := Lib.hid hn1.symm
  clear hn1
  obtain ⟨m, hn2⟩ : ∃ k, k = (ys).length := ⟨_, rfl⟩
  obtain ⟨a2, c2, hv2⟩ := (row_of_own O8).form
  rw [← hn2] at hv2
  subst hv2
  have HN2 := Lib.hid hn2.symm
  clear hn2
  have hnn : n ≤ 1100 := by have := HN1.out; omega
  have hmm : m ≤ 1100 := by have := HN2.out; omega
  go_wp2_with fail
  refine (CheckPasses_any xs g _ _ (row_of_own O7) hwf).mono ?_
  rintro e w4 ⟨rfl, hbel⟩
  have s4 : w3.heap.size ≤ w4.heap.size := hbel.size
  have HB4 := Lib.hid (below_step HB.out hbel)
  have HE := Lib.hid hbel
  clear hbel
  have O9 := O7.belowAll HE.out
  clear O7
  have O10 := O8.belowAll HE.out
  clear O8
  clear HB HE
  have HB := HB4
  clear HB4
  cases hs : passB xs g
  · have hf : burstB xs g p ys = false := by simp [burstB, hs]
    clear hs
    go_wp2_with fail
    refine (alive_any _).mono ?_
    rintro e w5 ⟨rfl, hbel⟩
    have s5 : w4.heap.size ≤ w5.heap.size := hbel.size
    have HB5 := Lib.hid (below_step HB.out hbel)
    have HE := Lib.hid hbel
    clear hbel
    have O11 := O9.belowAll HE.out
    clear O9
    have O12 := O10.belowAll HE.out
    clear O10
    clear HB HE
    have HB := HB5
    clear HB5
    go_wp2
    go_ret
    exact ⟨rfl, HB.out⟩
  · go_wp2_with fail
    refine (isBits_any ys _ _ (row_of_own O10)).mono ?_
    rintro e w5 ⟨rfl, hq⟩
    have HQ := Lib.hid hq
    clear hq
    have s5 : w4.heap.size ≤ w5.heap.size := (HQ.out.below 0).size
    have HB5 := Lib.hid (below_quiet HB.out HQ.out)
    have O11 := O9.quiet HQ.out
    clear O9
    have O12 := O10.quiet HQ.out
    clear O10
    clear HB HQ
    have HB := HB5
    clear HB5
    cases hv : validB ys
    · have hf : burstB xs g p ys = false := by simp [burstB, hv]
      clear hs
      go_wp2_with fail
      refine (alive_any _).mono ?_
      rintro e w6 ⟨rfl, hbel⟩
      have s6 : w5.heap.size ≤ w6.heap.size := hbel.size
      have HB6 := Lib.hid (below_step HB.out hbel)
      have HE := Lib.hid hbel
      clear hbel
      have O13 := O11.belowAll HE.out
      clear O11
      have O14 := O12.belowAll HE.out
      clear O12
      clear HB HE
      have HB := HB6
      clear HB6
      go_wp2
      go_ret
      exact ⟨rfl, HB.out⟩
    · by_cases hp : p < 0 ∨ (n : Int) - (m : Int) < p
      · have hf : burstB xs g p ys = false := by
          have : inB p 0 ((xs.length : Int) - ys.length) = false := by rw [HN1.out, HN2.out]; simp [inB]; omega
          simp [burstB, this]
        clear hs
        have hcase : (p < 0 ∧ decide (p < 0) = true) ∨ (0 ≤ p ∧ decide (p < 0) = false ∧ (n : Int) - (m : Int) < p ∧ decide ((n : Int) - (m : Int) < p) = true) := by
          by_cases h4 : p < 0
          · left; exact ⟨h4, decide_eq_true h4⟩
          · right; exact ⟨by omega, decide_eq_false h4, by omega, decide_eq_true (by omega)⟩
        clear hp
        rcases hcase with ⟨h4, t4⟩ | ⟨h4, t4, h5, t5⟩
        · go_wp2_with fail
          refine (alive_any _).mono ?_
          rintro e w6 ⟨rfl, hbel⟩
          have s6 : w5.heap.size ≤ w6.heap.size := hbel.size
          have HB6 := Lib.hid (below_step HB.out hbel)
          have HE := Lib.hid hbel
          clear hbel
          have O13 := O11.belowAll HE.out
          clear O11
          have O14 := O12.belowAll HE.out
          clear O12
          clear HB HE
          have HB := HB6
          clear HB6
          go_wp2
          go_ret
          exact ⟨rfl, HB.out⟩
        · go_wp2_with fail
          refine (alive_any _).mono ?_
          rintro e w6 ⟨rfl, hbel⟩
          have s6 : w5.heap.size ≤ w6.heap.size := hbel.size
          have HB6 := Lib.hid (below_step HB.out hbel)
          have HE := Lib.hid hbel
          clear hbel
          have O13 := O11.belowAll HE.out
          clear O11
          have O14 := O12.belowAll HE.out
          clear O12
          clear HB HE
          have HB := HB6
          clear HB6
          go_wp2
          go_ret
          exact ⟨rfl, HB.out⟩
      · obtain ⟨q, rfl⟩ := Int.eq_ofNat_of_zero_le (show 0 ≤ p by omega)
        have t4 : decide ((q : Int) < 0) = false := decide_eq_false (by omega)
        have h5 : (q : Int) ≤ (n : Int) - (m : Int) := by omega
        have t5 : decide ((n : Int) - (m : Int) < (q : Int)) = false := decide_eq_false (by omega)
        have HL := Lib.hid (burst_law (p := q) hs hv (by rw [HN1.out, HN2.out]; omega))
        have HG := Lib.hid (passB_parts hs).2.1
        clear hs hv hp
        go_wp2_with fail
        go_loopw [8, 9] (fun r i wr => ∃ j : Nat, j ≤ m ∧ i = .int .i64 j ∧ r = .bool ((ys.take j).any (· == 1)) ∧ Quiet w5 wr) (fun _ i _ => m - (intOf i).toNat)
        case atStart => exact ⟨0, by omega, rfl, rfl, Quiet.same _⟩
        case round =>
          obtain ⟨j, hj, rfl, rfl, hq⟩ := hrel
          have HQ := Lib.hid hq
          clear hq
          by_cases hlt : j < m
          · obtain ⟨_, _, _, _, hcell⟩ := RowK.at ((row_of_own O12).quiet HQ.out)
            obtain ⟨b0, off, rfl, hc⟩ := hcell (by omega)
            have hcj := hc j hlt
            have HT := Lib.hid (any_take ys j (by have := HN2.out; omega))
            obtain ⟨z, ez⟩ : ∃ z, z = ys.getD j 0 := ⟨_, rfl⟩
            rw [← ez] at hcj HT
            clear hcell hc ez
            cases ha : (ys.take j).any (· == 1)
            · rw [ha] at HT
              go_wp2
              all_goals try (go_quiet (fail); go_wp2)
              go_roundw
              case rel => exact ⟨j + 1, by omega, by go_num, by rw [HT.out]; simp, by first | exact HQ.out | exact HQ.out.trans (Quiet.n _ _)⟩
              case measure => simp [intOf]; omega
            · rw [ha] at HT
              go_wp2
              all_goals try (go_quiet (fail); go_wp2)
              go_roundw
              case rel => exact ⟨j + 1, by omega, by go_num, by rw [HT.out]; simp, by first | exact HQ.out | exact HQ.out.trans (Quiet.n _ _)⟩
              case measure => simp [intOf]; omega
          · obtain rfl : j = m := by omega
            have HA := Lib.hid (show ys.take j = ys by rw [← HN2.out, List.take_length])
            have HB2 := Lib.hid (below_quiet HB.out HQ.out)
            cases ha : (ys.take j).any (· == 1)
            · have hf : burstB xs g (q : Int) ys = false := HL.out.1 (by rw [← HA.out]; exact ha)
              go_wp2
              go_ret
              exact ⟨rfl, HB2.out⟩
            · have HF : Hid (j ≤ degN g → burstB xs g (q : Int) ys = true) := fun hd => HL.out.2 (by rw [← HA.out]; exact ha) (by rw [HN2.out]; exact hd)
              have hD := Lib.hid (show degI g = (degN g : Int) by simp [degI, HG.out])
              by_cases hbig : degN g < j
              · have t6 : decide ((degN g : Int) < (j : Int)) = true := decide_eq_true (by omega)
                have t6b : (degN g : Int) < (j : Int) := by omega
                go_wp2_with fail
                refine (DegreeOf_any g _ hwf).mono ?_
                rw [hD.out]
                rintro e wx ⟨rfl, rfl⟩
                go_wp2
                go_ret
                exact ⟨rfl, HB2.out⟩
              · have t6 : decide ((degN g : Int) < (j : Int)) = false := decide_eq_false (by omega)
                have t6b : (j : Int) ≤ (degN g : Int) := by omega
                have t7 := HF.out (by omega)
                go_wp2_with fail
                refine (DegreeOf_any g _ hwf).mono ?_
                rw [hD.out]
                rintro e wx ⟨rfl, rfl⟩
                go_wp2
                go_ret
                exact ⟨rfl, HB2.out⟩
end Go.Proofs.Ytlidppncongfjaa
