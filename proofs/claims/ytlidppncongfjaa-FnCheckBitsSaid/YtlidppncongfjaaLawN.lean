/-
  Walks of laws. Written by a program (laws_check3.py).
-/
import Derived.Test.YtlidppncongfjaaDrawD
import Derived.Test.YtlidppncongfjaaHamM
namespace Go.Proofs.Ytlidppncongfjaa
open Go.RowKit
set_option maxHeartbeats 8000000 in
set_option linter.unusedVariables false in
theorem walk_FnCheckBits (w : World) (v0 : Value) (z0 : List Int) (ra0 : RowK .u8 w v0 z0) (hw0 : ∀ n ∈ z0, (Lit.int .u8 n).wf = true) :
    Calls Try.prog 14 #[v0] w fun e w' => e = .returned (.bool true) ∧ Below w.heap.size w w' := by
  obtain ⟨aa0, cc0, rfl⟩ := ra0.form
  by_cases hlen0 : 1048576 < z0.length
  · go_enter Try.func14, Try.ntmps14
    go_wp2
    go_ret
    exact ⟨rfl, Below.refl _ _⟩
  have HB : Hid (Below w.heap.size w w) := Below.refl _ _
  go_enter Try.func14, Try.ntmps14
  go_wp2_with fail
  refine (DrawCheckBits_any _ _ _ (ra0.belowAll HB.out) hw0).mono ?_
  rintro e w1 ⟨r1, xs, g, rfl, ho1, hl1, hg0, hg1, hbel⟩
  have s1 : w.heap.size ≤ w1.heap.size := hbel.size
  have HB1 := Lib.hid (below_step HB.out hbel)
  have HE := Lib.hid hbel
  clear hbel
  clear HB HE
  have HB := HB1
  clear HB1
  have O1 := ho1
  have lt2 := ho1.lt
  clear ho1
  have hwf : (Lit.int .i64 g).wf = true := wf_small (by omega) (by omega)
  go_wp2_with fail
  refine (CheckBits_any xs g _ _ (row_of_own O1) hwf).mono ?_
  rintro e w2 ⟨r3, rfl, hown, hbel⟩
  have s2 : w1.heap.size ≤ w2.heap.size := hbel.size
  have HB2 := Lib.hid (below_step HB.out hbel)
  have HE := Lib.hid hbel
  clear hbel
  have O4 := O1.belowAll HE.out
  clear O1
  clear HB HE
  have HB := HB2
  clear HB2
  have O5 := hown
  have lt6 := hown.lt
  clear hown
  go_wp2_with fail
  refine (specCheckBits_any xs g _ _ (row_of_own O4)).mono ?_
  rintro e w3 ⟨r7, rfl, hown, hbel⟩
  have s3 : w2.heap.size ≤ w3.heap.size := hbel.size
  have HB3 := Lib.hid (below_step HB.out hbel)
  have HE := Lib.hid hbel
  clear hbel
  have O8 := O4.belowAll HE.out
  clear O4
  have O9 := O5.belowAll HE.out
  clear O5
  clear HB HE
  have HB := HB3
  clear HB3
  have O10 := hown
  have lt11 := hown.lt
  clear hown
  go_wp2_with fail
  refine (sameInts_any (chkL xs g) (chkL xs g) _ _ _ (row_of_own O9) (row_of_own O10)).mono ?_
  rintro e w4 ⟨rfl, hq⟩
  have HQ := Lib.hid hq
  clear hq
  have s4 : w3.heap.size ≤ w4.heap.size := (HQ.out.below 0).size
  have HB4 := Lib.hid (below_quiet HB.out HQ.out)
  have O12 := O8.quiet HQ.out
  clear O8
  have O13 := O9.quiet HQ.out
  clear O9
  have O14 := O10.quiet HQ.out
  clear O10
  clear HB HQ
  have HB := HB4
  clear HB4
  have t1 : (chkL xs g == chkL xs g) = true := by simp
  have hlc := chkL_len xs g
  obtain ⟨n, hn1⟩ : ∃ k, k = (xs).length := ⟨_, rfl⟩
  obtain ⟨a1, c1, hv1⟩ := (row_of_own O12).form
  rw [← hn1] at hv1
  subst hv1
  have HN1 := Lib.hid hn1.symm
  clear hn1
  have hnn : n ≤ 1100 := by have := HN1.out; omega
  go_wp2_with fail
  refine (isBits_any xs _ _ (row_of_own O12)).mono ?_
  rintro e w5 ⟨rfl, hq⟩
  have HQ := Lib.hid hq
  clear hq
  have s5 : w4.heap.size ≤ w5.heap.size := (HQ.out.below 0).size
  have HB5 := Lib.hid (below_quiet HB.out HQ.out)
  have O15 := O12.quiet HQ.out
  clear O12
  have O16 := O13.quiet HQ.out
  clear O13
  have O17 := O14.quiet HQ.out
  clear O14
  clear HB HQ
  have HB := HB5
  clear HB5
  cases hv : validB xs
  · have hs0 : (validB xs && genB g) = false := by rw [hv]; rfl
    have HE2 := Lib.hid (show chkL xs g = [] from chkL_neg hs0)
    obtain ⟨ac, cc, hvc⟩ := (row_of_own O16).form
    rw [HE2.out] at hvc
    simp only [List.length_nil] at hvc
    subst hvc
    clear hs0
    go_wp2_with fail
    refine (alive_any _).mono ?_
    rintro e w6 ⟨rfl, hbel⟩
    have s6 : w5.heap.size ≤ w6.heap.size := hbel.size
    have HB6 := Lib.hid (below_step HB.out hbel)
    have HE := Lib.hid hbel
    clear hbel
    have O18 := O15.belowAll HE.out
    clear O15
    have O19 := O16.belowAll HE.out
    clear O16
    have O20 := O17.belowAll HE.out
    clear O17
    clear HB HE
    have HB := HB6
    clear HB6
    go_wp2
    go_ret
    exact ⟨rfl, HB.out⟩
  · go_wp2_with fail
    refine (GeneratorValid_any g _ hwf).mono ?_
    rintro e wx ⟨rfl, rfl⟩
    cases hs : genB g
    · have hs0 : (validB xs && genB g) = false := by rw [hv, hs]; rfl
      have HE2 := Lib.hid (show chkL xs g = [] from chkL_neg hs0)
      obtain ⟨ac, cc, hvc⟩ := (row_of_own O16).form
      rw [HE2.out] at hvc
      simp only [List.length_nil] at hvc
      subst hvc
      clear hs0
      go_wp2_with fail
      refine (alive_any _).mono ?_
      rintro e w6 ⟨rfl, hbel⟩
      have s6 : w5.heap.size ≤ w6.heap.size := hbel.size
      have HB6 := Lib.hid (below_step HB.out hbel)
      have HE := Lib.hid hbel
      clear hbel
      have O18 := O15.belowAll HE.out
      clear O15
      have O19 := O16.belowAll HE.out
      clear O16
      have O20 := O17.belowAll HE.out
      clear O17
      clear HB HE
      have HB := HB6
      clear HB6
      go_wp2
      go_ret
      exact ⟨rfl, HB.out⟩
    · have hb := deg_bounds hs
      have hD := Lib.hid (show degI g = (degN g : Int) by simp [degI, hs])
      have HCL := Lib.hid (chk_length hv hs)
      have hvr := bvalid_rev hv
      have HLAW := Lib.hid (chk_law (ys := xs.reverse) hv hvr (by simp) hs)
      have HZ := Lib.hid (chk_zeros (n := n) (by have := valid_len hv; have := HN1.out; omega) hs)
      obtain ⟨d, ed⟩ : ∃ d, d = degN g := ⟨_, rfl⟩
      rw [← ed] at hb hD HCL HZ
      clear ed
      obtain ⟨_, _, hb3, hb4⟩ := hb
      obtain ⟨m, hn2⟩ : ∃ k, k = (chkL xs g).length := ⟨_, rfl⟩
      obtain ⟨a2, c2, hv2⟩ := (row_of_own O16).form
      rw [← hn2] at hv2
      subst hv2
      have HN2 := Lib.hid hn2.symm
      clear hn2
      obtain rfl : m = d := by have e1 := HCL.out; have e2 := HN2.out; omega
      have hd16 : m ≤ 1000000000 := by omega
      have hn16 : n ≤ 1000000000 := by omega
      have HDG : Hid (∀ W, Calls Try.prog 22 #[.int .i64 g] W fun e w' => e = .returned (.int .i64 (m : Int)) ∧ W = w') := fun W => by
        have := DegreeOf_any g W hwf
        rw [hD.out] at this; exact this
      have t5 : (addL (chkL xs g) (chkL xs.reverse g) == addL (chkL xs g) (chkL xs.reverse g)) = true := by simp
      have t6 : (List.replicate m (0 : Int) == List.replicate m 0) = true := by simp
      clear hvr hv hs
      have hm0 := emptySl w5
      have hb0 : Below w5.heap.size w5 (w5.alloc (.cells #[] 3)) := (Below.refl _ w5).alloc (Nat.le_refl _) _
      go_wp2_with fail
      go_loopw [6, 7] (fun r i wr => ∃ (j : Nat) (y : Int), j ≤ n ∧ i = .int .i64 y ∧ y = (j : Int) - 1 ∧ OwnI w5.heap.size wr r (xs.drop j).reverse ∧ Below w5.heap.size w5 wr) (fun _ i _ => (intOf i + 1).toNat)
      case atStart => exact ⟨n, (n : Int) - 1, Nat.le_refl _, rfl, rfl, by have := HN1.out; rw [List.drop_eq_nil_of_le (by omega)]; exact hm0, hb0⟩
      case round =>
        obtain ⟨j, y, hj, rfl, hy, hown, hbel⟩ := hrel
        by_cases hj0 : 0 < j
        · obtain ⟨j, rfl⟩ : ∃ i, j = i + 1 := ⟨j - 1, by omega⟩
          obtain rfl : y = (j : Int) := by omega
          clear hy
          have hlx : j < xs.length := by have := HN1.out; omega
          obtain ⟨_, _, _, _, hcell⟩ := RowK.at (RowK.belowAll (row_of_own O15) hbel)
          obtain ⟨b, off, rfl, hc⟩ := hcell (by omega)
          have hcj := hc j (by omega)
          have HR := Lib.hid (rev_step xs j hlx)
          clear hcell hc
          have hsz := hbel.size
          have hlen : ((xs.drop (j + 1)).reverse).length ≤ 1200 := by simp; omega
          go_wp2_with (at_builtin; refine wp_app1 tabI wr _ (xs.getD j 0) rfl rfl rfl rfl rfl (.tmp 48) (.tmp 53) rfl w5.heap.size u6 ((xs.drop (j + 1)).reverse) rfl 1 rfl hown (by omega) hsz ?_; intro v' w' hown' hgrow hnew)
          have hfin : OwnI w5.heap.size w' v' (xs.drop j).reverse := by rw [HR.out]; simpa [List.getD, hlx] using hown'
          have hfin2 := hbel.trans (below_of_row hgrow hsz (fun k e => (hown.lt k e).1))
          go_roundw
          case rel => first | exact ⟨j, (j : Int) - 1, by omega, by go_num, rfl, hfin, hfin2⟩ | ((repeat apply Exists.intro); exact ⟨⟨j, (j : Int) - 1, by omega, by go_num, rfl, hfin, hfin2⟩, rfl⟩)
          case measure => simp [intOf]
        · obtain rfl : j = 0 := by omega
          obtain rfl : y = -1 := by omega
          clear hy
          have hownr : OwnI w5.heap.size wr u6 xs.reverse := by simpa using hown
          have HBr := Lib.hid (below_step HB.out hbel)
          have Oa := O15.belowAll hbel
          have Oc := O16.belowAll hbel
          clear hown hbel
          go_wp2_with fail
          refine (AddBits_any xs xs.reverse _ _ _ (row_of_own Oa) (row_of_own hownr)).mono ?_
          rintro e wa ⟨ra, rfl, hoa, hba⟩
          have Oa2 := Oa.belowAll hba
          have Oc2 := Oc.belowAll hba
          have Or2 := hownr.belowAll hba
          have HBa := Lib.hid (below_step HBr.out hba)
          clear hba Oa Oc hownr
          go_wp2_with fail
          refine (CheckBits_any (addL xs xs.reverse) g _ _ (row_of_own hoa) hwf).mono ?_
          rintro e wb ⟨rb, rfl, hob, hbb⟩
          have Oa3 := Oa2.belowAll hbb
          have Oc3 := Oc2.belowAll hbb
          have Or3 := Or2.belowAll hbb
          have HBb := Lib.hid (below_step HBa.out hbb)
          rw [HLAW.out] at hob
          clear hbb Oa2 Oc2 Or2 hoa
          have HBR : Below wb.heap.size wb wb.drew := (show Quiet wb wb.drew from ⟨1, rfl⟩).below _
          go_wp2_with fail
          go_region_with (first
            | (go_at_call 22; refine (HDG.out _).mono ?_; rintro e wq ⟨rfl, rfl⟩)
            | (go_at_call_of 26 u6; refine (CheckBits_any xs.reverse g _ _ (row_of_own (Or3.belowAll HBR)) hwf).mono ?_; rintro e wq ⟨rq, rfl, hX, hbx⟩; have HBR := below_step HBR hbx; clear hbx)
            | (go_at_call 31; refine (AddBits_any (chkL xs g) (chkL xs.reverse g) _ _ _ (row_of_own (Oc3.belowAll HBR)) (row_of_own hX)).mono ?_; rintro e wq ⟨rq, rfl, hY, hbx⟩; have HBR := below_step HBR hbx; clear hbx hX)
            | (go_at_call_of 25 rb; refine (sameInts_any (addL (chkL xs g) (chkL xs.reverse g)) (addL (chkL xs g) (chkL xs.reverse g)) _ _ _ (row_of_own (hob.belowAll HBR)) (row_of_own hY)).mono ?_; rintro e wq ⟨rfl, hbx⟩; have HBR := below_quiet HBR hbx; clear hbx hY)
            | (with_reducible refine upon_make tabI _ n hn16 ?_; intro wq hM hbx hsx; (try have hL := hL.belowAll hbx); have HBR := below_step HBR hbx; clear hbx)
            | (with_reducible refine upon_make tabI _ m hd16 ?_; intro wq hL hbx hsx; (try have hM := hM.belowAll hbx); (try have hN := hN.belowAll hbx); have HBR := below_step HBR hbx; clear hbx)
            | (go_at_call 26; refine (CheckBits_any (List.replicate n 0) g _ _ (row_of_own hM) hwf).mono ?_; rintro e wq ⟨rq, rfl, hN, hbx⟩; rw [HZ.out] at hN; (try have hL := hL.belowAll hbx); have HBR := below_step HBR hbx; clear hbx hM)
            | (go_at_call 25; refine (sameInts_any (List.replicate m 0) (List.replicate m 0) _ _ _ (row_of_own hN) (row_of_own hL)).mono ?_; rintro e wq ⟨rfl, hbx⟩; have HBR := below_quiet HBR hbx; clear hbx))
          all_goals (go_wp2; go_ret; exact ⟨rfl, below_step HBb.out HBR⟩)
end Go.Proofs.Ytlidppncongfjaa
